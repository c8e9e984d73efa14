/- Promises of functions, proved by walks over their operations; no conditions beyond those that each theorem states. -/
import Derived.Test.YtgdfpjpfomcilaaGreatReV
import Derived.Test.YtgdfpjpfomcilaaGreatRnC
set_option linter.unusedSimpArgs false
set_option linter.unusedVariables false
namespace Go.Rl
open Go.Proofs Go.Proofs.Tryz
set_option maxRecDepth 1000000
set_option maxHeartbeats 2000000
theorem zFz : (Tryz.prog.info? 110).map (fun i => (i.zero, i.size, i.bytes)) = some (some (.agg #[.int .i64 0, .string ⟨#[]⟩, .string ⟨#[]⟩]), 3, 40) := by kernel_rfl
theorem zBy : (Tryz.prog.info? 28).map (fun i => (i.zero, i.size, i.bytes)) = some (some (.agg #[.int .i64 0, .slice none 0 0, .slice none 0 0, .slice none 0 0]), 4, 80) := by kernel_rfl
theorem en27 : En Tryz.prog 27 := zAn func27 (by decide) rfl
theorem en87 : En Tryz.prog 87 := zAn func87 (by decide) rfl
theorem en46 : En Tryz.prog 46 := zAn func46 (by decide) rfl
theorem en74 : En Tryz.prog 74 := zAn func74 (by decide) rfl
theorem zMC {s : Int} (h : zA1 s 1 999999999980 = true) : 1 ≤ s ∧ s ≤ 999999999980 := by simpa [zA1] using h
theorem zOD {s : Int} {ops : List Bop} {i : Nat} {o : Bop} (hG : ∀ j o, j < i → ops[j]? = some o → zBh (bent s j o) = true) (ho : ops[i]? = some o) (h : zBh (bent s i o) = true) : ∀ j o, j < i + 1 → ops[j]? = some o → zBh (bent s j o) = true := fun j o2 hj h2 => by
 by_cases hji : j = i
 · subst hji; rw [ho] at h2; cases h2; exact h
 · exact hG j o2 (by omega) h2
theorem zGs (s : Int) (ops : List Bop) (i : Nat) (o : Bop) (ho : ops[i]? = some o) (hl : ops.length ≤ 2000) (hs : zA1 s 1 999999999980 = true) : Con Tryz.prog 87 [.agg [PV.v (.int .i64 s), PV.sl false 3 (pvO ops)], .one (PV.v (.int .i64 (i:Int)))] [] [.agg [.v (.string (bent s i o).user), .v (.int .i64 (bent s i o).seq), .v (.int .i64 (bent s i o).kind), .v (.string (bent s i o).value)]] := by
 refine zAS func87 rfl rfl rfl rfl ?_
 have hle := zC2 ops
 have hs2 := zMC hs
 have hil := (List.getElem?_eq_some_iff.1 ho).1
 refine zAB (zAA rfl (.run [] [2] rfl (zBT rfl 2 rfl rfl (by decide) rfl (by decide)) (.run [] [4] rfl (zAl rfl 4 zBb rfl (by decide) rfl (by decide)) .nil)) ?_)
 refine zAB ?_
 refine zAV (s' := mk [(1, .vi (i:Int)), (2, .ptr 2 0), (4, .ptr 4 0)] [(2, [.vi s, .p none (.sl false 3 (pvO ops))]), (4, [.vs ⟨#[]⟩, .vi 0, .vi 0, .vs ⟨#[]⟩])] []) ?_ ?_
 · exact zAI ⟨rfl, rfl, rfl, trivial⟩ ⟨rfl, rfl, trivial⟩ trivial rfl
 refine zAZ zBD rfl (.r rfl (zAC rfl rfl underlying76 rfl sizeOf37 (by decide)) (.r rfl (zAD rfl rfl rfl isAgg37 rfl) (.m rfl rfl (.r rfl (zAf rfl rfl rfl underlying37 sizeOf110 rfl (by omega) (zKO ho)) (.r rfl (zAj rfl rfl underlying110 rfl sizeOf9 (by decide)) (.r rfl (zAd rfl rfl isAgg9 rfl) (.r rfl (zAC rfl rfl underlying76 rfl sizeOf2 (by decide)) (.r rfl (zAD rfl rfl rfl isAgg2 rfl) (.m rfl rfl (.r rfl (zAe rfl rfl rfl (by omega)) (.r rfl (zAC rfl rfl underlying76 rfl sizeOf37 (by decide)) (.r rfl (zAD rfl rfl rfl isAgg37 rfl) (.m rfl rfl (.r rfl (zAf rfl rfl rfl underlying37 sizeOf110 rfl (by omega) (zKO ho)) (.r rfl (zAj rfl rfl underlying110 rfl sizeOf2 (by decide)) (.r rfl (zAd rfl rfl isAgg2 rfl) (.r rfl (zBM (pl := [(0, 1), (1, 1), (2, 1)]) rfl underlying54 zPL (by kernel_rfl) rfl rfl) (.r rfl (zAC rfl rfl underlying76 rfl sizeOf37 (by decide)) (.r rfl (zAD rfl rfl rfl isAgg37 rfl) (.m rfl rfl (.r rfl (zAf rfl rfl rfl underlying37 sizeOf110 rfl (by omega) (zKO ho)) (.r rfl (zAj rfl rfl underlying110 rfl sizeOf9 (by decide)) (.r rfl (zAd rfl rfl isAgg9 rfl) (.r rfl (zBM (pl := [(0, 3), (3, 1)]) rfl underlying56 zBb (by kernel_rfl) rfl rfl) (.r rfl (zAE rfl rfl rfl rfl rfl sizeOf56 rfl (nle rfl)) .nil))))))))))))))))))))))))) (by kernel_rfl) ?_
 refine zAO ?_
 exact ends [_] [] (.cons (.cell rfl rfl isAgg56 sizeOf56 (nle rfl)) .nil) (.cons (.agg (.cons .v (.cons .v (.cons .v (.cons .v .nil)))) (zAN (.v _) (zAN (.v _) (zAN (.v _) (zAN (.v _) zBQ))))) .nil) (by decide) trivial
theorem zGW (s : Int) (ops : List Bop) (hl : ops.length ≤ 2000000) : Con Tryz.prog 86 [.agg [PV.v (.int .i64 s), PV.sl false 3 (pvO ops)]] [] [.one (.v (.bool (zBX s ops)))] := by
 refine zAS func86 rfl rfl rfl rfl ?_
 have hle := zC2 ops
 refine zAB (zAA rfl (.run [] [1] rfl (zBT rfl 1 rfl rfl (by decide) rfl (by decide)) (.a rfl rfl .nil)) ?_)
 refine zAB ?_
 refine zAB ?_
 refine zAV (s' := mk [(1, .ptr 1 0)] [(1, [.vi s, .p none (.sl false 3 (pvO ops))])] []) ?_ ?_
 · exact zAI ⟨rfl, trivial⟩ ⟨rfl, trivial⟩ trivial rfl
 rcases bfc (decide (((pvO ops).length : Int) < 1)) with h1 | h1
 ·
  have h1' := h1
  replace h1' := of_decide_eq_false h1'
  rcases bfc (decide (20 < ((pvO ops).length : Int))) with h2 | h2
  ·
   have h2' := h2
   replace h2' := of_decide_eq_false h2'
   refine zAA rfl (.r rfl (zAC rfl rfl underlying76 rfl sizeOf37 (by decide)) (.r rfl (zAD rfl rfl rfl isAgg37 rfl) (.r rfl (zAa rfl rfl underlying37) (.r rfl (zAX (zA4 rfl rfl rfl) (zAM h1)) (.m rfl rfl (.r rfl (zAC rfl rfl underlying76 rfl sizeOf37 (by decide)) (.r rfl (zAD rfl rfl rfl isAgg37 rfl) (.r rfl (zAa rfl rfl underlying37) (.r rfl (zAX (zBF rfl rfl rfl) (zAM h2)) (.r rfl (zA5 rfl rfl) (.m rfl rfl (.r rfl (zAC rfl rfl underlying76 rfl sizeOf2 (by decide)) (.r rfl (zAD rfl rfl rfl isAgg2 rfl) (.run [1700] [] rfl (zAK rfl 1700 (X := []) en29 rfl (.val nod) (.cons (.one (.bor .v)) (.cons (.one (.bor .v)) (.cons (.one (.bor .v)) .nil))) (by decide) all_nil .nil (zCf s 1 999999999980) rfl rfl (nle rfl)) (.r rfl (zA3 (b := zA1 s 1 999999999980) rfl rfl) (.r rfl (zA5 rfl rfl) .nil)))))))))))))))) ?_
   refine zAb (t := (!(zA1 s 1 999999999980))) rfl (fun h3 => ?_) (fun h3 => ?_)
   ·
    replace h3 : (zA1 s 1 999999999980) = false := zBH h3
    refine zAB ?_
    refine zAV (s' := mk [] [] []) ?_ ?_
    · exact zAI trivial trivial trivial rfl
    refine zAA rfl (.a rfl rfl .nil) ?_
    refine zAO ?_
    exact ends [_] [] (.cons (.tmp (zAM (zPg h3))) .nil) (.cons (.one .v (.v _)) .nil) (by decide) trivial
   ·
    replace h3 : (zA1 s 1 999999999980) = true := zBI h3
    refine zAL ?_
    refine zAB ?_
    refine zAB ?_
    have hs : zA1 s 1 999999999980 = true := by assumption
    have hwl : zA1 (ops.length : Int) 1 20 = true := zEP.2 ⟨by omega, by omega⟩
    refine zAV (s' := mk [(1, .ptr 1 0)] [(1, [.vi s, .p none (.sl false 3 (pvO ops))])] []) ?_ ?_
    · exact zAI ⟨rfl, trivial⟩ ⟨rfl, trivial⟩ trivial rfl
    refine zAA rfl (.a rfl rfl .nil) ?_
    refine zAR ?_
    refine zAo (σ := Nat) (fun i => mk [(1, .ptr 1 0), (3, .vi (i:Int))] [(1, [.vi s, .p none (.sl false 3 (pvO ops))])] []) (fun i => i ≤ ops.length ∧ ∀ j o, j < i → ops[j]? = some o → zBh (bent s j o) = true) (fun i => ops.length - i) 0 ⟨Nat.zero_le _, fun _ _ h => absurd h (Nat.not_lt_zero _)⟩ (zAI ⟨rfl, (zAJ (by omega)), trivial⟩ ⟨rfl, trivial⟩ trivial rfl) ?_
    rintro i hG
    replace hG : i ≤ ops.length ∧ ∀ j o, j < i → ops[j]? = some o → zBh (bent s j o) = true := hG
    obtain ⟨hi, hG⟩ := hG
    refine zAB ?_
    refine zAB (zAA rfl (.m rfl rfl (.r rfl (zAC rfl rfl underlying76 rfl sizeOf37 (by decide)) (.r rfl (zAD rfl rfl rfl isAgg37 rfl) (.r rfl (zAa rfl rfl underlying37) (.r rfl (zA4 rfl rfl rfl) .nil))))) ?_)
    refine zAb (t := decide ((i:Int) < ((pvO ops).length : Int))) rfl (fun h4 => ?_) (fun h4 => ?_)
    ·
     replace h4 := of_decide_eq_true h4
     refine zAL ?_
     refine zAB ?_
     refine zAR ?_
     refine zAB ?_
     obtain ⟨o, ho⟩ : ∃ o, ops[i]? = some o := ⟨_, List.getElem?_eq_getElem (by omega)⟩
     refine zAA rfl (.r rfl (zAG rfl rfl rfl isAgg76 sizeOf76 (nle rfl)) (.m rfl rfl (.run [2900, 2901, 2902, 2903] [] rfl (zAK rfl 2900 (X := []) en87 rfl (.val nod) (.cons (.agg (.cons (.bor .v) (.cons (.bor (.sl nod)) .nil))) (.cons (.one (.bor .v)) .nil)) (by decide) all_nil .nil (zGs s ops i o ho (by omega) hs) rfl rfl (nle rfl)) (.run [3000] [] rfl (zAK rfl 3000 (X := []) en64 rfl (.val nod) (.cons (.agg (.cons (.bor .v) (.cons (.bor .v) (.cons (.bor .v) (.cons (.bor .v) .nil))))) .nil) (by decide) all_nil .nil (zCZ (bent s i o)) rfl rfl (nle rfl)) (.r rfl (zA3 (b := zBh (bent s i o)) rfl rfl) .nil))))) ?_
     refine zAb (t := (!(zBh (bent s i o)))) rfl (fun h5 => ?_) (fun h5 => ?_)
     ·
      replace h5 : (zBh (bent s i o)) = false := zBH h5
      refine zAB (zAA rfl (.a rfl rfl .nil) ?_)
      refine zAO ?_
      exact ends [_] [] (.cons (.tmp (zAM ((zOI ho hG h5).symm))) .nil) (.cons (.one .v (.v _)) .nil) (by decide) trivial
     ·
      replace h5 : (zBh (bent s i o)) = true := zBI h5
      refine zAL ?_
      refine zAA rfl (.m rfl rfl (.r rfl (zAe rfl rfl rfl (by omega)) (.a rfl rfl .nil))) ?_
      refine nxt (Q := fun _ _ => False) (z := i) (i + 1) ?_ ?_ ?_
      ·
       show (i + 1) ≤ ops.length ∧ ∀ j o, j < (i + 1) → ops[j]? = some o → zBh (bent s j o) = true
       exact ⟨by omega, zOD hG ho h5⟩
      ·
       show ops.length - (i + 1) < ops.length - i
       omega
      · exact zAI ⟨rfl, (zAJ (by omega)), trivial⟩ ⟨rfl, trivial⟩ trivial rfl
    ·
     replace h4 := of_decide_eq_false h4
     refine zAu ?_
     refine zAB (zAA rfl (.a rfl rfl .nil) ?_)
     refine zAO ?_
     exact ends [_] [] (.cons (.tmp (zAM ((zMp (by omega) hG hwl hs).symm))) .nil) (.cons (.one .v (.v _)) .nil) (by decide) trivial
  ·
   have h2' := h2
   replace h2' := of_decide_eq_true h2'
   refine zAA rfl (.r rfl (zAC rfl rfl underlying76 rfl sizeOf37 (by decide)) (.r rfl (zAD rfl rfl rfl isAgg37 rfl) (.r rfl (zAa rfl rfl underlying37) (.r rfl (zAX (zA4 rfl rfl rfl) (zAM h1)) (.m rfl rfl (.r rfl (zAC rfl rfl underlying76 rfl sizeOf37 (by decide)) (.r rfl (zAD rfl rfl rfl isAgg37 rfl) (.r rfl (zAa rfl rfl underlying37) (.r rfl (zAX (zBF rfl rfl rfl) (zAM h2)) (.r rfl (zA5 rfl rfl) (.m rfl rfl (.not rfl (.not rfl (.not rfl (.not rfl (.r rfl (zBZ rfl rfl) .nil)))))))))))))))) ?_
   refine zAb (t := true) rfl (fun _ => ?_) (fun h => nomatch h)
   refine zAB ?_
   refine zAV (s' := mk [] [] []) ?_ ?_
   · exact zAI trivial trivial trivial rfl
   refine zAA rfl (.a rfl rfl .nil) ?_
   refine zAO ?_
   exact ends [_] [] (.cons (.tmp (zAM (zL5 (by cases q : zA1 (ops.length : Int) 1 20 with | false => rfl | true => have := zEP.1 q; omega)))) .nil) (.cons (.one .v (.v _)) .nil) (by decide) trivial
 ·
  have h1' := h1
  replace h1' := of_decide_eq_true h1'
  refine zAA rfl (.r rfl (zAC rfl rfl underlying76 rfl sizeOf37 (by decide)) (.r rfl (zAD rfl rfl rfl isAgg37 rfl) (.r rfl (zAa rfl rfl underlying37) (.r rfl (zAX (zA4 rfl rfl rfl) (zAM h1)) (.m rfl rfl (.not rfl (.not rfl (.not rfl (.not rfl (.r rfl (zBZ rfl rfl) (.m rfl rfl (.not rfl (.not rfl (.not rfl (.not rfl (.r rfl (zBZ rfl rfl) .nil)))))))))))))))) ?_
  refine zAb (t := true) rfl (fun _ => ?_) (fun h => nomatch h)
  refine zAB ?_
  refine zAV (s' := mk [] [] []) ?_ ?_
  · exact zAI trivial trivial trivial rfl
  refine zAA rfl (.a rfl rfl .nil) ?_
  refine zAO ?_
  exact ends [_] [] (.cons (.tmp (zAM (zL5 (by cases q : zA1 (ops.length : Int) 1 20 with | false => rfl | true => have := zEP.1 q; omega)))) .nil) (.cons (.one .v (.v _)) .nil) (by decide) trivial
theorem zPh (sq : Int) (mem : List Ent) (rs : RunL) (sn : List Int) (a : Int) (hl : sn.length ≤ 2000000) : Con Tryz.prog 41 [.agg [PV.v (.int .i64 sq), PV.sl false 4 (pvE mem), PV.sl false 1 (pvR rs), PV.sl false 1 (pvI sn)], .one (PV.v (.int .i64 a))] [] [.one (.v (.int .i64 (if a = -1 then sq else a))), .one (.v (.bool (decide (a = -1) || atI sn a)))] := by
 refine zAS func41 rfl rfl rfl rfl ?_
 have hle := zAU sn
 refine zAB (zAA rfl (.run [] [2] rfl (zBT rfl 2 rfl rfl (by decide) rfl (by decide)) (.a rfl rfl (.a rfl rfl .nil))) ?_)
 refine zAB ?_
 refine zAB (zAA rfl (.m rfl rfl (.r rfl (zA9 rfl rfl rfl) .nil)) ?_)
 refine zAb (t := decide (a = (-1))) rfl (fun h1 => ?_) (fun h1 => ?_)
 ·
  replace h1 := of_decide_eq_true h1
  refine zAB (zAA rfl (.r rfl (zAC rfl rfl underlying28 rfl sizeOf2 (by decide)) (.r rfl (zAD rfl rfl rfl isAgg2 rfl) (.a rfl rfl (.a rfl rfl .nil)))) ?_)
  refine zAO ?_
  exact ends [_, _] [] (.cons (.tmp (zAJ (if_pos h1).symm)) (.cons (.tmp (zAM (by simp [h1]))) .nil)) (.cons (.one .v (.v _)) (.cons (.one .v (.v _)) .nil)) (by decide) trivial
 ·
  replace h1 := of_decide_eq_false h1
  refine zAL ?_
  refine zAB (zAA rfl (.m rfl rfl (.r rfl (zAC rfl rfl underlying28 rfl sizeOf26 (by decide)) (.r rfl (zAD rfl rfl rfl isAgg26 rfl) (.m rfl rfl (.run [1400] [] rfl (zAK rfl 1400 (X := []) en46 rfl (.val nod) (.cons (.one (.bor (.sl nod))) (.cons (.one (.bor .v)) .nil)) (by decide) all_nil .nil (zIs sn a (by omega)) rfl rfl (nle rfl)) (.a rfl rfl (.a rfl rfl .nil))))))) ?_)
  refine zAO ?_
  exact ends [_, _] [] (.cons (.tmp (zAJ (if_neg h1).symm)) (.cons (.tmp (zAM (by simp [h1, atI]))) .nil)) (.cons (.one .v (.v _)) (.cons (.one .v (.v _)) .nil)) (by decide) trivial
theorem zKb (rs : RunL) (hn : (ents rs).length ≤ 900000) (hl : rs.length ≤ 1000000) : Con Tryz.prog 74 [.one (PV.sl false 1 (pvR rs))] [] [.one (.sl true 1 (pvR (ownR rs)))] := by
 refine zAS func74 rfl rfl rfl rfl ?_
 have hle := zAk rs
 refine zAB (zAA rfl (.a rfl rfl .nil) ?_)
 refine zAB (zAA rfl (.run [500] [] rfl (zAQ rfl 500 underlying25 zDH (nle rfl) (by decide) rfl rfl rfl .nil (by decide) rfl (by decide) rfl (by decide) rfl) (.a rfl rfl .nil)) ?_)
 refine zAB ?_
 refine zAB (zAA rfl (.a rfl rfl .nil) ?_)
 refine zAR ?_
 refine zAV (zBi 500 1 rfl rfl (by decide)) ?_
 refine zAo (σ := Nat) (fun i => mk [(0, .p none (.sl false 1 (pvR rs))), (3, .sl 1 0 ((pvR (ownR (rs.take i))).length)), (4, .vi (i:Int))] [] [(1, 1, pvR (ownR (rs.take i)))]) (fun i => i ≤ rs.length) (fun i => rs.length - i) 0 (by simp) (zAI ⟨rfl, rfl, (zAJ (by omega)), trivial⟩ trivial ⟨(congrArg (fun x => some (1, x)) (by rfl)), trivial⟩ rfl) ?_
 rintro i hG
 replace hG : i ≤ rs.length := hG
 have hol := zLd (rs.take i)
 have hvi := zAk (ownR (rs.take i))
 have htl := List.length_take_le i rs
 refine zAB ?_
 refine zAB (zAA rfl (.m rfl rfl (.m rfl rfl (.r rfl (zAa rfl rfl underlying25) (.r rfl (zA4 rfl rfl rfl) .nil)))) ?_)
 refine zAb (t := decide ((i:Int) < ((pvR rs).length : Int))) rfl (fun h1 => ?_) (fun h1 => ?_)
 ·
  replace h1 := of_decide_eq_true h1
  refine zAL ?_
  refine zAB ?_
  refine zAR ?_
  obtain ⟨e, he⟩ : ∃ e, rs[i]? = some e := ⟨_, List.getElem?_eq_getElem (by omega)⟩
  have hrl := zEt he
  have hrv := zAF e.2
  refine zAA rfl (.m rfl rfl (.run [1300] [] rfl (zAQ rfl 1300 underlying24 zBb (nle rfl) (by decide) rfl rfl rfl .nil (by decide) rfl (by decide) rfl (by decide) rfl) (.m rfl rfl (.m rfl rfl (.r rfl (zAf rfl rfl rfl underlying25 sizeOf61 rfl (by omega) (zDB he)) (.r rfl (zAj rfl rfl underlying61 rfl sizeOf24 (by decide)) (.r rfl (zAd rfl rfl isAgg24 rfl) (.run [1300] [] rfl (zAq rfl 1300 (ib := 1300) (len := ([] ++ (pvE e.2)).length) rfl rfl (.row (len := 0) (xs := []) rfl rfl (.inl rfl)) (.fro (zAg _)) underlying24 (sk underlying24 rfl) zBb rfl (by decide) (by decide) (by decide) List.length_append (by simp only [maxLen, List.length_append, List.length_cons, List.length_nil, List.length_take, zAF, zAk]; omega) (by simp only [maxLen, List.length_append, List.length_cons, List.length_nil, List.length_take, zAF, zAk]; omega)) (.r rfl (zBM (pl := [(0, 1)]) rfl underlying61 zDH (by kernel_rfl) rfl rfl) (.run [2100, 1300] [] rfl (zAQ rfl 2100 underlying25 zDH (nle rfl) (by decide) rfl rfl rfl (.cons (.row rfl rfl) .nil) (by decide) rfl (by decide) rfl (by decide) rfl) (.run [1] [] rfl (zAq rfl 1 (ib := 1) (len := ((pvR (ownR (rs.take i))) ++ [[PV.sl true 4 ([] ++ (pvE e.2))]]).length) rfl rfl (.row (len := (pvR (ownR (rs.take i))).length) (xs := pvR (ownR (rs.take i))) rfl rfl (.inl rfl)) (.give (len := 1) (xs := [[PV.sl true 4 ([] ++ (pvE e.2))]]) rfl rfl) underlying25 (sk underlying25 rfl) zDH rfl (by decide) (by decide) (by decide) List.length_append (by simp only [maxLen, List.length_append, List.length_cons, List.length_nil, List.length_take, zAF, zAk]; omega) (by simp only [maxLen, List.length_append, List.length_cons, List.length_nil, List.length_take, zAF, zAk]; omega)) (.a rfl rfl .nil)))))))))))) ?_
  have hr2 : (pvR (ownR (rs.take i))) ++ [[PV.sl true 4 ([] ++ (pvE e.2))]] = pvR (ownR (rs.take (i + 1))) := by exact zJK he
  have hp3 : (.sl 1 0 (((pvR (ownR (rs.take i))) ++ [[PV.sl true 4 ([] ++ (pvE e.2))]]).length) : AV) = .sl 1 0 ((pvR (ownR (rs.take (i + 1)))).length) := by simp only [hr2]
  refine zAV (s' := mk [(0, .p none (.sl false 1 (pvR rs))), (3, .sl 1 0 ((pvR (ownR (rs.take (i + 1)))).length)), (4, .vi (i:Int))] [] [(1, 1, pvR (ownR (rs.take (i + 1))))]) ?_ ?_
  · exact zAI ⟨rfl, hp3, rfl, trivial⟩ trivial ⟨(congrArg (fun x => some (1, x)) hr2), trivial⟩ rfl
  refine zAA rfl (.m rfl rfl (.r rfl (zAe rfl rfl rfl (by omega)) (.a rfl rfl .nil))) ?_
  refine nxt (Q := fun _ _ => False) (z := i) (i + 1) ?_ ?_ ?_
  ·
   show (i + 1) ≤ rs.length
   omega
  ·
   show rs.length - (i + 1) < rs.length - i
   omega
  · exact zAI ⟨rfl, rfl, (zAJ (by omega)), trivial⟩ trivial ⟨rfl, trivial⟩ rfl
 ·
  replace h1 := of_decide_eq_false h1
  refine zAu ?_
  refine zAB (zAA rfl (.m rfl rfl (.a rfl rfl .nil)) ?_)
  have hr4 : pvR (ownR (rs.take i)) = pvR (ownR rs) := by rw [List.take_of_length_le (by omega)]
  have hp5 : (.sl 1 0 ((pvR (ownR (rs.take i))).length) : AV) = .sl 1 0 ((pvR (ownR rs)).length) := by simp only [hr4]
  refine zAV (s' := mk [(2, .sl 1 0 ((pvR (ownR rs)).length))] [] [(1, 1, pvR (ownR rs))]) ?_ ?_
  · exact zAI ⟨hp5, trivial⟩ trivial ⟨(congrArg (fun x => some (1, x)) hr4), trivial⟩ rfl
  refine zAO ?_
  exact ends [_] [1] (.cons (.tmp rfl) .nil) (.cons (.one (.row (len := (pvR (ownR rs)).length) (xs := pvR (ownR rs)) rfl rfl) (zC0 _)) .nil) (by decide) trivial
theorem zKc (sq : Int) (mem : List Ent) (rs : RunL) (sn : List Int) (hn : mem.length + (ents rs).length ≤ 900000) (hl : rs.length ≤ 1000000) (hsn : sn.length ≤ 1000000) : Con Tryz.prog 38 [.agg [PV.v (.int .i64 sq), PV.sl false 4 (pvE mem), PV.sl false 1 (pvR rs), PV.sl false 1 (pvI sn)]] [] [.agg [.v (.int .i64 sq), .sl true 4 (pvE mem), .sl true 1 (pvR (ownR rs)), .sl true 1 (pvI sn)]] := by
 refine zAS func38 rfl rfl rfl rfl ?_
 have hle := zAk rs
 have hlm := zAF mem
 have hls := zAU sn
 refine zAB (zAA rfl (.run [] [1] rfl (zBT rfl 1 rfl rfl (by decide) rfl (by decide)) (.run [] [2] rfl (zAl rfl 2 zBy rfl (by decide) rfl (by decide)) .nil)) ?_)
 refine zAB ?_
 refine zAV (s' := mk [(1, .ptr 1 0), (2, .ptr 2 0)] [(1, [.vi sq, .p none (.sl false 4 (pvE mem)), .p none (.sl false 1 (pvR rs)), .p none (.sl false 1 (pvI sn))]), (2, [.vi 0, .nils, .nils, .nils])] []) ?_ ?_
 · exact zAI ⟨rfl, rfl, trivial⟩ ⟨rfl, rfl, trivial⟩ trivial rfl
 refine zAZ zBD rfl (.r rfl (zAC rfl rfl underlying28 rfl sizeOf2 (by decide)) (.r rfl (zAD rfl rfl rfl isAgg2 rfl) (.run [500] [] rfl (zAQ rfl 500 underlying24 zBb (nle rfl) (by decide) rfl rfl rfl .nil (by decide) rfl (by decide) rfl (by decide) rfl) (.r rfl (zAC rfl rfl underlying28 rfl sizeOf24 (by decide)) (.r rfl (zAD rfl rfl rfl isAgg24 rfl) (.run [500] [] rfl (zAq rfl 500 (ib := 500) (len := ([] ++ (pvE mem)).length) rfl rfl (.row (len := 0) (xs := []) rfl rfl (.inl rfl)) (.fro (zAg _)) underlying24 (sk underlying24 rfl) zBb rfl (by decide) (by decide) (by decide) List.length_append (by simp only [maxLen, List.length_append, List.length_cons, List.length_nil, zAF, zAU]; omega) (by simp only [maxLen, List.length_append, List.length_cons, List.length_nil, zAF, zAU]; omega)) (.r rfl (zAC rfl rfl underlying28 rfl sizeOf25 (by decide)) (.r rfl (zAD rfl rfl rfl isAgg25 rfl) (.run [1100] [] rfl (zAK rfl 1100 (X := []) en74 rfl (.val nod) (.cons (.one (.bor (.sl nod))) .nil) (by decide) all_nil .nil (zKb rs (by omega) (by omega)) rfl rfl (nle rfl)) (.run [1200] [] rfl (zAQ rfl 1200 underlying26 inf2 (nle rfl) (by decide) rfl rfl rfl .nil (by decide) rfl (by decide) rfl (by decide) rfl) (.r rfl (zAC rfl rfl underlying28 rfl sizeOf26 (by decide)) (.r rfl (zAD rfl rfl rfl isAgg26 rfl) (.run [1200] [] rfl (zAq rfl 1200 (ib := 1200) (len := ([] ++ (pvI sn)).length) rfl rfl (.row (len := 0) (xs := []) rfl rfl (.inl rfl)) (.fro (zA7 _)) underlying26 (sk underlying26 rfl) inf2 rfl (by decide) (by decide) (by decide) List.length_append (by simp only [maxLen, List.length_append, List.length_cons, List.length_nil, zAF, zAU]; omega) (by simp only [maxLen, List.length_append, List.length_cons, List.length_nil, zAF, zAU]; omega)) (.r rfl (zBM (pl := [(0, 1), (1, 1), (2, 1), (3, 1)]) rfl underlying28 zBy (by kernel_rfl) rfl rfl) (.r rfl (zAE rfl rfl rfl rfl rfl sizeOf28 rfl (nle rfl)) .nil))))))))))))))) (by kernel_rfl) ?_
 refine zAO ?_
 exact ends [_] [500, 1100, 1200] (.cons (.cell rfl rfl isAgg28 sizeOf28 (nle rfl)) .nil) (.cons (.agg (.cons .v (.cons (.row (len := ([] ++ (pvE mem)).length) (xs := [] ++ (pvE mem)) rfl rfl) (.cons (.row (len := (pvR (ownR rs)).length) (xs := pvR (ownR rs)) rfl rfl) (.cons (.row (len := ([] ++ (pvI sn)).length) (xs := [] ++ (pvI sn)) rfl rfl) .nil)))) (zAN (.v _) (zAN (.sl _ _ (FlatP.clean (zAg _))) (zAN (zC0 _) (zAN (.sl _ _ (FlatP.clean (zA7 _))) zBQ))))) .nil) (by decide) trivial
end Go.Rl
namespace Go.Rl
def zBf (sq : Int) (mem : List Ent) (rs : RunL) (sn : List Int) : Bool := zA1 sq 0 1000000000000 && (zAp mem && (zBG rs && zBK sn))
theorem base_of {sq : Int} {mem : List Ent} {rs : RunL} {sn : List Int} (h1 : zA1 sq 0 1000000000000 = true) (h2 : zAp mem = true) (h3 : zBG rs = true) (h4 : zBK sn = true) : zBf sq mem rs sn = true := by simp [zBf, h1, h2, h3, h4]
theorem zOM {sq : Int} {mem : List Ent} {rs : RunL} {sn : List Int} (h : zA1 sq 0 1000000000000 = false) : zBf sq mem rs sn = false := by simp [zBf, h]
theorem zOL {sq : Int} {mem : List Ent} {rs : RunL} {sn : List Int} (h : zAp mem = false) : zBf sq mem rs sn = false := by simp [zBf, h]
theorem zOK {sq : Int} {mem : List Ent} {rs : RunL} {sn : List Int} (h : zBG rs = false) : zBf sq mem rs sn = false := by simp [zBf, h]
theorem zOJ {sq : Int} {mem : List Ent} {rs : RunL} {sn : List Int} (h : zBK sn = false) : zBf sq mem rs sn = false := by simp [zBf, h]
theorem zFD {rs : RunL} (h : zBG rs = true) : rs.length ≤ 20 ∧ (ents rs).length ≤ 400 := by
 simp only [zBG, Bool.and_eq_true, decide_eq_true_eq] at h
 exact ⟨h.1, h.2.2⟩
theorem zFB {sn : List Int} (h : zBK sn = true) : sn.length ≤ 20 := by
 simp only [zBK, Bool.and_eq_true, decide_eq_true_eq] at h
 exact h.1
def zCU (mem : List Ent) : Int := mem.foldl (fun a e => min a e.seq) 1000000000000
theorem zMZ {mem : List Ent} {i : Nat} {e : Ent} (h : mem[i]? = some e) : zCU (mem.take (i + 1)) = min (zCU (mem.take i)) e.seq := by
 unfold zCU
 rw [List.take_add_one, h]
 simp [List.foldl_append]
def Seqs (sq : Int) (l : List Ent) (i : Nat) : Prop := ∀ (j : Nat) (x : Ent), j < i → l[j]? = some x → x.seq ≤ sq ∧ ∀ (k : Nat) (y : Ent), k < j → l[k]? = some y → y.seq ≠ x.seq
theorem zJC (sq : Int) (l : List Ent) : Seqs sq l 0 := fun _ _ h => absurd h (Nat.not_lt_zero _)
def zF3 (l : List Ent) (x : Ent) (k : Nat) : Prop := ∀ (k' : Nat) (y : Ent), k' < k → l[k']? = some y → y.seq ≠ x.seq
theorem zJ7 (l : List Ent) (x : Ent) : zF3 l x 0 := fun _ _ h => absurd h (Nat.not_lt_zero _)
theorem zJ8 {l : List Ent} {x y : Ent} {k : Nat} (h : zF3 l x k) (hy : l[k]? = some y) (hn : ¬ y.seq = x.seq) : zF3 l x (k + 1) := fun k' z hk hz => by
 by_cases e : k' = k
 · subst e; rw [hy] at hz; cases hz; exact hn
 · exact h k' z (by omega) hz
theorem zJD {sq : Int} {l : List Ent} {x : Ent} {i : Nat} (h : Seqs sq l i) (hx : l[i]? = some x) (h1 : ¬ sq < x.seq) (h2 : zF3 l x i) : Seqs sq l (i + 1) := fun j y hj hy => by
 by_cases e : j = i
 · subst e; rw [hx] at hy; cases hy; exact ⟨by omega, h2⟩
 · exact h j y (by omega) hy
def UpTo (sq : Int) (sn : List Int) (i : Nat) : Prop := ∀ (j : Nat) (x : Int), j < i → sn[j]? = some x → x ≤ sq
theorem zMx (sq : Int) (sn : List Int) : UpTo sq sn 0 := fun _ _ h => absurd h (Nat.not_lt_zero _)
theorem zMy {sq : Int} {sn : List Int} {i : Nat} {x : Int} (h : UpTo sq sn i) (hx : sn[i]? = some x) (hn : ¬ sq < x) : UpTo sq sn (i + 1) := fun j y hj hy => by
 by_cases e : j = i
 · subst e; rw [hx] at hy; cases hy; omega
 · exact h j y (by omega) hy
def zF5 (z : Int) (l : List Ent) (k : Nat) : Prop := ∀ (j : Nat) (x : Ent), j < k → l[j]? = some x → x.seq < z
theorem zKu (z : Int) (l : List Ent) : zF5 z l 0 := fun _ _ h => absurd h (Nat.not_lt_zero _)
theorem zKv {z : Int} {l : List Ent} {k : Nat} {x : Ent} (h : zF5 z l k) (hx : l[k]? = some x) (hn : ¬ z ≤ x.seq) : zF5 z l (k + 1) := fun j y hj hy => by
 by_cases e : j = k
 · subst e; rw [hx] at hy; cases hy; omega
 · exact h j y (by omega) hy
def zF4 (z : Int) (rs : RunL) (i : Nat) : Prop := ∀ (j : Nat) (r : Bool × List Ent), j < i → rs[j]? = some r → zF5 z r.2 r.2.length
theorem zKr (z : Int) (rs : RunL) : zF4 z rs 0 := fun _ _ h => absurd h (Nat.not_lt_zero _)
theorem zKs {z : Int} {rs : RunL} {i k : Nat} {r : Bool × List Ent} (h : zF4 z rs i) (hr : rs[i]? = some r) (hk : zF5 z r.2 k) (hl : r.2.length ≤ k) : zF4 z rs (i + 1) := fun j y hj hy => by
 by_cases e : j = i
 · subst e; rw [hr] at hy; cases hy; exact fun q x hq hx => hk q x (by omega) hx
 · exact h j y (by omega) hy
structure SOk (sq : Int) (mem : List Ent) (rs : RunL) (sn : List Int) : Prop where
 few : mem.length + (ents rs).length ≤ 400
 all : mem.length + (ents rs).length = (allS mem rs).length
 seqs : Seqs sq (allS mem rs) (allS mem rs).length
 upto : UpTo sq sn sn.length
 below : zF4 (zCU mem) rs rs.length
noncomputable instance decSOk (sq : Int) (mem : List Ent) (rs : RunL) (sn : List Int) : Decidable (SOk sq mem rs sn) := Classical.propDecidable _
noncomputable def zBN (sq : Int) (mem : List Ent) (rs : RunL) (sn : List Int) : Bool := zBf sq mem rs sn && decide (SOk sq mem rs sn)
variable {sq : Int} {mem : List Ent} {rs : RunL} {sn : List Int}
theorem zGK (h : zBf sq mem rs sn = false) : false = zBN sq mem rs sn := by unfold zBN; rw [h]; rfl
theorem zHs (h : ¬ SOk sq mem rs sn) : false = zBN sq mem rs sn := by unfold zBN; rw [decide_eq_false h, Bool.and_false]
theorem dbs_yes (hb : zBf sq mem rs sn = true) (h : SOk sq mem rs sn) : true = zBN sq mem rs sn := by unfold zBN; rw [decide_eq_true h, hb]; rfl
theorem dbs_of (h : zBN sq mem rs sn = true) : zBf sq mem rs sn = true ∧ SOk sq mem rs sn := by
 unfold zBN at h
 rw [Bool.and_eq_true] at h
 exact ⟨h.1, of_decide_eq_true h.2⟩
theorem no_seq {i : Nat} {x : Ent} (hx : (allS mem rs)[i]? = some x) (h : sq < x.seq) : ¬ SOk sq mem rs sn := fun q => by
 have := (q.seqs i x (List.getElem?_eq_some_iff.1 hx).1 hx).1
 omega
theorem no_like {i k : Nat} {x y : Ent} (hx : (allS mem rs)[i]? = some x) (hy : (allS mem rs)[k]? = some y) (hk : k < i) (h : y.seq = x.seq) : ¬ SOk sq mem rs sn := fun q => (q.seqs i x (List.getElem?_eq_some_iff.1 hx).1 hx).2 k y hk hy h
theorem no_snap {i : Nat} {x : Int} (hx : sn[i]? = some x) (h : sq < x) : ¬ SOk sq mem rs sn := fun q => by
 have := q.upto i x (List.getElem?_eq_some_iff.1 hx).1 hx
 omega
theorem zO8 {i k : Nat} {r : Bool × List Ent} {x : Ent} (hr : rs[i]? = some r) (hx : r.2[k]? = some x) (h : zCU mem ≤ x.seq) : ¬ SOk sq mem rs sn := fun q => by
 have := q.below i r (List.getElem?_eq_some_iff.1 hr).1 hr k x (List.getElem?_eq_some_iff.1 hx).1 hx
 omega
end Go.Rl
namespace Go.Rl
open Go.RowKit
section
variable {γ : Gho} {P : Program} {n : Nat} {o : Oper} {M B : List Nat} {s : St}
theorem st_min {x y : Operand} {ats : Array TypeId} (ho : o.op = .call { callee := .builtin .min, args := #[x, y], argTypes := ats }) {d d' : Option Nat} {k : IntKind} {a b : Int} (hx : s.ev x = .p d (.v (.int k a))) (hy : s.ev y = .p d' (.v (.int k b))) :
  StepD γ P n o M B s { put := .p none (.v (.int k (min a b))) } :=
 zAz fun s' ag w0 I L ac w hr => by
  have h1 := hr.evv ((ag.ev1 ho (by simp [Op.operands, Call.operands])).trans hx)
  have h2 := hr.evv ((ag.ev1 ho (by simp [Op.operands, Call.operands])).trans hy)
  refine ⟨_, ?_, zBo L w s' rfl⟩
  by_cases hlt : b < a
  ·
   have : min a b = b := by omega
   simp [execOp, ho, resolve, invoke, builtin, Builtin.min_, Builtin.min2, h1, h2, hlt, this]
  ·
   have : min a b = a := by omega
   simp [execOp, ho, resolve, invoke, builtin, Builtin.min_, Builtin.min2, h1, h2, hlt, this]
theorem st_max {x y : Operand} {ats : Array TypeId} (ho : o.op = .call { callee := .builtin .max, args := #[x, y], argTypes := ats }) {d d' : Option Nat} {k : IntKind} {a b : Int} (hx : s.ev x = .p d (.v (.int k a))) (hy : s.ev y = .p d' (.v (.int k b))) :
  StepD γ P n o M B s { put := .p none (.v (.int k (max a b))) } :=
 zAz fun s' ag w0 I L ac w hr => by
  have h1 := hr.evv ((ag.ev1 ho (by simp [Op.operands, Call.operands])).trans hx)
  have h2 := hr.evv ((ag.ev1 ho (by simp [Op.operands, Call.operands])).trans hy)
  refine ⟨_, ?_, zBo L w s' rfl⟩
  by_cases hlt : a < b
  ·
   have : max a b = b := by omega
   simp [execOp, ho, resolve, invoke, builtin, Builtin.max_, Builtin.max2, h1, h2, hlt, this]
  ·
   have : max a b = a := by omega
   simp [execOp, ho, resolve, invoke, builtin, Builtin.max_, Builtin.max2, h1, h2, hlt, this]
end
end Go.Rl
namespace Go.Rl
open Go.Proofs Go.Proofs.Tryz
set_option maxRecDepth 1000000
set_option maxHeartbeats 2000000
theorem en37 : En Tryz.prog 37 := zAn func37 (by decide) rfl
theorem en31 : En Tryz.prog 31 := zAn func31 (by decide) rfl
theorem en32 : En Tryz.prog 32 := zAn func32 (by decide) rfl
theorem en33 : En Tryz.prog 33 := zAn func33 (by decide) rfl
theorem zMk (sq : Int) (mem : List Ent) (rs : RunL) (sn : List Int) (hn : mem.length + (ents rs).length ≤ 900000) (hl : rs.length ≤ 1000000) (hsn : sn.length ≤ 1000000) : Con Tryz.prog 34 [.agg [PV.v (.int .i64 sq), PV.sl false 4 (pvE mem), PV.sl false 1 (pvR rs), PV.sl false 1 (pvI sn)]] [] [.agg [.v (.int .i64 sq), .sl true 4 (pvE mem), .sl true 1 (pvR (ownR rs)), .sl true 1 (pvI sn)]] := by
 refine zAS func34 rfl rfl rfl rfl ?_
 have hle := zAk rs
 have hlm := zAF mem
 have hls := zAU sn
 refine zAB (zAA rfl (.run [] [1] rfl (zBT rfl 1 rfl rfl (by decide) rfl (by decide)) (.run [] [2] rfl (zAl rfl 2 zBy rfl (by decide) rfl (by decide)) .nil)) ?_)
 refine zAB (zAZ zBD rfl (.r rfl (zAC rfl rfl underlying28 rfl sizeOf2 (by decide)) (.r rfl (zAD rfl rfl rfl isAgg2 rfl) (.r rfl (zAC rfl rfl underlying28 rfl sizeOf24 (by decide)) (.r rfl (zAD rfl rfl rfl isAgg24 rfl) (.run [1000] [] rfl (zAK rfl 1000 (X := []) en26 rfl (.val nod) (.cons (.one (.bor (.sl nod))) .nil) (by decide) all_nil .nil (zDi mem (by omega)) rfl rfl (nle rfl)) (.r rfl (zAC rfl rfl underlying28 rfl sizeOf26 (by decide)) (.r rfl (zAD rfl rfl rfl isAgg26 rfl) (.run [1300] [] rfl (zAK rfl 1300 (X := []) en66 rfl (.val nod) (.cons (.one (.bor (.sl nod))) .nil) (by decide) all_nil .nil (zHy sn (by omega)) rfl rfl (nle rfl)) (.r rfl (zBM (pl := [(0, 1), (1, 1), (2, 1), (3, 1)]) rfl underlying28 zBy (by kernel_rfl) rfl rfl) (.run [] [3] rfl (zAl rfl 3 zBy rfl (by decide) rfl (by decide)) (.r rfl (zAE rfl rfl rfl rfl rfl sizeOf28 rfl (nle rfl)) .nil))))))))))) (by kernel_rfl) ?_)
 refine zAB ?_
 refine zAB ?_
 refine zAV (s' := mk [(1, .ptr 1 0), (2, .ptr 2 0), (3, .ptr 3 0)] [(1, [.vi sq, .p none (.sl false 4 (pvE mem)), .p none (.sl false 1 (pvR rs)), .p none (.sl false 1 (pvI sn))]), (2, [.vi 0, .nils, .nils, .nils]), (3, [.vi sq, .sl 1000 0 ((pvE mem).length), .nils, .sl 1300 0 ((pvI sn).length)])] [(1000, 4, pvE mem), (1300, 1, pvI sn)]) ?_ ?_
 · exact zAI ⟨rfl, rfl, rfl, trivial⟩ ⟨rfl, rfl, rfl, trivial⟩ ⟨rfl, rfl, trivial⟩ rfl
 refine zAA rfl (.r rfl (zAC rfl rfl underlying28 rfl sizeOf25 (by decide)) (.r rfl (zAD rfl rfl rfl isAgg25 rfl) (.r rfl (zAa rfl rfl underlying25) (.m rfl rfl .nil)))) ?_
 refine zAR ?_
 refine zAV (zK5 3 2 1 1 rfl rfl rfl (by decide)) ?_
 refine zAo (σ := Nat) (fun i => mk [(2, .ptr 2 0), (3, .ptr 3 0), (16, .p none (.sl false 1 (pvR rs))), (17, .vi ((pvR rs).length : Int)), (18, .vi (i:Int))] [(2, [.vi 0, .nils, .nils, .nils]), (3, [.vi sq, .sl 1000 0 ((pvE mem).length), .sl 1 0 ((pvR (ownR (rs.take i))).length), .sl 1300 0 ((pvI sn).length)])] [(1, 1, pvR (ownR (rs.take i))), (1000, 4, pvE mem), (1300, 1, pvI sn)]) (fun i => i ≤ rs.length) (fun i => rs.length - i) 0 (by simp) (zAI ⟨rfl, rfl, rfl, rfl, (zAJ (by omega)), trivial⟩ ⟨rfl, rfl, trivial⟩ ⟨(congrArg (fun x => some (1, x)) (by rfl)), rfl, rfl, trivial⟩ rfl) ?_
 rintro i hG
 replace hG : i ≤ rs.length := hG
 have hol := zLd (rs.take i)
 have hvi := zAk (ownR (rs.take i))
 have htl := List.length_take_le i rs
 refine zAB (zAA rfl (.r rfl (zA4 rfl rfl rfl) .nil) ?_)
 refine zAB ?_
 refine zAb (t := decide ((i:Int) < ((pvR rs).length : Int))) rfl (fun h1 => ?_) (fun h1 => ?_)
 ·
  replace h1 := of_decide_eq_true h1
  refine zAL ?_
  refine zAB ?_
  refine zAR ?_
  refine zAB ?_
  obtain ⟨e, he⟩ : ∃ e, rs[i]? = some e := ⟨_, List.getElem?_eq_getElem (by (have hL := zAk rs; omega))⟩
  have hlte := (List.getElem?_eq_some_iff.1 he).1
  refine zAA rfl (.r rfl (zAf rfl rfl rfl underlying25 sizeOf61 rfl (by omega) (zDB he)) (.r rfl (zBA rfl rfl isAgg61 sizeOf61 (nle rfl)) (.run [] [5] rfl (zAl rfl 5 zDH rfl (by decide) rfl (by decide)) (.r rfl (zAE rfl rfl rfl rfl rfl sizeOf61 rfl (nle rfl)) .nil)))) ?_
  have hrl := zEt he
  have hrv := zAF e.2
  refine zAZ zBD rfl (.r rfl (zAC rfl rfl underlying28 rfl sizeOf25 (by decide)) (.r rfl (zAD rfl rfl rfl isAgg25 rfl) (.r rfl (zAC rfl rfl underlying61 rfl sizeOf24 (by decide)) (.r rfl (zAD rfl rfl rfl isAgg24 rfl) (.run [2600] [] rfl (zAK rfl 2600 (X := []) en26 rfl (.val nod) (.cons (.one (.bor (.sl nod))) .nil) (by decide) all_nil .nil (zDi e.2 (by omega)) rfl rfl (nle rfl)) (.r rfl (zBM (pl := [(0, 1)]) rfl underlying61 zDH (by kernel_rfl) rfl rfl) (.run [2800, 2600] [] rfl (zAQ rfl 2800 underlying25 zDH (nle rfl) (by decide) rfl rfl rfl (.cons (.row rfl rfl) .nil) (by decide) rfl (by decide) rfl (by decide) rfl) (.run [1] [] rfl (zAq rfl 1 (ib := 1) (len := ((pvR (ownR (rs.take i))) ++ [[PV.sl true 4 (pvE e.2)]]).length) rfl rfl (.row (len := (pvR (ownR (rs.take i))).length) (xs := pvR (ownR (rs.take i))) rfl rfl (.inl rfl)) (.give (len := 1) (xs := [[PV.sl true 4 (pvE e.2)]]) rfl rfl) underlying25 (sk underlying25 rfl) zDH rfl (by decide) (by decide) (by decide) List.length_append (by simp only [maxLen, List.length_append, List.length_cons, List.length_nil, List.length_take, zAF, zAk]; omega) (by simp only [maxLen, List.length_append, List.length_cons, List.length_nil, List.length_take, zAF, zAk]; omega)) (.r rfl (zAC rfl rfl underlying28 rfl sizeOf25 (by decide)) (.r rfl (zAE rfl rfl rfl rfl rfl sizeOf25 rfl (nle rfl)) .nil)))))))))) (by kernel_rfl) ?_
  have hr2 : (pvR (ownR (rs.take i))) ++ [[PV.sl true 4 (pvE e.2)]] = pvR (ownR (rs.take (i + 1))) := by exact zJK he
  have hp3 : (some [.vi sq, .sl 1000 0 ((pvE mem).length), .sl 1 0 (((pvR (ownR (rs.take i))) ++ [[PV.sl true 4 (pvE e.2)]]).length), .sl 1300 0 ((pvI sn).length)] : Option (List AV)) = some [.vi sq, .sl 1000 0 ((pvE mem).length), .sl 1 0 ((pvR (ownR (rs.take (i + 1)))).length), .sl 1300 0 ((pvI sn).length)] := by simp only [hr2]
  refine zAV (s' := mk [(2, .ptr 2 0), (3, .ptr 3 0), (16, .p none (.sl false 1 (pvR rs))), (17, .vi ((pvR rs).length : Int)), (18, .vi (i:Int))] [(2, [.vi 0, .nils, .nils, .nils]), (3, [.vi sq, .sl 1000 0 ((pvE mem).length), .sl 1 0 ((pvR (ownR (rs.take (i + 1)))).length), .sl 1300 0 ((pvI sn).length)])] [(1, 1, pvR (ownR (rs.take (i + 1)))), (1000, 4, pvE mem), (1300, 1, pvI sn)]) ?_ ?_
  · exact zAI ⟨rfl, rfl, rfl, rfl, rfl, trivial⟩ ⟨rfl, hp3, trivial⟩ ⟨(congrArg (fun x => some (1, x)) hr2), rfl, rfl, trivial⟩ rfl
  refine zAA rfl (.r rfl (zAe rfl rfl rfl (by omega)) (.m rfl rfl .nil)) ?_
  refine nxt (Q := fun _ _ => False) (z := i) (i + 1) ?_ ?_ ?_
  ·
   show (i + 1) ≤ rs.length
   omega
  ·
   show rs.length - (i + 1) < rs.length - i
   omega
  · exact zAI ⟨rfl, rfl, rfl, rfl, (zAJ (by omega)), trivial⟩ ⟨rfl, rfl, trivial⟩ ⟨rfl, rfl, rfl, trivial⟩ rfl
 ·
  replace h1 := of_decide_eq_false h1
  refine zAu ?_
  refine zAB (zAA rfl (.r rfl (zAG rfl rfl rfl isAgg28 sizeOf28 (nle rfl)) (.r rfl (zAE rfl rfl rfl rfl rfl sizeOf28 rfl (nle rfl)) .nil)) ?_)
  have hr4 : pvR (ownR (rs.take i)) = pvR (ownR rs) := by rw [List.take_of_length_le (by omega)]
  have hp5 : (some [.vi sq, .sl 1000 0 ((pvE mem).length), .sl 1 0 ((pvR (ownR (rs.take i))).length), .sl 1300 0 ((pvI sn).length)] : Option (List AV)) = some [.vi sq, .sl 1000 0 ((pvE mem).length), .sl 1 0 ((pvR (ownR rs)).length), .sl 1300 0 ((pvI sn).length)] := by simp only [hr4]
  refine zAV (s' := mk [(2, .ptr 2 0)] [(2, [.vi sq, .sl 1000 0 ((pvE mem).length), .sl 1 0 ((pvR (ownR rs)).length), .sl 1300 0 ((pvI sn).length)])] [(1, 1, pvR (ownR rs)), (1000, 4, pvE mem), (1300, 1, pvI sn)]) ?_ ?_
  · exact zAI ⟨rfl, trivial⟩ ⟨hp5, trivial⟩ ⟨(congrArg (fun x => some (1, x)) hr4), rfl, rfl, trivial⟩ rfl
  refine zAO ?_
  exact ends [_] [1000, 1, 1300] (.cons (.cell rfl rfl isAgg28 sizeOf28 (nle rfl)) .nil) (.cons (.agg (.cons .v (.cons (.row (len := (pvE mem).length) (xs := pvE mem) rfl rfl) (.cons (.row (len := (pvR (ownR rs)).length) (xs := pvR (ownR rs)) rfl rfl) (.cons (.row (len := (pvI sn).length) (xs := pvI sn) rfl rfl) .nil)))) (zAN (.v _) (zAN (.sl _ _ (FlatP.clean (zAg _))) (zAN (zC0 _) (zAN (.sl _ _ (FlatP.clean (zA7 _))) zBQ))))) .nil) (by decide) trivial
theorem zMW (a b : List Ent) (hl : (a ++ b).length ≤ 2000000) (hd : Dist cmpK (a ++ b)) : Con Tryz.prog 37 [.one (PV.sl false 4 (pvE a ++ pvE b))] [] [.one (.sl true 4 (pvE (zCR cmpK (a ++ b))))] := by
 rw [zIO]
 exact zHg (a ++ b) hl hd
theorem zN1 (sq : Int) (mem : List Ent) (rs : RunL) (sn : List Int) (hn : mem.length + (ents rs).length ≤ 900000) (hl : rs.length ≤ 1000000) (hsn : sn.length ≤ 1000000) (hd : Dist cmpK (mem ++ ents rs)) : Con Tryz.prog 44 [.agg [PV.v (.int .i64 sq), PV.sl false 4 (pvE mem), PV.sl false 1 (pvR rs), PV.sl false 1 (pvI sn)]] [] [.one (.sl true 4 (pvE (zCR cmpK (mem ++ ents rs))))] := by
 refine zAS func44 rfl rfl rfl rfl ?_
 have hle := zAk rs
 have hlm := zAF mem
 have hls := zAU sn
 have hle2 := zAF (ents rs)
 refine zAB (zAA rfl (.run [] [1] rfl (zBT rfl 1 rfl rfl (by decide) rfl (by decide)) (.a rfl rfl .nil)) ?_)
 refine zAB (zAZ zBD rfl (.r rfl (zAC rfl rfl underlying28 rfl sizeOf24 (by decide)) (.r rfl (zAD rfl rfl rfl isAgg24 rfl) (.run [500] [] rfl (zAK rfl 500 (X := []) en26 rfl (.val nod) (.cons (.one (.bor (.sl nod))) .nil) (by decide) all_nil .nil (zDi mem (by omega)) rfl rfl (nle rfl)) (.r rfl (zAC rfl rfl underlying28 rfl sizeOf25 (by decide)) (.r rfl (zAD rfl rfl rfl isAgg25 rfl) (.run [800] [] rfl (zAK rfl 800 (X := []) en25 rfl (.val nod) (.cons (.one (.bor (.sl nod))) .nil) (by decide) all_nil .nil (zDc rs (by omega) (by omega)) rfl rfl (nle rfl)) (.run [500] [] rfl (zAq rfl 500 (ib := 500) (len := ((pvE mem) ++ (pvE (ents rs))).length) rfl rfl (.row (len := (pvE mem).length) (xs := pvE mem) rfl rfl (.inl rfl)) (.give (len := (pvE (ents rs)).length) (xs := pvE (ents rs)) rfl rfl) underlying24 (sk underlying24 rfl) zBb rfl (by decide) (by decide) (by decide) List.length_append (by simp only [maxLen, List.length_append, List.length_cons, List.length_nil, zAF]; omega) (by simp only [maxLen, List.length_append, List.length_cons, List.length_nil, zAF]; omega)) (.run [500, 1000] [] rfl (zAK rfl 1000 (X := []) en37 rfl (.val nod) (.cons (.one (.bor (.all (len := ((pvE mem) ++ (pvE (ents rs))).length) (xs := (pvE mem) ++ (pvE (ents rs))) rfl rfl (by decide)))) .nil) (by decide) all_nil .nil (zMW mem (ents rs) (by rw [List.length_append]; omega) hd) rfl rfl (nle rfl)) (.a rfl rfl .nil))))))))) (by kernel_rfl) ?_)
 refine zAO ?_
 exact ends [_] [1000] (.cons (.tmp rfl) .nil) (.cons (.one (.row (len := (pvE (zCR cmpK (mem ++ ents rs))).length) (xs := pvE (zCR cmpK (mem ++ ents rs))) rfl rfl) (.sl _ _ (FlatP.clean (zAg _)))) .nil) (by decide) trivial
theorem zJA (sq : Int) (mem : List Ent) (rs : RunL) (sn : List Int) (hm : mem.length ≤ 2000000) (hl : rs.length ≤ 1000000) (hb : ∀ r ∈ rs, r.2.length ≤ 2000000) (hsn : sn.length ≤ 1000000) : Con Tryz.prog 8 [.agg [PV.v (.int .i64 sq), PV.sl false 4 (pvE mem), PV.sl false 1 (pvR rs), PV.sl false 1 (pvI sn)]] [] [.one (.v (.bool (zBN sq mem rs sn)))] := by
 refine zAS func8 rfl rfl rfl rfl ?_
 have hle := zAk rs
 have hlm := zAF mem
 have hls := zAU sn
 refine zAB (zAA rfl (.run [] [1] rfl (zBT rfl 1 rfl rfl (by decide) rfl (by decide)) (.a rfl rfl .nil)) ?_)
 refine zAB ?_
 refine zAB ?_
 refine zAV (s' := mk [(1, .ptr 1 0)] [(1, [.vi sq, .p none (.sl false 4 (pvE mem)), .p none (.sl false 1 (pvR rs)), .p none (.sl false 1 (pvI sn))])] []) ?_ ?_
 · exact zAI ⟨rfl, trivial⟩ ⟨rfl, trivial⟩ trivial rfl
 rcases bfc (!(zA1 sq 0 1000000000000)) with h1 | h1
 ·
  have h1' := h1
  replace h1' : (zA1 sq 0 1000000000000) = true := zBI h1'
  rcases bfc (!(zAp mem)) with h2 | h2
  ·
   have h2' := h2
   replace h2' : (zAp mem) = true := zBI h2'
   rcases bfc (!(zBG rs)) with h3 | h3
   ·
    have h3' := h3
    replace h3' : (zBG rs) = true := zBI h3'
    refine zAA rfl (.r rfl (zAC rfl rfl underlying28 rfl sizeOf2 (by decide)) (.r rfl (zAD rfl rfl rfl isAgg2 rfl) (.run [1500] [] rfl (zAK rfl 1500 (X := []) en29 rfl (.val nod) (.cons (.one (.bor .v)) (.cons (.one (.bor .v)) (.cons (.one (.bor .v)) .nil))) (by decide) all_nil .nil (zCf sq 0 1000000000000) rfl rfl (nle rfl)) (.r rfl (zAX (zA3 (b := zA1 sq 0 1000000000000) rfl rfl) (zAM h1)) (.m rfl rfl (.r rfl (zAC rfl rfl underlying28 rfl sizeOf24 (by decide)) (.r rfl (zAD rfl rfl rfl isAgg24 rfl) (.run [2000] [] rfl (zAK rfl 2000 (X := []) en30 rfl (.val nod) (.cons (.one (.bor (.sl nod))) .nil) (by decide) all_nil .nil (zCH mem (by omega)) rfl rfl (nle rfl)) (.r rfl (zAX (zA3 (b := zAp mem) rfl rfl) (zAM h2)) (.r rfl (zA5 rfl rfl) (.m rfl rfl (.r rfl (zAC rfl rfl underlying28 rfl sizeOf25 (by decide)) (.r rfl (zAD rfl rfl rfl isAgg25 rfl) (.run [2600] [] rfl (zAK rfl 2600 (X := []) en31 rfl (.val nod) (.cons (.one (.bor (.sl nod))) .nil) (by decide) all_nil .nil (zEh rs (by omega) hb) rfl rfl (nle rfl)) (.r rfl (zAX (zA3 (b := zBG rs) rfl rfl) (zAM h3)) (.r rfl (zA5 rfl rfl) (.m rfl rfl (.r rfl (zAC rfl rfl underlying28 rfl sizeOf26 (by decide)) (.r rfl (zAD rfl rfl rfl isAgg26 rfl) (.run [3200] [] rfl (zAK rfl 3200 (X := []) en32 rfl (.val nod) (.cons (.one (.bor (.sl nod))) .nil) (by decide) all_nil .nil (zGV sn (by omega)) rfl rfl (nle rfl)) (.r rfl (zA3 (b := zBK sn) rfl rfl) (.r rfl (zA5 rfl rfl) .nil)))))))))))))))))))))) ?_
    refine zAb (t := (!(zBK sn))) rfl (fun h4 => ?_) (fun h4 => ?_)
    ·
     replace h4 : (zBK sn) = false := zBH h4
     refine zAB ?_
     refine zAV (s' := mk [] [] []) ?_ ?_
     · exact zAI trivial trivial trivial rfl
     refine zAA rfl (.a rfl rfl .nil) ?_
     refine zAO ?_
     exact ends [_] [] (.cons (.tmp (zAM (zGK (zOJ (by simpa using h4))))) .nil) (.cons (.one .v (.v _)) .nil) (by decide) trivial
    ·
     replace h4 : (zBK sn) = true := zBI h4
     refine zAL ?_
     refine zAB ?_
     have hbase : zBf sq mem rs sn = true := by simp_all [zBf]
     have hbm := zDg (l := mem) (by assumption)
     have hbr := zFD (rs := rs) (by assumption)
     have hbs := zFB (sn := sn) (by assumption)
     refine zAV (s' := mk [(1, .ptr 1 0)] [(1, [.vi sq, .p none (.sl false 4 (pvE mem)), .p none (.sl false 1 (pvR rs)), .p none (.sl false 1 (pvI sn))])] []) ?_ ?_
     · exact zAI ⟨rfl, trivial⟩ ⟨rfl, trivial⟩ trivial rfl
     refine zAA rfl (.r rfl (zAC rfl rfl underlying28 rfl sizeOf24 (by decide)) (.r rfl (zAD rfl rfl rfl isAgg24 rfl) (.r rfl (zAa rfl rfl underlying24) (.a rfl rfl .nil)))) ?_
     refine zAB ?_
     refine zAB (zAA rfl (.a rfl rfl .nil) ?_)
     refine zAR ?_
     refine zAo (σ := Nat) (fun i => mk [(1, .ptr 1 0), (3, .vi ((mem.length + (ents (rs.take i)).length : Nat) : Int)), (4, .vi (i:Int))] [(1, [.vi sq, .p none (.sl false 4 (pvE mem)), .p none (.sl false 1 (pvR rs)), .p none (.sl false 1 (pvI sn))])] []) (fun i => i ≤ rs.length) (fun i => rs.length - i) 0 (by simp) (zAI ⟨rfl, (zAJ (by rw [zAF]; rfl)), (zAJ (by omega)), trivial⟩ ⟨rfl, trivial⟩ trivial rfl) ?_
     rintro i hG
     replace hG : i ≤ rs.length := hG
     have hti := zDu rs i
     refine zAB ?_
     refine zAB (zAA rfl (.m rfl rfl (.r rfl (zAC rfl rfl underlying28 rfl sizeOf25 (by decide)) (.r rfl (zAD rfl rfl rfl isAgg25 rfl) (.r rfl (zAa rfl rfl underlying25) (.r rfl (zA4 rfl rfl rfl) .nil))))) ?_)
     refine zAb (t := decide ((i:Int) < ((pvR rs).length : Int))) rfl (fun h5 => ?_) (fun h5 => ?_)
     ·
      replace h5 := of_decide_eq_true h5
      refine zAL ?_
      refine zAB ?_
      refine zAR ?_
      obtain ⟨e, he⟩ : ∃ e, rs[i]? = some e := ⟨_, List.getElem?_eq_getElem (by omega)⟩
      have hrl := zEt he
      have hrv := zAF e.2
      refine zAA rfl (.m rfl rfl (.r rfl (zAC rfl rfl underlying28 rfl sizeOf25 (by decide)) (.r rfl (zAD rfl rfl rfl isAgg25 rfl) (.m rfl rfl (.r rfl (zAf rfl rfl rfl underlying25 sizeOf61 rfl (by omega) (zDB he)) (.r rfl (zAj rfl rfl underlying61 rfl sizeOf24 (by decide)) (.r rfl (zAd rfl rfl isAgg24 rfl) (.r rfl (zAa rfl rfl underlying24) (.r rfl (zAe rfl rfl rfl (by omega)) (.a rfl rfl .nil)))))))))) ?_
      refine zAV (s' := mk [(1, .ptr 1 0), (3, .vi (((mem.length + (ents (rs.take i)).length : Nat) : Int) + ((pvE e.2).length : Int))), (4, .vi (i:Int))] [(1, [.vi sq, .p none (.sl false 4 (pvE mem)), .p none (.sl false 1 (pvR rs)), .p none (.sl false 1 (pvI sn))])] []) ?_ ?_
      · exact zAI ⟨rfl, rfl, rfl, trivial⟩ ⟨rfl, trivial⟩ trivial rfl
      refine zAA rfl (.m rfl rfl (.r rfl (zAe rfl rfl rfl (by omega)) (.a rfl rfl .nil))) ?_
      refine nxt (Q := fun _ _ => False) (z := i) (i + 1) ?_ ?_ ?_
      ·
       show (i + 1) ≤ rs.length
       omega
      ·
       show rs.length - (i + 1) < rs.length - i
       omega
      · exact zAI ⟨rfl, (zAJ (by rw [zEI he, List.length_append, zAF]; omega)), (zAJ (by omega)), trivial⟩ ⟨rfl, trivial⟩ trivial rfl
     ·
      replace h5 := of_decide_eq_false h5
      refine zAu ?_
      refine zAB ?_
      have hall : ents (rs.take i) = ents rs := by rw [List.take_of_length_le (by omega)]
      have hal := congrArg List.length hall
      have hva := zAF (allS mem rs)
      refine zAA rfl (.r rfl (zAG rfl rfl rfl isAgg28 sizeOf28 (nle rfl)) (.run [5500] [] rfl (zAK rfl 5500 (X := []) en33 rfl (.val nod) (.cons (.agg (.cons (.bor .v) (.cons (.bor (.sl nod)) (.cons (.bor (.sl nod)) (.cons (.bor (.sl nod)) .nil))))) .nil) (by decide) all_nil .nil (zHm sq mem rs sn (by omega) hl) rfl rfl (nle rfl)) (.a rfl rfl .nil))) ?_
      refine zAB ?_
      refine zAB ?_
      rcases bfc (decide (400 < ((mem.length + (ents (rs.take i)).length : Nat) : Int))) with h6 | h6
      ·
       have h6' := h6
       replace h6' := of_decide_eq_false h6'
       refine zAA rfl (.m rfl rfl (.r rfl (zAX (zBF rfl rfl rfl) (zAM h6)) (.m rfl rfl (.m rfl rfl (.m rfl rfl (.r rfl (zA2 rfl rfl underlying24) (.r rfl (zCl rfl rfl rfl) (.r rfl (zA5 rfl rfl) .nil)))))))) ?_
       refine zAb (t := (!(decide (((mem.length + (ents (rs.take i)).length : Nat) : Int) = ((pvE (allS mem rs)).length : Int))))) rfl (fun h7 => ?_) (fun h7 => ?_)
       ·
        replace h7 : ¬ (((mem.length + (ents (rs.take i)).length : Nat) : Int) = ((pvE (allS mem rs)).length : Int)) := of_decide_eq_false (zBH h7)
        refine zAB ?_
        refine zAV (s' := mk [] [] []) ?_ ?_
        · exact zAI trivial trivial trivial rfl
        refine zAA rfl (.a rfl rfl .nil) ?_
        refine zAO ?_
        exact ends [_] [] (.cons (.tmp (zAM (zHs (fun q => by have := q.all; omega)))) .nil) (.cons (.one .v (.v _)) .nil) (by decide) trivial
       ·
        replace h7 : ((mem.length + (ents (rs.take i)).length : Nat) : Int) = ((pvE (allS mem rs)).length : Int) := of_decide_eq_true (zBI h7)
        refine zAL ?_
        refine zAB ?_
        refine zAB ?_
        refine zAV (s' := mk [(1, .ptr 1 0), (5, .sl 5500 0 ((pvE (allS mem rs)).length))] [(1, [.vi sq, .p none (.sl false 4 (pvE mem)), .p none (.sl false 1 (pvR rs)), .p none (.sl false 1 (pvI sn))])] [(5500, 4, pvE (allS mem rs))]) ?_ ?_
        · exact zAI ⟨rfl, rfl, trivial⟩ ⟨rfl, trivial⟩ ⟨rfl, trivial⟩ rfl
        refine zAA rfl (.a rfl rfl .nil) ?_
        refine zAR ?_
        refine zAo (σ := Nat) (fun i1 => mk [(1, .ptr 1 0), (5, .sl 5500 0 ((pvE (allS mem rs)).length)), (6, .vi (i1:Int))] [(1, [.vi sq, .p none (.sl false 4 (pvE mem)), .p none (.sl false 1 (pvR rs)), .p none (.sl false 1 (pvI sn))])] [(5500, 4, pvE (allS mem rs))]) (fun i1 => i1 ≤ (allS mem rs).length ∧ Seqs sq (allS mem rs) i1) (fun i1 => (allS mem rs).length - i1) 0 ⟨Nat.zero_le _, zJC _ _⟩ (zAI ⟨rfl, rfl, (zAJ (by omega)), trivial⟩ ⟨rfl, trivial⟩ ⟨rfl, trivial⟩ rfl) ?_
        rintro i1 hG
        replace hG : i1 ≤ (allS mem rs).length ∧ Seqs sq (allS mem rs) i1 := hG
        obtain ⟨hi1, hS⟩ := hG
        refine zAB ?_
        refine zAB (zAA rfl (.m rfl rfl (.m rfl rfl (.r rfl (zA2 rfl rfl underlying24) (.r rfl (zA4 rfl rfl rfl) .nil)))) ?_)
        refine zAb (t := decide ((i1:Int) < ((pvE (allS mem rs)).length : Int))) rfl (fun h8 => ?_) (fun h8 => ?_)
        ·
         replace h8 := of_decide_eq_true h8
         refine zAL ?_
         refine zAB ?_
         refine zAR ?_
         refine zAB ?_
         refine zAB ?_
         obtain ⟨x, hx⟩ : ∃ x, (allS mem rs)[i1]? = some x := ⟨_, List.getElem?_eq_getElem (by omega)⟩
         refine zAZ zBD rfl (.m rfl rfl (.m rfl rfl (.r rfl (zAW i1 rfl rfl rfl rfl underlying24 sizeOf56 rfl rfl (by omega)) (.r rfl (zBW rfl rfl underlying56 rfl sizeOf54 (by decide)) (.r rfl (zBW rfl rfl underlying54 rfl sizeOf2 (by decide)) (.r rfl (zAt rfl rfl rfl (zAw hx) isAgg2 rfl) (.r rfl (zAC rfl rfl underlying28 rfl sizeOf2 (by decide)) (.r rfl (zAD rfl rfl rfl isAgg2 rfl) (.r rfl (zBF rfl rfl rfl) .nil))))))))) (by kernel_rfl) ?_
         refine zAb (t := decide (sq < x.seq)) rfl (fun h9 => ?_) (fun h9 => ?_)
         ·
          replace h9 := of_decide_eq_true h9
          refine zAB (zAA rfl (.a rfl rfl .nil) ?_)
          refine zAO ?_
          exact ends [_] [] (.cons (.tmp (zAM (zHs (no_seq hx h9)))) .nil) (.cons (.one .v (.v _)) .nil) (by decide) trivial
         ·
          replace h9 := of_decide_eq_false h9
          refine zAL ?_
          refine zAB (zAA rfl (.a rfl rfl .nil) ?_)
          refine zAR ?_
          refine zAo (σ := Nat) (fun k => mk [(1, .ptr 1 0), (5, .sl 5500 0 ((pvE (allS mem rs)).length)), (6, .vi (i1:Int)), (7, .vi (k:Int))] [(1, [.vi sq, .p none (.sl false 4 (pvE mem)), .p none (.sl false 1 (pvR rs)), .p none (.sl false 1 (pvI sn))])] [(5500, 4, pvE (allS mem rs))]) (fun k => k ≤ i1 ∧ zF3 (allS mem rs) x k) (fun k => i1 - k) 0 ⟨Nat.zero_le _, zJ7 _ _⟩ (zAI ⟨rfl, rfl, rfl, (zAJ (by omega)), trivial⟩ ⟨rfl, trivial⟩ ⟨rfl, trivial⟩ rfl) ?_
          rintro k hG
          replace hG : k ≤ i1 ∧ zF3 (allS mem rs) x k := hG
          obtain ⟨hk, hUn⟩ := hG
          refine zAB ?_
          refine zAB (zAA rfl (.m rfl rfl (.m rfl rfl (.r rfl (zA4 rfl rfl rfl) .nil))) ?_)
          refine zAb (t := decide ((k:Int) < (i1:Int))) rfl (fun h10 => ?_) (fun h10 => ?_)
          ·
           replace h10 := of_decide_eq_true h10
           refine zAL ?_
           refine zAB ?_
           refine zAR ?_
           refine zAB ?_
           obtain ⟨y, hy⟩ : ∃ y, (allS mem rs)[k]? = some y := ⟨_, List.getElem?_eq_getElem (by omega)⟩
           refine zAZ zBD rfl (.m rfl rfl (.m rfl rfl (.r rfl (zAW k rfl rfl rfl rfl underlying24 sizeOf56 rfl rfl (by omega)) (.r rfl (zBW rfl rfl underlying56 rfl sizeOf54 (by decide)) (.r rfl (zBW rfl rfl underlying54 rfl sizeOf2 (by decide)) (.r rfl (zAt rfl rfl rfl (zAw hy) isAgg2 rfl) (.m rfl rfl (.m rfl rfl (.r rfl (zAW i1 rfl rfl rfl rfl underlying24 sizeOf56 rfl rfl (by omega)) (.r rfl (zBW rfl rfl underlying56 rfl sizeOf54 (by decide)) (.r rfl (zBW rfl rfl underlying54 rfl sizeOf2 (by decide)) (.r rfl (zAt rfl rfl rfl (zAw hx) isAgg2 rfl) (.r rfl (zA9 rfl rfl rfl) .nil))))))))))))) (by kernel_rfl) ?_
           refine zAb (t := decide (y.seq = x.seq)) rfl (fun h11 => ?_) (fun h11 => ?_)
           ·
            replace h11 := of_decide_eq_true h11
            refine zAB ?_
            refine zAV (s' := mk [] [] []) ?_ ?_
            · exact zAI trivial trivial trivial rfl
            refine zAA rfl (.a rfl rfl .nil) ?_
            refine zAO ?_
            exact ends [_] [] (.cons (.tmp (zAM (zHs (no_like hx hy (by omega) h11)))) .nil) (.cons (.one .v (.v _)) .nil) (by decide) trivial
           ·
            replace h11 := of_decide_eq_false h11
            refine zAL ?_
            refine zAV (s' := mk [(1, .ptr 1 0), (5, .sl 5500 0 ((pvE (allS mem rs)).length)), (6, .vi (i1:Int)), (7, .vi (k:Int))] [(1, [.vi sq, .p none (.sl false 4 (pvE mem)), .p none (.sl false 1 (pvR rs)), .p none (.sl false 1 (pvI sn))])] [(5500, 4, pvE (allS mem rs))]) ?_ ?_
            · exact zAI ⟨rfl, rfl, rfl, rfl, trivial⟩ ⟨rfl, trivial⟩ ⟨rfl, trivial⟩ rfl
            refine zAA rfl (.m rfl rfl (.r rfl (zAe rfl rfl rfl (by omega)) (.a rfl rfl .nil))) ?_
            refine nxt (Q := fun _ _ => False) (z := k) (k + 1) ?_ ?_ ?_
            ·
             show (k + 1) ≤ i1 ∧ zF3 (allS mem rs) x (k + 1)
             exact ⟨by omega, zJ8 hUn hy h11⟩
            ·
             show i1 - (k + 1) < i1 - k
             omega
            · exact zAI ⟨rfl, rfl, rfl, (zAJ (by omega)), trivial⟩ ⟨rfl, trivial⟩ ⟨rfl, trivial⟩ rfl
          ·
           replace h10 := of_decide_eq_false h10
           refine zAu ?_
           refine zAA rfl (.m rfl rfl (.r rfl (zAe rfl rfl rfl (by omega)) (.a rfl rfl .nil))) ?_
           refine nxt (Q := fun _ _ => False) (z := i1) (i1 + 1) ?_ ?_ ?_
           ·
            show (i1 + 1) ≤ (allS mem rs).length ∧ Seqs sq (allS mem rs) (i1 + 1)
            exact ⟨by omega, zJD hS hx h9 (fun k2 y hk2 hy2 => hUn k2 y (by omega) hy2)⟩
           ·
            show (allS mem rs).length - (i1 + 1) < (allS mem rs).length - i1
            omega
           · exact zAI ⟨rfl, rfl, (zAJ (by omega)), trivial⟩ ⟨rfl, trivial⟩ ⟨rfl, trivial⟩ rfl
        ·
         replace h8 := of_decide_eq_false h8
         refine zAu ?_
         refine zAB ?_
         refine zAB (zAA rfl (.a rfl rfl .nil) ?_)
         refine zAR ?_
         refine zAo (σ := Nat) (fun i3 => mk [(1, .ptr 1 0), (8, .vi (i3:Int))] [(1, [.vi sq, .p none (.sl false 4 (pvE mem)), .p none (.sl false 1 (pvR rs)), .p none (.sl false 1 (pvI sn))])] []) (fun i3 => i3 ≤ sn.length ∧ UpTo sq sn i3) (fun i3 => sn.length - i3) 0 ⟨Nat.zero_le _, zMx _ _⟩ (zAI ⟨rfl, (zAJ (by omega)), trivial⟩ ⟨rfl, trivial⟩ trivial rfl) ?_
         rintro i3 hG
         replace hG : i3 ≤ sn.length ∧ UpTo sq sn i3 := hG
         obtain ⟨hi3, hU⟩ := hG
         refine zAB ?_
         refine zAB (zAA rfl (.m rfl rfl (.r rfl (zAC rfl rfl underlying28 rfl sizeOf26 (by decide)) (.r rfl (zAD rfl rfl rfl isAgg26 rfl) (.r rfl (zAa rfl rfl underlying26) (.r rfl (zA4 rfl rfl rfl) .nil))))) ?_)
         refine zAb (t := decide ((i3:Int) < ((pvI sn).length : Int))) rfl (fun h12 => ?_) (fun h12 => ?_)
         ·
          replace h12 := of_decide_eq_true h12
          refine zAL ?_
          refine zAB ?_
          refine zAR ?_
          refine zAB ?_
          obtain ⟨e, he⟩ : ∃ e, sn[i3]? = some e := ⟨_, List.getElem?_eq_getElem (by omega)⟩
          refine zAZ zBD rfl (.r rfl (zAC rfl rfl underlying28 rfl sizeOf26 (by decide)) (.r rfl (zAD rfl rfl rfl isAgg26 rfl) (.m rfl rfl (.r rfl (zAf rfl rfl rfl underlying26 sizeOf2 rfl (by omega) (zBe he)) (.r rfl (zAd rfl rfl isAgg2 rfl) (.r rfl (zAC rfl rfl underlying28 rfl sizeOf2 (by decide)) (.r rfl (zAD rfl rfl rfl isAgg2 rfl) (.r rfl (zBF rfl rfl rfl) .nil)))))))) (by kernel_rfl) ?_
          refine zAb (t := decide (sq < e)) rfl (fun h13 => ?_) (fun h13 => ?_)
          ·
           replace h13 := of_decide_eq_true h13
           refine zAB (zAA rfl (.a rfl rfl .nil) ?_)
           refine zAO ?_
           exact ends [_] [] (.cons (.tmp (zAM (zHs (no_snap he h13)))) .nil) (.cons (.one .v (.v _)) .nil) (by decide) trivial
          ·
           replace h13 := of_decide_eq_false h13
           refine zAL ?_
           refine zAA rfl (.m rfl rfl (.r rfl (zAe rfl rfl rfl (by omega)) (.a rfl rfl .nil))) ?_
           refine nxt (Q := fun _ _ => False) (z := i3) (i3 + 1) ?_ ?_ ?_
           ·
            show (i3 + 1) ≤ sn.length ∧ UpTo sq sn (i3 + 1)
            exact ⟨by omega, zMy hU he h13⟩
           ·
            show sn.length - (i3 + 1) < sn.length - i3
            omega
           · exact zAI ⟨rfl, (zAJ (by omega)), trivial⟩ ⟨rfl, trivial⟩ trivial rfl
         ·
          replace h12 := of_decide_eq_false h12
          refine zAu ?_
          refine zAB (zAA rfl (.a rfl rfl .nil) ?_)
          refine zAB ?_
          refine zAB (zAA rfl (.a rfl rfl .nil) ?_)
          refine zAR ?_
          refine zAo (σ := Nat) (fun i4 => mk [(1, .ptr 1 0), (9, .vi (zCU (mem.take i4))), (10, .vi (i4:Int))] [(1, [.vi sq, .p none (.sl false 4 (pvE mem)), .p none (.sl false 1 (pvR rs)), .p none (.sl false 1 (pvI sn))])] []) (fun i4 => i4 ≤ mem.length) (fun i4 => mem.length - i4) 0 (by simp) (zAI ⟨rfl, (zAJ (by rfl)), (zAJ (by omega)), trivial⟩ ⟨rfl, trivial⟩ trivial rfl) ?_
          rintro i4 hG
          replace hG : i4 ≤ mem.length := hG
          refine zAB ?_
          refine zAB (zAA rfl (.m rfl rfl (.r rfl (zAC rfl rfl underlying28 rfl sizeOf24 (by decide)) (.r rfl (zAD rfl rfl rfl isAgg24 rfl) (.r rfl (zAa rfl rfl underlying24) (.r rfl (zA4 rfl rfl rfl) .nil))))) ?_)
          refine zAb (t := decide ((i4:Int) < ((pvE mem).length : Int))) rfl (fun h14 => ?_) (fun h14 => ?_)
          ·
           replace h14 := of_decide_eq_true h14
           refine zAL ?_
           refine zAB ?_
           refine zAR ?_
           obtain ⟨e, he⟩ : ∃ e, mem[i4]? = some e := ⟨_, List.getElem?_eq_getElem (by omega)⟩
           refine zAA rfl (.m rfl rfl (.r rfl (zAC rfl rfl underlying28 rfl sizeOf24 (by decide)) (.r rfl (zAD rfl rfl rfl isAgg24 rfl) (.m rfl rfl (.r rfl (zAf rfl rfl rfl underlying24 sizeOf56 rfl (by omega) (zAw he)) (.r rfl (zAj rfl rfl underlying56 rfl sizeOf54 (by decide)) (.r rfl (zAj rfl rfl underlying54 rfl sizeOf2 (by decide)) (.r rfl (zAd rfl rfl isAgg2 rfl) (.r rfl (st_min rfl rfl rfl) (.a rfl rfl .nil)))))))))) ?_
           refine zAV (s' := mk [(1, .ptr 1 0), (9, .vi (min (zCU (mem.take i4)) e.seq)), (10, .vi (i4:Int))] [(1, [.vi sq, .p none (.sl false 4 (pvE mem)), .p none (.sl false 1 (pvR rs)), .p none (.sl false 1 (pvI sn))])] []) ?_ ?_
           · exact zAI ⟨rfl, rfl, rfl, trivial⟩ ⟨rfl, trivial⟩ trivial rfl
           refine zAA rfl (.m rfl rfl (.r rfl (zAe rfl rfl rfl (by omega)) (.a rfl rfl .nil))) ?_
           refine nxt (Q := fun _ _ => False) (z := i4) (i4 + 1) ?_ ?_ ?_
           ·
            show (i4 + 1) ≤ mem.length
            omega
           ·
            show mem.length - (i4 + 1) < mem.length - i4
            omega
           · exact zAI ⟨rfl, (zAJ (by rw [zMZ he])), (zAJ (by omega)), trivial⟩ ⟨rfl, trivial⟩ trivial rfl
          ·
           replace h14 := of_decide_eq_false h14
           refine zAu ?_
           refine zAB ?_
           refine zAB ?_
           have hlst : zCU (mem.take i4) = zCU mem := by rw [List.take_of_length_le (by omega)]
           refine zAA rfl (.a rfl rfl .nil) ?_
           refine zAR ?_
           refine zAo (σ := Nat) (fun i5 => mk [(1, .ptr 1 0), (9, .vi (zCU (mem.take i4))), (11, .vi (i5:Int))] [(1, [.vi sq, .p none (.sl false 4 (pvE mem)), .p none (.sl false 1 (pvR rs)), .p none (.sl false 1 (pvI sn))])] []) (fun i5 => i5 ≤ rs.length ∧ zF4 (zCU mem) rs i5) (fun i5 => rs.length - i5) 0 ⟨Nat.zero_le _, zKr _ _⟩ (zAI ⟨rfl, rfl, (zAJ (by omega)), trivial⟩ ⟨rfl, trivial⟩ trivial rfl) ?_
           rintro i5 hG
           replace hG : i5 ≤ rs.length ∧ zF4 (zCU mem) rs i5 := hG
           obtain ⟨hi5, hB⟩ := hG
           refine zAB ?_
           refine zAB (zAA rfl (.m rfl rfl (.r rfl (zAC rfl rfl underlying28 rfl sizeOf25 (by decide)) (.r rfl (zAD rfl rfl rfl isAgg25 rfl) (.r rfl (zAa rfl rfl underlying25) (.r rfl (zA4 rfl rfl rfl) .nil))))) ?_)
           refine zAb (t := decide ((i5:Int) < ((pvR rs).length : Int))) rfl (fun h15 => ?_) (fun h15 => ?_)
           ·
            replace h15 := of_decide_eq_true h15
            refine zAL ?_
            refine zAB ?_
            refine zAR ?_
            refine zAB ?_
            obtain ⟨r, hr⟩ : ∃ r, rs[i5]? = some r := ⟨_, List.getElem?_eq_getElem (by omega)⟩
            have hrv := zAF r.2
            have hrl := zEt hr
            refine zAA rfl (.a rfl rfl .nil) ?_
            refine zAR ?_
            refine zAo (σ := Nat) (fun k6 => mk [(1, .ptr 1 0), (9, .vi (zCU (mem.take i4))), (11, .vi (i5:Int)), (12, .vi (k6:Int))] [(1, [.vi sq, .p none (.sl false 4 (pvE mem)), .p none (.sl false 1 (pvR rs)), .p none (.sl false 1 (pvI sn))])] []) (fun k6 => k6 ≤ r.2.length ∧ zF5 (zCU mem) r.2 k6) (fun k6 => r.2.length - k6) 0 ⟨Nat.zero_le _, zKu _ _⟩ (zAI ⟨rfl, rfl, rfl, (zAJ (by omega)), trivial⟩ ⟨rfl, trivial⟩ trivial rfl) ?_
            rintro k6 hG
            replace hG : k6 ≤ r.2.length ∧ zF5 (zCU mem) r.2 k6 := hG
            obtain ⟨hk6, hB1⟩ := hG
            refine zAB ?_
            refine zAB (zAA rfl (.m rfl rfl (.r rfl (zAC rfl rfl underlying28 rfl sizeOf25 (by decide)) (.r rfl (zAD rfl rfl rfl isAgg25 rfl) (.m rfl rfl (.r rfl (zAf rfl rfl rfl underlying25 sizeOf61 rfl (by omega) (zDB hr)) (.r rfl (zAj rfl rfl underlying61 rfl sizeOf24 (by decide)) (.r rfl (zAd rfl rfl isAgg24 rfl) (.r rfl (zAa rfl rfl underlying24) (.r rfl (zA4 rfl rfl rfl) .nil))))))))) ?_)
            refine zAb (t := decide ((k6:Int) < ((pvE r.2).length : Int))) rfl (fun h16 => ?_) (fun h16 => ?_)
            ·
             replace h16 := of_decide_eq_true h16
             refine zAL ?_
             refine zAB ?_
             refine zAR ?_
             refine zAB ?_
             obtain ⟨x, hx⟩ : ∃ x, r.2[k6]? = some x := ⟨_, List.getElem?_eq_getElem (by omega)⟩
             refine zAV (s' := mk [(1, .ptr 1 0), (9, .vi (zCU (mem.take i4))), (11, .vi (i5:Int)), (12, .vi (k6:Int))] [(1, [.vi sq, .p none (.sl false 4 (pvE mem)), .p none (.sl false 1 (pvR rs)), .p none (.sl false 1 (pvI sn))])] []) ?_ ?_
             · exact zAI ⟨rfl, rfl, rfl, rfl, trivial⟩ ⟨rfl, trivial⟩ trivial rfl
             refine zAA rfl (.r rfl (zAC rfl rfl underlying28 rfl sizeOf25 (by decide)) (.r rfl (zAD rfl rfl rfl isAgg25 rfl) (.m rfl rfl (.r rfl (zAf rfl rfl rfl underlying25 sizeOf61 rfl (by omega) (zDB hr)) (.r rfl (zAj rfl rfl underlying61 rfl sizeOf24 (by decide)) (.r rfl (zAd rfl rfl isAgg24 rfl) (.m rfl rfl (.r rfl (zAf rfl rfl rfl underlying24 sizeOf56 rfl (by omega) (zAw hx)) (.r rfl (zAj rfl rfl underlying56 rfl sizeOf54 (by decide)) (.r rfl (zAj rfl rfl underlying54 rfl sizeOf2 (by decide)) (.r rfl (zAd rfl rfl isAgg2 rfl) (.m rfl rfl (.r rfl (zCM rfl rfl rfl) .nil))))))))))))) ?_
             refine zAb (t := decide ((zCU (mem.take i4)) ≤ x.seq)) rfl (fun h17 => ?_) (fun h17 => ?_)
             ·
              replace h17 := of_decide_eq_true h17
              refine zAB (zAA rfl (.a rfl rfl .nil) ?_)
              refine zAO ?_
              exact ends [_] [] (.cons (.tmp (zAM (zHs (zO8 hr hx (by rw [← hlst]; exact h17))))) .nil) (.cons (.one .v (.v _)) .nil) (by decide) trivial
             ·
              replace h17 := of_decide_eq_false h17
              refine zAL ?_
              refine zAA rfl (.m rfl rfl (.r rfl (zAe rfl rfl rfl (by omega)) (.a rfl rfl .nil))) ?_
              refine nxt (Q := fun _ _ => False) (z := k6) (k6 + 1) ?_ ?_ ?_
              ·
               show (k6 + 1) ≤ r.2.length ∧ zF5 (zCU mem) r.2 (k6 + 1)
               exact ⟨by omega, zKv hB1 hx (by rw [← hlst]; exact h17)⟩
              ·
               show r.2.length - (k6 + 1) < r.2.length - k6
               omega
              · exact zAI ⟨rfl, rfl, rfl, (zAJ (by omega)), trivial⟩ ⟨rfl, trivial⟩ trivial rfl
            ·
             replace h16 := of_decide_eq_false h16
             refine zAu ?_
             refine zAA rfl (.m rfl rfl (.r rfl (zAe rfl rfl rfl (by omega)) (.a rfl rfl .nil))) ?_
             refine nxt (Q := fun _ _ => False) (z := i5) (i5 + 1) ?_ ?_ ?_
             ·
              show (i5 + 1) ≤ rs.length ∧ zF4 (zCU mem) rs (i5 + 1)
              exact ⟨by omega, zKs hB hr hB1 (by omega)⟩
             ·
              show rs.length - (i5 + 1) < rs.length - i5
              omega
             · exact zAI ⟨rfl, rfl, (zAJ (by omega)), trivial⟩ ⟨rfl, trivial⟩ trivial rfl
           ·
            replace h15 := of_decide_eq_false h15
            refine zAu ?_
            refine zAB (zAA rfl (.a rfl rfl .nil) ?_)
            refine zAO ?_
            exact ends [_] [] (.cons (.tmp (zAM (dbs_yes hbase ⟨by omega, by omega, fun j x hj hx => hS j x (by omega) hx, fun j x hj hx => hU j x (by omega) hx, fun j r hj hr => hB j r (by omega) hr⟩))) .nil) (.cons (.one .v (.v _)) .nil) (by decide) trivial
      ·
       have h6' := h6
       replace h6' := of_decide_eq_true h6'
       refine zAA rfl (.m rfl rfl (.r rfl (zAX (zBF rfl rfl rfl) (zAM h6)) (.m rfl rfl (.not rfl (.not rfl (.not rfl (.not rfl (.r rfl (zBZ rfl rfl) .nil)))))))) ?_
       refine zAb (t := true) rfl (fun _ => ?_) (fun h => nomatch h)
       refine zAB ?_
       refine zAV (s' := mk [] [] []) ?_ ?_
       · exact zAI trivial trivial trivial rfl
       refine zAA rfl (.a rfl rfl .nil) ?_
       refine zAO ?_
       exact ends [_] [] (.cons (.tmp (zAM (zHs (fun q => by have := q.few; omega)))) .nil) (.cons (.one .v (.v _)) .nil) (by decide) trivial
   ·
    have h3' := h3
    replace h3' : (zBG rs) = false := zBH h3'
    refine zAA rfl (.r rfl (zAC rfl rfl underlying28 rfl sizeOf2 (by decide)) (.r rfl (zAD rfl rfl rfl isAgg2 rfl) (.run [1500] [] rfl (zAK rfl 1500 (X := []) en29 rfl (.val nod) (.cons (.one (.bor .v)) (.cons (.one (.bor .v)) (.cons (.one (.bor .v)) .nil))) (by decide) all_nil .nil (zCf sq 0 1000000000000) rfl rfl (nle rfl)) (.r rfl (zAX (zA3 (b := zA1 sq 0 1000000000000) rfl rfl) (zAM h1)) (.m rfl rfl (.r rfl (zAC rfl rfl underlying28 rfl sizeOf24 (by decide)) (.r rfl (zAD rfl rfl rfl isAgg24 rfl) (.run [2000] [] rfl (zAK rfl 2000 (X := []) en30 rfl (.val nod) (.cons (.one (.bor (.sl nod))) .nil) (by decide) all_nil .nil (zCH mem (by omega)) rfl rfl (nle rfl)) (.r rfl (zAX (zA3 (b := zAp mem) rfl rfl) (zAM h2)) (.r rfl (zA5 rfl rfl) (.m rfl rfl (.r rfl (zAC rfl rfl underlying28 rfl sizeOf25 (by decide)) (.r rfl (zAD rfl rfl rfl isAgg25 rfl) (.run [2600] [] rfl (zAK rfl 2600 (X := []) en31 rfl (.val nod) (.cons (.one (.bor (.sl nod))) .nil) (by decide) all_nil .nil (zEh rs (by omega) hb) rfl rfl (nle rfl)) (.r rfl (zAX (zA3 (b := zBG rs) rfl rfl) (zAM h3)) (.r rfl (zA5 rfl rfl) (.m rfl rfl (.not rfl (.not rfl (.not rfl (.not rfl (.r rfl (zBZ rfl rfl) .nil)))))))))))))))))))))) ?_
    refine zAb (t := true) rfl (fun _ => ?_) (fun h => nomatch h)
    refine zAB ?_
    refine zAV (s' := mk [] [] []) ?_ ?_
    · exact zAI trivial trivial trivial rfl
    refine zAA rfl (.a rfl rfl .nil) ?_
    refine zAO ?_
    exact ends [_] [] (.cons (.tmp (zAM (zGK (zOK (by simpa using h3))))) .nil) (.cons (.one .v (.v _)) .nil) (by decide) trivial
  ·
   have h2' := h2
   replace h2' : (zAp mem) = false := zBH h2'
   refine zAA rfl (.r rfl (zAC rfl rfl underlying28 rfl sizeOf2 (by decide)) (.r rfl (zAD rfl rfl rfl isAgg2 rfl) (.run [1500] [] rfl (zAK rfl 1500 (X := []) en29 rfl (.val nod) (.cons (.one (.bor .v)) (.cons (.one (.bor .v)) (.cons (.one (.bor .v)) .nil))) (by decide) all_nil .nil (zCf sq 0 1000000000000) rfl rfl (nle rfl)) (.r rfl (zAX (zA3 (b := zA1 sq 0 1000000000000) rfl rfl) (zAM h1)) (.m rfl rfl (.r rfl (zAC rfl rfl underlying28 rfl sizeOf24 (by decide)) (.r rfl (zAD rfl rfl rfl isAgg24 rfl) (.run [2000] [] rfl (zAK rfl 2000 (X := []) en30 rfl (.val nod) (.cons (.one (.bor (.sl nod))) .nil) (by decide) all_nil .nil (zCH mem (by omega)) rfl rfl (nle rfl)) (.r rfl (zAX (zA3 (b := zAp mem) rfl rfl) (zAM h2)) (.r rfl (zA5 rfl rfl) (.m rfl rfl (.not rfl (.not rfl (.not rfl (.not rfl (.r rfl (zBZ rfl rfl) (.m rfl rfl (.not rfl (.not rfl (.not rfl (.not rfl (.r rfl (zBZ rfl rfl) .nil)))))))))))))))))))))) ?_
   refine zAb (t := true) rfl (fun _ => ?_) (fun h => nomatch h)
   refine zAB ?_
   refine zAV (s' := mk [] [] []) ?_ ?_
   · exact zAI trivial trivial trivial rfl
   refine zAA rfl (.a rfl rfl .nil) ?_
   refine zAO ?_
   exact ends [_] [] (.cons (.tmp (zAM (zGK (zOL (by simpa using h2))))) .nil) (.cons (.one .v (.v _)) .nil) (by decide) trivial
 ·
  have h1' := h1
  replace h1' : (zA1 sq 0 1000000000000) = false := zBH h1'
  refine zAA rfl (.r rfl (zAC rfl rfl underlying28 rfl sizeOf2 (by decide)) (.r rfl (zAD rfl rfl rfl isAgg2 rfl) (.run [1500] [] rfl (zAK rfl 1500 (X := []) en29 rfl (.val nod) (.cons (.one (.bor .v)) (.cons (.one (.bor .v)) (.cons (.one (.bor .v)) .nil))) (by decide) all_nil .nil (zCf sq 0 1000000000000) rfl rfl (nle rfl)) (.r rfl (zAX (zA3 (b := zA1 sq 0 1000000000000) rfl rfl) (zAM h1)) (.m rfl rfl (.not rfl (.not rfl (.not rfl (.not rfl (.r rfl (zBZ rfl rfl) (.m rfl rfl (.not rfl (.not rfl (.not rfl (.not rfl (.r rfl (zBZ rfl rfl) (.m rfl rfl (.not rfl (.not rfl (.not rfl (.not rfl (.r rfl (zBZ rfl rfl) .nil)))))))))))))))))))))) ?_
  refine zAb (t := true) rfl (fun _ => ?_) (fun h => nomatch h)
  refine zAB ?_
  refine zAV (s' := mk [] [] []) ?_ ?_
  · exact zAI trivial trivial trivial rfl
  refine zAA rfl (.a rfl rfl .nil) ?_
  refine zAO ?_
  exact ends [_] [] (.cons (.tmp (zAM (zGK (zOM (by simpa using h1))))) .nil) (.cons (.one .v (.v _)) .nil) (by decide) trivial
end Go.Rl
namespace Go.Rl
structure Eng where
 seq : Int
 mem : List Ent
 runs : List (List Ent)
 snaps : List Int
def Eng.nil : Eng := ⟨0, [], [], []⟩
def tagT (ls : List (List Ent)) : RunL := ls.map fun l => (true, l)
theorem zBv (ls : List (List Ent)) : (tagT ls).length = ls.length := by simp [tagT]
theorem zIJ (ls : List (List Ent)) : rows (tagT ls) = ls := by simp [rows, tagT, Function.comp_def]
theorem zCK (ls : List (List Ent)) : ents (tagT ls) = zBp ls := by rw [ents, zIJ]
theorem zKR (ls : List (List Ent)) : ownR (tagT ls) = tagT ls := by simp [ownR, tagT, Function.comp_def]
theorem zOe (l : List Ent) (ls : List (List Ent)) : [[PV.sl true 4 (pvE l)]] ++ pvR (tagT ls) = pvR (tagT (l :: ls)) := by simp [pvR, tagT]
noncomputable def okE (d : Eng) : Bool := zBN d.seq d.mem (tagT d.runs) d.snaps
structure EB (d : Eng) : Prop where
 mem : d.mem.length ≤ 2000000
 runs : d.runs.length ≤ 1000000
 each : ∀ l ∈ d.runs, l.length ≤ 2000000
 snaps : d.snaps.length ≤ 1000000
theorem EB.tag {d : Eng} (h : EB d) : (tagT d.runs).length ≤ 1000000 := by rw [zBv]; exact h.runs
theorem EB.b {d : Eng} (h : EB d) : ∀ r ∈ tagT d.runs, r.2.length ≤ 2000000 := fun r hr => by
 obtain ⟨l, hl, rfl⟩ := List.mem_map.1 hr
 exact h.each l hl
structure Small (d : Eng) : Prop where
 mem : d.mem.length ≤ 400
 runs : d.runs.length ≤ 20
 ents : (zBp d.runs).length ≤ 400
 snaps : d.snaps.length ≤ 20
 seq : 0 ≤ d.seq ∧ d.seq ≤ 1000000000000
theorem zCP {d : Eng} (h : zBN d.seq d.mem (tagT d.runs) d.snaps = true) : Small d := by
 have hb := (dbs_of h).1
 simp only [zBf, Bool.and_eq_true, zA1, decide_eq_true_eq] at hb
 obtain ⟨h1, h2, h3, h4⟩ := hb
 have r := zFD h3
 rw [zBv, zCK] at r
 exact ⟨zDg h2, r.1, r.2, zFB h4, h1⟩
theorem zNf {l : List Ent} {ls : List (List Ent)} (h : l ∈ ls) : l.length ≤ (zBp ls).length := by
 obtain ⟨i, hi⟩ := List.getElem?_of_mem h
 have := zEt (rs := tagT ls) (i := i) (r := (true, l)) (by simp [tagT, hi])
 rwa [zCK] at this
theorem Small.eb {d : Eng} (h : Small d) : EB d := ⟨by have := h.mem; omega, by have := h.runs; omega, fun l hl => by have := zNf hl; have := h.ents; omega, by have := h.snaps; omega⟩
theorem zG1 : EB Eng.nil := ⟨Nat.zero_le _, Nat.zero_le _, fun _ h => (by cases h), Nat.zero_le _⟩
noncomputable def zBj (d : Eng) : Eng × Int := if okE d = true then (if d.mem.length = 0 then (d, 4) else if 19 ≤ d.runs.length then (d, 3) else (⟨d.seq, [], d.mem :: d.runs, d.snaps⟩, 0)) else (Eng.nil, 1)
def zD1 (s : List Int) (n : Int) : Prop := s[s.length - 1]? = some n
instance (s : List Int) (n : Int) : Decidable (zD1 s n) := inferInstanceAs (Decidable (s[s.length - 1]? = some n))
noncomputable def zB9 (d : Eng) : Eng × Int × Int := if okE d = true then (if zD1 d.snaps d.seq then (d, d.seq, 0) else if 20 ≤ d.snaps.length then (d, 0, 3) else (⟨d.seq, d.mem, d.runs, d.snaps ++ [d.seq]⟩, d.seq, 0)) else (Eng.nil, 0, 1)
def zBC (s : List Int) (a : Int) : List Int := s.filter fun x => decide (x ≠ a)
noncomputable def zB8 (d : Eng) (a : Int) : Eng × Int := if okE d = true then (⟨d.seq, d.mem, d.runs, zBC d.snaps a⟩, if (zBC d.snaps a).length = d.snaps.length then 4 else 0) else (Eng.nil, 1)
def zCQ (l : List Ent) (s : List Int) : List Ent := zA0 l true (zBE l (zAP s) l.length) (zBE l (zAP s) l.length).length
noncomputable def zA8 (d : Eng) : Eng × Int := if okE d = true then (if d.runs.length = 0 then (d, 4) else (⟨d.seq, d.mem, if 0 < (zCQ (zAy d.runs) d.snaps).length then [zCQ (zAy d.runs) d.snaps] else [], d.snaps⟩, 0)) else (Eng.nil, 1)
noncomputable def zBc (d : Eng) (ops : List Bop) : Eng × Int := if okE d = true then (if zBX (d.seq + 1) ops = false then (d, 2) else if 400 < (zAy (d.mem :: d.runs)).length + ops.length then (d, 3) else (⟨d.seq + (ops.length : Int), zBl d.mem (zBg (d.seq + 1) ops), d.runs, d.snaps⟩, 0)) else (Eng.nil, 1)
variable {d : Eng}
theorem zJS (h : zBN d.seq d.mem (tagT d.runs) d.snaps = false) : ¬ okE d = true := fun q => by rw [okE, h] at q; cases q
theorem flush_w (h : zBN d.seq d.mem (tagT d.runs) d.snaps = false) : zBj d = (Eng.nil, 1) := if_neg (zJS h)
theorem flush_e (h : zBN d.seq d.mem (tagT d.runs) d.snaps = true) (h1 : d.mem.length = 0) : zBj d = (d, 4) := by rw [zBj, if_pos (show okE d = true from h), if_pos h1]
theorem flush_f (h : zBN d.seq d.mem (tagT d.runs) d.snaps = true) (h1 : ¬ d.mem.length = 0) (h2 : 19 ≤ d.runs.length) : zBj d = (d, 3) := by rw [zBj, if_pos (show okE d = true from h), if_neg h1, if_pos h2]
theorem flush_y (h : zBN d.seq d.mem (tagT d.runs) d.snaps = true) (h1 : ¬ d.mem.length = 0) (h2 : ¬ 19 ≤ d.runs.length) : zBj d = (⟨d.seq, [], d.mem :: d.runs, d.snaps⟩, 0) := by rw [zBj, if_pos (show okE d = true from h), if_neg h1, if_neg h2]
theorem snap_w (h : zBN d.seq d.mem (tagT d.runs) d.snaps = false) : zB9 d = (Eng.nil, 0, 1) := if_neg (zJS h)
theorem snap_l (h : zBN d.seq d.mem (tagT d.runs) d.snaps = true) (h1 : zD1 d.snaps d.seq) : zB9 d = (d, d.seq, 0) := by rw [zB9, if_pos (show okE d = true from h), if_pos h1]
theorem zPp (h : zBN d.seq d.mem (tagT d.runs) d.snaps = true) (h1 : ¬ zD1 d.snaps d.seq) (h2 : 20 ≤ d.snaps.length) : zB9 d = (d, 0, 3) := by rw [zB9, if_pos (show okE d = true from h), if_neg h1, if_pos h2]
theorem zPo (h : zBN d.seq d.mem (tagT d.runs) d.snaps = true) (h1 : ¬ zD1 d.snaps d.seq) (h2 : ¬ 20 ≤ d.snaps.length) : zB9 d = (⟨d.seq, d.mem, d.runs, d.snaps ++ [d.seq]⟩, d.seq, 0) := by rw [zB9, if_pos (show okE d = true from h), if_neg h1, if_neg h2]
theorem last_no {s : List Int} {n : Int} (h : s.length = 0) : ¬ zD1 s n := fun q => by
 have := List.eq_nil_of_length_eq_zero h
 subst this
 cases q
theorem last_ne {s : List Int} {n x : Int} (hx : s[s.length - 1]? = some x) (h : x ≠ n) : ¬ zD1 s n := fun q => by rw [zD1, hx] at q; cases q; exact h rfl
theorem free_w {a : Int} (h : zBN d.seq d.mem (tagT d.runs) d.snaps = false) : zB8 d a = (Eng.nil, 1) := if_neg (zJS h)
theorem free_y {a : Int} (h : zBN d.seq d.mem (tagT d.runs) d.snaps = true) : zB8 d a = (⟨d.seq, d.mem, d.runs, zBC d.snaps a⟩, if (zBC d.snaps a).length = d.snaps.length then 4 else 0) := if_pos h
theorem zJ3 {s : List Int} {a x : Int} {i : Nat} (hx : s[i]? = some x) (h : ¬ x = a) : zBC (s.take (i + 1)) a = zBC (s.take i) a ++ [x] := by
 unfold zBC
 rw [List.take_add_one, hx, List.filter_append]
 simp [h]
theorem zHM {s : List Int} {a x : Int} {i : Nat} (hx : s[i]? = some x) (h : x = a) : zBC (s.take (i + 1)) a = zBC (s.take i) a := by
 unfold zBC
 rw [List.take_add_one, hx, List.filter_append]
 simp [h]
theorem zJ4 (s : List Int) (a : Int) (i : Nat) : (zBC (s.take i) a).length ≤ i := Nat.le_trans (List.length_filter_le _ _) (by rw [List.length_take]; omega)
theorem zPy (h : zBN d.seq d.mem (tagT d.runs) d.snaps = false) : zA8 d = (Eng.nil, 1) := if_neg (zJS h)
theorem zPz (h : zBN d.seq d.mem (tagT d.runs) d.snaps = true) (h1 : d.runs.length = 0) : zA8 d = (d, 4) := by rw [zA8, if_pos (show okE d = true from h), if_pos h1]
theorem zPx (h : zBN d.seq d.mem (tagT d.runs) d.snaps = true) (h1 : ¬ d.runs.length = 0) : zA8 d = (⟨d.seq, d.mem, if 0 < (zCQ (zAy d.runs) d.snaps).length then [zCQ (zAy d.runs) d.snaps] else [], d.snaps⟩, 0) := by rw [zA8, if_pos (show okE d = true from h), if_neg h1]
theorem write_w {ops : List Bop} (h : zBN d.seq d.mem (tagT d.runs) d.snaps = false) : zBc d ops = (Eng.nil, 1) := if_neg (zJS h)
theorem write_b {ops : List Bop} (h : zBN d.seq d.mem (tagT d.runs) d.snaps = true) (h1 : zBX (d.seq + 1) ops = false) : zBc d ops = (d, 2) := by rw [zBc, if_pos (show okE d = true from h), if_pos h1]
theorem write_f {ops : List Bop} (h : zBN d.seq d.mem (tagT d.runs) d.snaps = true) (h1 : zBX (d.seq + 1) ops = true) (h2 : 400 < (zAy (d.mem :: d.runs)).length + ops.length) : zBc d ops = (d, 3) := by rw [zBc, if_pos (show okE d = true from h), if_neg (by rw [h1]; decide), if_pos h2]
theorem write_y {ops : List Bop} (h : zBN d.seq d.mem (tagT d.runs) d.snaps = true) (h1 : zBX (d.seq + 1) ops = true) (h2 : ¬ 400 < (zAy (d.mem :: d.runs)).length + ops.length) : zBc d ops = (⟨d.seq + (ops.length : Int), zBl d.mem (zBg (d.seq + 1) ops), d.runs, d.snaps⟩, 0) := by rw [zBc, if_pos (show okE d = true from h), if_neg (by rw [h1]; decide), if_neg h2]
theorem zOO (mem : List Ent) (ls : List (List Ent)) : allS mem (tagT ls) = zAy (mem :: ls) := by rw [allS, zIJ]
end Go.Rl

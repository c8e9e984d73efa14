/- Promises of functions, proved by walks over their operations; no conditions beyond those that each theorem states. -/
import Derived.Test.YtfdebanfenlglaaRows
import Derived.Test.YtfdebanfenlglaaReP
import Derived.Test.YtfdebanfenlglaaRlT
set_option linter.unusedSimpArgs false
set_option linter.unusedVariables false
namespace Go.Proofs.Ytfdebanfenlglaa.fnExactCompacted
open Go.ChangeShapes Go.WideShapes Go.ChangeAt Go.RowKit Go.Rl
open Go.ChangeMaps (open_string shut_string)
theorem own : ownKnob Try.prog.godebug = none := by kernel_rfl
theorem laidOut : laidOutB Try.prog = true := by kernel_rfl
set_option maxRecDepth 100000 in
theorem lifted (os : Os) (started : os.Started) (H : Type) (enc : TypeId × Value → H) :
    ReturnsInHanded {} Try.checked os 5 .any (Rows.fnExactCompactedSpec.pre6 enc Try.prog Try.f5 Rows.fnExactCompactedRow.domain false) (Rows.fnExactCompactedSpec.post enc Try.prog Try.f5 false true false false) := by
  refine returnsInHanded_of_change_sized (C := Try.checked) own started (by kernel_rfl) Try.func5
    (ChangeSpec.witness6 (enc := enc) (C := Try.checked) false ⟨#[], #[.slice none 0 0, .slice none 0 0, .bool false], []⟩ 8 (by kernel_rfl) (by kernel_rfl) (by kernel_rfl) (by kernel_rfl)) ?_
  intro W base args ds gs before hval0 hW hcnd hsz0 _
  have hsz : (DataW.weightsEach Try.prog (Try.f5.params.toList ++ Rows.fnExactCompactedSpec.plain.varTypes Try.prog) (ds ++ gs)).all (· ≤ reachBytes) = true := hsz0
  have hval : ∀ (j : Nat) t v, Try.f5.params[j]? = some t → args[j]? = some v → Value.okWide Try.prog W .any base t v := hval0
  have hW' := hW
  obtain ⟨p, q, hA0, hV, rfl, hfz, hnd⟩ := hW
  have hA : DataW.TrodAll enc Try.prog W 0 (fun _ => true) true Try.f5.params.toList args.toList ds p := hA0
  rw [Try.params5] at hA hval hsz
  obtain ⟨v0, vs0, d0, ds0, p0, q0, hargs, rfl, rfl, h0, r0⟩ := trodAll_cons hA
  obtain ⟨v1, vs1, d1, ds1, p1, q1, rfl, rfl, rfl, h1, r1⟩ := trodAll_cons r0
  obtain ⟨v2, vs2, d2, ds2, p2, q2, rfl, rfl, rfl, h2, r2⟩ := trodAll_cons r1
  obtain ⟨rfl, rfl, rfl⟩ := trodAll_nil r2
  obtain rfl : args = #[v0, v1, v2] := by cases args; simp_all
  obtain ⟨rfl, rfl⟩ := trodVars_none hV
  have k0 := h0
  have lt0 : ∀ x ∈ p0, x.block < W.heap.size := by obtain ⟨m, hm⟩ := k0; exact DataW.trod_lt m _ _ _ hm
  have wt0 := wt_each hsz (j := 0) (t := 22) rfl rfl
  obtain ⟨A0, n0, c0, rfl⟩ := Rl.okWide_sl Try.underlying22 (hval 0 22 v0 rfl rfl)
  obtain ⟨fuel0, hf0⟩ := h0
  obtain ⟨ps0, fit0, len0, pv0⟩ := opens 9 22 [.sl [.str, .int .i64, .int .i64, .str]] (by kernel_rfl) fuel0 _ _ hf0 wt0
  obtain ⟨l, rfl, hlm, hnm⟩ := open_ents fit0
  have k1 := h1
  have lt1 : ∀ x ∈ p1, x.block < W.heap.size := by obtain ⟨m, hm⟩ := k1; exact DataW.trod_lt m _ _ _ hm
  have wt1 := wt_each hsz (j := 1) (t := 23) rfl rfl
  obtain ⟨A1, n1, c1, rfl⟩ := Rl.okWide_sl Try.underlying23 (hval 1 23 v1 rfl rfl)
  obtain ⟨fuel1, hf1⟩ := h1
  obtain ⟨ps1, fit1, len1, pv1⟩ := opens 9 23 [.sl [.int .i64]] (by kernel_rfl) fuel1 _ _ hf1 wt1
  obtain ⟨s, rfl⟩ := open_nums fit1
  have k2 := h2
  have lt2 : ∀ x ∈ p2, x.block < W.heap.size := by obtain ⟨m, hm⟩ := k2; exact DataW.trod_lt m _ _ _ hm
  have wt2 := wt_each hsz (j := 2) (t := 4) rfl rfl
  obtain ⟨a2, rfl, _⟩ := open_bool Try.underlying4 (hval 2 4 v2 rfl rfl) h2
  obtain ⟨fuel2, hf2⟩ := h2
  obtain ⟨ps2, fit2, len2, pv2⟩ := opens 9 4 [.bool] (by kernel_rfl) fuel2 _ _ hf2 wt2
  obtain ⟨b, rfl⟩ := open_boo fit2
  clear hA0 hval0 hsz0 hsz
  refine (law_run (law_compacted_con l s b (Nat.le_trans hlm maxLen_le2) (fun e he => ⟨Nat.le_trans (hnm e he).1 reach_le2, Nat.le_trans (hnm e he).2 reach_le2⟩)) (.cons (E := []) (E' := []) (pas_one fit0 pv0) (.cons (E := []) (E' := []) (pas_one fit1 pv1) (.cons (E := []) (E' := []) (pas_one fit2 pv2) .nil)))).mono fun e W' ⟨he, bel⟩ => ?_
  subst he
  exact ⟨_, rfl, _, _, _, [], _, [], hW', trodAll_mk1 (shut_bool Try.underlying4 _), (trodAll_cons_mk (Below.trod laidOut (by kernel_rfl) (of_decide_eq_true (by kernel_rfl)) k0 bel lt0) (trodAll_cons_mk (Below.trod laidOut (by kernel_rfl) (of_decide_eq_true (by kernel_rfl)) k1 bel lt1) (trodAll_cons_mk (Below.trod laidOut (by kernel_rfl) (of_decide_eq_true (by kernel_rfl)) k2 bel lt2) trodAll_mk0))), rfl, bel.frame _, fun h => by cases h⟩
theorem over : Rows.fnExactCompactedRow.holds Try.pinned (OpenSpec.ofChange Rows.fnExactCompactedSpec) :=
  OpenClaim.holds_of_wide 5 Try.f5 rfl rfl rfl rfl rfl rfl rfl ⟨rfl, rfl, rfl, rfl, rfl⟩ rfl rfl rfl rfl rfl (by kernel_rfl) Try.func5 (by kernel_rfl)
    (of_decide_eq_true (by kernel_rfl)) (by unfold Func.isWrapper; first | (rw [if_pos (by decide +kernel)]; kernel_rfl) | (rw [if_neg (by decide +kernel)]; exact ⟨rfl, rfl⟩))
    (fun os started H enc _ => lifted os started H enc)
theorem proved : Rows.FnExactCompactedSaid := over
end Go.Proofs.Ytfdebanfenlglaa.fnExactCompacted
namespace Go.Proofs.Ytfdebanfenlglaa
theorem fnExactCompacted_holds : Rows.FnExactCompactedSaid := fnExactCompacted.proved
#print axioms fnExactCompacted_holds
end Go.Proofs.Ytfdebanfenlglaa

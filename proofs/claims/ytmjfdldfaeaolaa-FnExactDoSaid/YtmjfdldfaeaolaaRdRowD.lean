/- Do of the program returns what the reference returns, for all arguments. -/
import Derived.Test.YtmjfdldfaeaolaaRows
import Derived.Test.YtmjfdldfaeaolaaRdJ
import Derived.Test.YtmjfdldfaeaolaaRlW
namespace Go.Proofs.Ytmjfdldfaeaolaa.fnExactDo
open Go.ChangeShapes Go.WideShapes Go.ChangeAt Go.RowKit Go.Rl
open Go.ChangeMaps (open_string shut_string)
theorem own : ownKnob Try.prog.godebug = none := by kernel_rfl
theorem laidOut : laidOutB Try.prog = true := by kernel_rfl
set_option maxRecDepth 100000 in
theorem lifted (os : Os) (started : os.Started) (H : Type) (enc : TypeId × Value → H) :
    ReturnsInHanded {} Try.checked os 7 .any (Rows.fnExactDoSpec.pre6 enc Try.prog Try.f7 Rows.fnExactDoRow.domain false) (Rows.fnExactDoSpec.post enc Try.prog Try.f7 false true false false) := by
  refine returnsInHanded_of_change_sized (C := Try.checked) own started (by kernel_rfl) Try.func7
    (ChangeSpec.witness6 (enc := enc) (C := Try.checked) false ⟨#[], #[.agg #[.slice none 0 0, .slice none 0 0, .slice none 0 0], .agg #[.int .i64 0, .string ByteArray.empty, .string ByteArray.empty, .string ByteArray.empty]], []⟩ 8 (by kernel_rfl) (by kernel_rfl) (by kernel_rfl) (by kernel_rfl)) ?_
  intro W base args ds gs before hval0 hW hcnd hsz0 _
  have hsz : (DataW.weightsEach Try.prog (Try.f7.params.toList ++ Rows.fnExactDoSpec.plain.varTypes Try.prog) (ds ++ gs)).all (· ≤ reachBytes) = true := hsz0
  have hval : ∀ (j : Nat) t v, Try.f7.params[j]? = some t → args[j]? = some v → Value.okWide Try.prog W .any base t v := hval0
  have hW' := hW
  obtain ⟨p, q, hA0, hV, rfl, hfz, hnd⟩ := hW
  have hA : DataW.TrodAll enc Try.prog W 0 (fun _ => true) true Try.f7.params.toList args.toList ds p := hA0
  rw [Try.params7] at hA hval hsz
  obtain ⟨v0, vs0, d0, ds0, p0, q0, hargs, rfl, rfl, h0, r0⟩ := trodAll_cons hA
  obtain ⟨v1, vs1, d1, ds1, p1, q1, rfl, rfl, rfl, h1, r1⟩ := trodAll_cons r0
  obtain ⟨rfl, rfl, rfl⟩ := trodAll_nil r1
  obtain rfl : args = #[v0, v1] := by cases args; simp_all
  obtain ⟨rfl, rfl⟩ := trodVars_none hV
  have k0 := h0
  have lt0 : ∀ x ∈ p0, x.block < W.heap.size := by obtain ⟨m, hm⟩ := k0; exact DataW.trod_lt m _ _ _ hm
  have wt0 := wt_each hsz (j := 0) (t := 50) rfl rfl
  obtain ⟨cs0, rfl, _⟩ := WideShapes.okWide_struct Try.underlying50 (hval 0 50 v0 rfl rfl)
  obtain ⟨fuel0, hf0⟩ := h0
  obtain ⟨ps0, fit0, len0, pv0⟩ := opens 9 50 [.sl [.str, .str], .sl [.str, .str], .sl [.int .i64, .str, .str, .str]] (by kernel_rfl) fuel0 _ _ hf0 wt0
  obtain ⟨d, rfl, q1, q2, q3, q4, q5, q6⟩ := open_disk fit0
  have k1 := h1
  have lt1 : ∀ x ∈ p1, x.block < W.heap.size := by obtain ⟨m, hm⟩ := k1; exact DataW.trod_lt m _ _ _ hm
  have wt1 := wt_each hsz (j := 1) (t := 56) rfl rfl
  obtain ⟨cs1, rfl, _⟩ := WideShapes.okWide_struct Try.underlying56 (hval 1 56 v1 rfl rfl)
  obtain ⟨fuel1, hf1⟩ := h1
  obtain ⟨ps1, fit1, len1, pv1⟩ := opens 9 56 [.int .i64, .str, .str, .str] (by kernel_rfl) fuel1 _ _ hf1 wt1
  obtain ⟨op, rfl, qo⟩ := open_dop fit1
  clear hA0 hval0 hsz0 hsz
  refine (law_run (law_do_con d op q1 q2 q3 q4 q5 q6 ⟨reach_le9 qo.1, reach_le9 qo.2.1, reach_le9 qo.2.2⟩) (.cons (E := []) (E' := []) (pas_agg fit0 len0 pv0) (.cons (E := []) (E' := []) (pas_agg fit1 len1 pv1) .nil))).mono fun e W' ⟨he, bel⟩ => ?_
  subst he
  exact ⟨_, rfl, _, _, _, [], _, [], hW', trodAll_mk1 (shut_bool Try.underlying4 _), (trodAll_cons_mk (Below.trod laidOut (by kernel_rfl) (of_decide_eq_true (by kernel_rfl)) k0 bel lt0) (trodAll_cons_mk (Below.trod laidOut (by kernel_rfl) (of_decide_eq_true (by kernel_rfl)) k1 bel lt1) trodAll_mk0)), rfl, bel.frame _, fun h => by cases h⟩
theorem over : Rows.fnExactDoRow.holds Try.pinned (OpenSpec.ofChange Rows.fnExactDoSpec) :=
  OpenClaim.holds_of_wide 7 Try.f7 rfl rfl rfl rfl rfl rfl rfl ⟨rfl, rfl, rfl, rfl, rfl⟩ rfl rfl rfl rfl rfl (by kernel_rfl) Try.func7 (by kernel_rfl)
    (of_decide_eq_true (by kernel_rfl)) (by unfold Func.isWrapper; first | (rw [if_pos (by decide +kernel)]; kernel_rfl) | (rw [if_neg (by decide +kernel)]; exact ⟨rfl, rfl⟩))
    (fun os started H enc _ => lifted os started H enc)
theorem proved : Rows.FnExactDoSaid := over
end Go.Proofs.Ytmjfdldfaeaolaa.fnExactDo
namespace Go.Proofs.Ytmjfdldfaeaolaa
theorem fnExactDo_holds : Rows.FnExactDoSaid := fnExactDo.proved
#print axioms fnExactDo_holds
end Go.Proofs.Ytmjfdldfaeaolaa

/- Replace of the program returns what the reference returns, for all arguments. -/
import Derived.Test.YtmjfdldfaeaolaaRows
import Derived.Test.YtmjfdldfaeaolaaRdJ
import Derived.Test.YtmjfdldfaeaolaaRlW
namespace Go.Proofs.Ytmjfdldfaeaolaa.fnExactReplace
open Go.ChangeShapes Go.WideShapes Go.ChangeAt Go.RowKit Go.Rl
open Go.ChangeMaps (open_string shut_string)
theorem own : ownKnob Try.prog.godebug = none := by kernel_rfl
theorem laidOut : laidOutB Try.prog = true := by kernel_rfl
set_option maxRecDepth 100000 in
theorem lifted (os : Os) (started : os.Started) (H : Type) (enc : TypeId × Value → H) :
    ReturnsInHanded {} Try.checked os 8 .any (Rows.fnExactReplaceSpec.pre6 enc Try.prog Try.f8 Rows.fnExactReplaceRow.domain false) (Rows.fnExactReplaceSpec.post enc Try.prog Try.f8 false true false false) := by
  refine returnsInHanded_of_change_sized (C := Try.checked) own started (by kernel_rfl) Try.func8
    (ChangeSpec.witness6 (enc := enc) (C := Try.checked) false ⟨#[], #[.agg #[.slice none 0 0, .slice none 0 0, .slice none 0 0], .string ByteArray.empty, .string ByteArray.empty], []⟩ 8 (by kernel_rfl) (by kernel_rfl) (by kernel_rfl) (by kernel_rfl)) ?_
  intro W base args ds gs before hval0 hW hcnd hsz0 _
  have hsz : (DataW.weightsEach Try.prog (Try.f8.params.toList ++ Rows.fnExactReplaceSpec.plain.varTypes Try.prog) (ds ++ gs)).all (· ≤ reachBytes) = true := hsz0
  have hval : ∀ (j : Nat) t v, Try.f8.params[j]? = some t → args[j]? = some v → Value.okWide Try.prog W .any base t v := hval0
  have hW' := hW
  obtain ⟨p, q, hA0, hV, rfl, hfz, hnd⟩ := hW
  have hA : DataW.TrodAll enc Try.prog W 0 (fun _ => true) true Try.f8.params.toList args.toList ds p := hA0
  rw [Try.params8] at hA hval hsz
  obtain ⟨v0, vs0, d0, ds0, p0, q0, hargs, rfl, rfl, h0, r0⟩ := trodAll_cons hA
  obtain ⟨v1, vs1, d1, ds1, p1, q1, rfl, rfl, rfl, h1, r1⟩ := trodAll_cons r0
  obtain ⟨v2, vs2, d2, ds2, p2, q2, rfl, rfl, rfl, h2, r2⟩ := trodAll_cons r1
  obtain ⟨rfl, rfl, rfl⟩ := trodAll_nil r2
  obtain rfl : args = #[v0, v1, v2] := by cases args; simp_all
  obtain ⟨rfl, rfl⟩ := trodVars_none hV
  have k0 := h0
  have lt0 : ∀ x ∈ p0, x.block < W.heap.size := by obtain ⟨m, hm⟩ := k0; exact DataW.trod_lt m _ _ _ hm
  have wt0 := wt_each hsz (j := 0) (t := 50) rfl rfl
  obtain ⟨cs0, rfl, _⟩ := WideShapes.okWide_struct Try.underlying50 (hval 0 50 v0 rfl rfl)
  obtain ⟨fuel0, hf0⟩ := h0
  obtain ⟨ps0, fit0, len0, pv0⟩ := opens 9 50 [.sl [.str, .str], .sl [.str, .str], .sl [.int .i64, .str, .str, .str]] (by kernel_rfl) fuel0 _ _ hf0 wt0
  obtain ⟨d, rfl, q1, q2, q3, q4, q5, q6⟩ := open_disk fit0
  have k1 := h1
  have lt1 : ∀ x ∈ p1, x.block < W.heap.size := by obtain ⟨m, hm⟩ := k1; exact DataW.trod_lt m _ _ _ hm
  have wt1 := wt_each hsz (j := 1) (t := 9) rfl rfl
  obtain ⟨a1, rfl, _⟩ := open_string Try.underlying9 (hval 1 9 v1 rfl rfl) h1
  obtain ⟨fuel1, hf1⟩ := h1
  obtain ⟨ps1, fit1, len1, pv1⟩ := opens 9 9 [.str] (by kernel_rfl) fuel1 _ _ hf1 wt1
  obtain ⟨x1, e1, rfl, f1, z1⟩ := fits_cons fit1
  obtain rfl := fits_nil z1
  obtain ⟨name, rfl, hsz1⟩ := fit_str f1
  have k2 := h2
  have lt2 : ∀ x ∈ p2, x.block < W.heap.size := by obtain ⟨m, hm⟩ := k2; exact DataW.trod_lt m _ _ _ hm
  have wt2 := wt_each hsz (j := 2) (t := 9) rfl rfl
  obtain ⟨a2, rfl, _⟩ := open_string Try.underlying9 (hval 2 9 v2 rfl rfl) h2
  obtain ⟨fuel2, hf2⟩ := h2
  obtain ⟨ps2, fit2, len2, pv2⟩ := opens 9 9 [.str] (by kernel_rfl) fuel2 _ _ hf2 wt2
  obtain ⟨x2, e2, rfl, f2, z2⟩ := fits_cons fit2
  obtain rfl := fits_nil z2
  obtain ⟨data, rfl, hsz2⟩ := fit_str f2
  clear hA0 hval0 hsz0 hsz
  refine (law_run (law_replace_con d name data q1 q2 q3 q4 q5 q6) (.cons (E := []) (E' := []) (pas_agg fit0 len0 pv0) (.cons (E := []) (E' := []) (pas_one fit1 pv1) (.cons (E := []) (E' := []) (pas_one fit2 pv2) .nil)))).mono fun e W' ⟨he, bel⟩ => ?_
  subst he
  exact ⟨_, rfl, _, _, _, [], _, [], hW', trodAll_mk1 (shut_bool Try.underlying4 _), (trodAll_cons_mk (Below.trod laidOut (by kernel_rfl) (of_decide_eq_true (by kernel_rfl)) k0 bel lt0) (trodAll_cons_mk (Below.trod laidOut (by kernel_rfl) (of_decide_eq_true (by kernel_rfl)) k1 bel lt1) (trodAll_cons_mk (Below.trod laidOut (by kernel_rfl) (of_decide_eq_true (by kernel_rfl)) k2 bel lt2) trodAll_mk0))), rfl, bel.frame _, fun h => by cases h⟩
theorem over : Rows.fnExactReplaceRow.holds Try.pinned (OpenSpec.ofChange Rows.fnExactReplaceSpec) :=
  OpenClaim.holds_of_wide 8 Try.f8 rfl rfl rfl rfl rfl rfl rfl ⟨rfl, rfl, rfl, rfl, rfl⟩ rfl rfl rfl rfl rfl (by kernel_rfl) Try.func8 (by kernel_rfl)
    (of_decide_eq_true (by kernel_rfl)) (by unfold Func.isWrapper; first | (rw [if_pos (by decide +kernel)]; kernel_rfl) | (rw [if_neg (by decide +kernel)]; exact ⟨rfl, rfl⟩))
    (fun os started H enc _ => lifted os started H enc)
theorem proved : Rows.FnExactReplaceSaid := over
end Go.Proofs.Ytmjfdldfaeaolaa.fnExactReplace
namespace Go.Proofs.Ytmjfdldfaeaolaa
theorem fnExactReplace_holds : Rows.FnExactReplaceSaid := fnExactReplace.proved
#print axioms fnExactReplace_holds
end Go.Proofs.Ytmjfdldfaeaolaa

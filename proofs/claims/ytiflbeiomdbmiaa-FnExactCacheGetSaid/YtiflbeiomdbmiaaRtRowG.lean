/- CacheGet of the program returns what the reference returns, for all arguments. -/
import Derived.Test.YtiflbeiomdbmiaaRows
import Derived.Test.YtiflbeiomdbmiaaRtG
import Derived.Test.YtiflbeiomdbmiaaRlW
namespace Go.Proofs.Ytiflbeiomdbmiaa.fnExactCacheGet
open Go.ChangeShapes Go.WideShapes Go.ChangeAt Go.RowKit Go.Rl
open Go.ChangeMaps (open_string shut_string)
theorem own : ownKnob Try.prog.godebug = none := by kernel_rfl
theorem laidOut : laidOutB Try.prog = true := by kernel_rfl
set_option maxRecDepth 100000 in
theorem lifted (os : Os) (started : os.Started) (H : Type) (enc : TypeId × Value → H) :
    ReturnsInHanded {} Try.checked os 5 .any (Rows.fnExactCacheGetSpec.pre6 enc Try.prog Try.f5 Rows.fnExactCacheGetRow.domain false) (Rows.fnExactCacheGetSpec.post enc Try.prog Try.f5 false true false false) := by
  refine returnsInHanded_of_change_sized (C := Try.checked) own started (by kernel_rfl) Try.func5
    (ChangeSpec.witness6 (enc := enc) (C := Try.checked) false ⟨#[], #[.agg #[.int .i64 0, .slice none 0 0], .string ByteArray.empty], []⟩ 8 (by kernel_rfl) (by kernel_rfl) (by kernel_rfl) (by kernel_rfl)) ?_
  intro W base args ds gs before hval0 hW hcnd hsz0 _
  have hsz : (DataW.weightsEach Try.prog (Try.f5.params.toList ++ Rows.fnExactCacheGetSpec.plain.varTypes Try.prog) (ds ++ gs)).all (· ≤ reachBytes) = true := hsz0
  have hval : ∀ (j : Nat) t v, Try.f5.params[j]? = some t → args[j]? = some v → Value.okWide Try.prog W .any base t v := hval0
  have hW' := hW
  obtain ⟨p, q, hA0, hV, rfl, hfz, hnd⟩ := hW
  have hA : DataW.TrodAll enc Try.prog W 0 (fun _ => true) true Try.f5.params.toList args.toList ds p := hA0
  rw [Try.params5] at hA hval hsz
  obtain ⟨v0, vs0, d0, ds0, p0, q0, hargs, rfl, rfl, h0, r0⟩ := trodAll_cons hA
  obtain ⟨v1, vs1, d1, ds1, p1, q1, rfl, rfl, rfl, h1, r1⟩ := trodAll_cons r0
  obtain ⟨rfl, rfl, rfl⟩ := trodAll_nil r1
  obtain rfl : args = #[v0, v1] := by cases args; simp_all
  obtain ⟨rfl, rfl⟩ := trodVars_none hV
  have k0 := h0
  have lt0 : ∀ x ∈ p0, x.block < W.heap.size := by obtain ⟨m, hm⟩ := k0; exact DataW.trod_lt m _ _ _ hm
  have wt0 := wt_each hsz (j := 0) (t := 38) rfl rfl
  obtain ⟨cs0, rfl, _⟩ := WideShapes.okWide_struct Try.underlying38 (hval 0 38 v0 rfl rfl)
  obtain ⟨fuel0, hf0⟩ := h0
  obtain ⟨ps0, fit0, len0, pv0⟩ := opens 9 38 [.int .i64, .sl [.str, .int .i64, .int .i64]] (by kernel_rfl) fuel0 _ _ hf0 wt0
  obtain ⟨m, l, rfl, hlm, hnm⟩ := open_cache fit0
  have k1 := h1
  have lt1 : ∀ x ∈ p1, x.block < W.heap.size := by obtain ⟨m, hm⟩ := k1; exact DataW.trod_lt m _ _ _ hm
  have wt1 := wt_each hsz (j := 1) (t := 9) rfl rfl
  obtain ⟨a1, rfl, _⟩ := open_string Try.underlying9 (hval 1 9 v1 rfl rfl) h1
  obtain ⟨fuel1, hf1⟩ := h1
  obtain ⟨ps1, fit1, len1, pv1⟩ := opens 9 9 [.str] (by kernel_rfl) fuel1 _ _ hf1 wt1
  obtain ⟨x1, e1, rfl, f1, z1⟩ := fits_cons fit1
  obtain rfl := fits_nil z1
  obtain ⟨name, rfl, hsz1⟩ := fit_str f1
  clear hA0 hval0 hsz0 hsz
  refine (law_run (law_get_con m l name (Nat.le_trans hlm maxLen_le) (fun s hs => Nat.le_trans (hnm s hs) reach_le)) (.cons (E := []) (E' := []) (pas_agg fit0 len0 pv0) (.cons (E := []) (E' := []) (pas_one fit1 pv1) .nil))).mono fun e W' ⟨he, bel⟩ => ?_
  subst he
  exact ⟨_, rfl, _, _, _, [], _, [], hW', trodAll_mk1 (shut_bool Try.underlying4 _), (trodAll_cons_mk (Below.trod laidOut (by kernel_rfl) (of_decide_eq_true (by kernel_rfl)) k0 bel lt0) (trodAll_cons_mk (Below.trod laidOut (by kernel_rfl) (of_decide_eq_true (by kernel_rfl)) k1 bel lt1) trodAll_mk0)), rfl, bel.frame _, fun h => by cases h⟩
theorem over : Rows.fnExactCacheGetRow.holds Try.pinned (OpenSpec.ofChange Rows.fnExactCacheGetSpec) :=
  OpenClaim.holds_of_wide 5 Try.f5 rfl rfl rfl rfl rfl rfl rfl ⟨rfl, rfl, rfl, rfl, rfl⟩ rfl rfl rfl rfl rfl (by kernel_rfl) Try.func5 (by kernel_rfl)
    (of_decide_eq_true (by kernel_rfl)) (by unfold Func.isWrapper; first | (rw [if_pos (by decide +kernel)]; kernel_rfl) | (rw [if_neg (by decide +kernel)]; exact ⟨rfl, rfl⟩))
    (fun os started H enc _ => lifted os started H enc)
theorem proved : Rows.FnExactCacheGetSaid := over
end Go.Proofs.Ytiflbeiomdbmiaa.fnExactCacheGet
namespace Go.Proofs.Ytiflbeiomdbmiaa
theorem fnExactCacheGet_holds : Rows.FnExactCacheGetSaid := fnExactCacheGet.proved
#print axioms fnExactCacheGet_holds
end Go.Proofs.Ytiflbeiomdbmiaa

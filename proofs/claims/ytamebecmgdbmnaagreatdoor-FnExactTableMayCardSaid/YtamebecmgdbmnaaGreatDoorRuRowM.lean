/- Promises of functions, proved by walks over their operations; no conditions beyond those that each theorem states. -/
import Derived.Test.YtamebecmgdbmnaaGreatDoorRows
import Derived.Test.YtamebecmgdbmnaaGreatDoorCards
import Derived.Test.YtamebecmgdbmnaaGreatDoorTie
import Derived.Test.YtamebecmgdbmnaaGreatDoorRtTs
import Derived.Test.YtamebecmgdbmnaaGreatDoorRlT
import Derived.LaidMore
import Derived.Stop.Joined
import Derived.Stop.LaidErr
import Derived.OpenShut
import Derived.ShutString
import Derived.ChangeOld
import Derived.ChangeMaps5
import Derived.SevenTiedAt
set_option linter.unusedSimpArgs false
set_option linter.unusedVariables false
namespace Go.Proofs.YtamebecmgdbmnaaGreatDoor.fnExactTableMay
open Go.ChangeShapes Go.WideShapes Go.ChangeAt Go.RowKit Go.Rl
open Go.ChangeMaps (open_string shut_string)
theorem own : ownKnob Tryz.prog.godebug = none := by kernel_rfl
theorem laidOut : laidOutB Tryz.prog = true := by kernel_rfl
abbrev laidL : List (String × DataW Unit) := Rows.fnExactTableMayRow.laid
theorem door_met (os : Os) (args : Array Value) : laidMetH Tryz.prog laidL ((World.doorLaid Tryz.prog 24 os).forCall (fun _ _ => 0) ⟨#[], args, []⟩).memory :=
  laidMetH_of_parts3 (fuel := 8) (laidMet_of_run' 8 (by kernel_rfl) (by kernel_rfl)) (by kernel_rfl) (by kernel_rfl)
theorem tabG_of {W : World} (h : laidMetH Tryz.prog laidL W) : ∃ γ, TabG γ ∧ Gh γ W [] := by
  rw [MakeChecks.laidMetH_plain _ _ _ (by kernel_rfl)] at h
  have h2 := show laidMet Tryz.prog ((_, Lib.tabData .u8 tz64I) :: []) W from h
  have h3 := Lib.tabIs_of_head (g := 0) (t := 142) (e := 5) (n := 64) (by kernel_rfl) (by kernel_rfl) Tryz.underlying142 Tryz.underlying5 (by kernel_rfl) (by kernel_rfl) h2
  obtain ⟨o, ho, hw⟩ := zL4 (g := 0) (by kernel_rfl) h3
  exact ⟨some (0, o), ⟨o, rfl, fun w e => tz_at (fun j hj => by rw [← zLt j hj]; exact (hw w e).cell (g := 0) (by kernel_rfl) j hj)⟩, fun k o' he => by cases he; exact ⟨ho, by simp⟩⟩
set_option maxRecDepth 100000 in
theorem lifted (os : Os) (started : os.Started) (H : Type) (enc : TypeId × Value → H) :
    ReturnsInHanded {} Tryz.checked os 5 .any (fun w args => (Rows.fnExactTableMaySpec.pre enc Tryz.prog Tryz.f5 [] false w args ∧ laidMetH Tryz.prog laidL w) ∧ sizedMet enc Tryz.prog Tryz.f5 (OpenSpec.ofChange Rows.fnExactTableMaySpec) false w args) (Rows.fnExactTableMaySpec.post enc Tryz.prog Tryz.f5 false true false false) := by
  refine returnsInHanded_of_change_and (C := Tryz.checked) (X := fun w _ => laidMetH Tryz.prog laidL w) (fun _ _ _ hh h => h.of_heap hh) own started (by kernel_rfl) Tryz.func5
    (ChangeSpec.witness_shaped (enc := enc) (C := Tryz.checked) (os := os) (X := fun w _ => laidMetH Tryz.prog laidL w) false (World.doorLaid Tryz.prog 24 os) #[.string ByteArray.empty, .string ByteArray.empty] 8 rfl (World.shaped_of_RefB (by kernel_rfl) (by kernel_rfl)) (by kernel_rfl) (by kernel_rfl) (by kernel_rfl) (door_met os _)) ?_
  intro W base args ds gs before hval0 hW hcnd hsz0 hL _
  have hsz : (DataW.weightsEach Tryz.prog (Tryz.f5.params.toList ++ Rows.fnExactTableMaySpec.plain.varTypes Tryz.prog) (ds ++ gs)).all (· ≤ reachBytes) = true := hsz0
  have hval : ∀ (j : Nat) t v, Tryz.f5.params[j]? = some t → args[j]? = some v → Value.okWide Tryz.prog W .any base t v := hval0
  have hW' := hW
  obtain ⟨p, q, hA0, hV, rfl, hfz, hnd⟩ := hW
  have hA : DataW.TrodAll enc Tryz.prog W 0 (fun _ => true) true Tryz.f5.params.toList args.toList ds p := hA0
  rw [Tryz.params5] at hA hval hsz
  obtain ⟨v0, vs0, d0, ds0, p0, q0, hargs, rfl, rfl, h0, r0⟩ := trodAll_cons hA
  obtain ⟨v1, vs1, d1, ds1, p1, q1, rfl, rfl, rfl, h1, r1⟩ := trodAll_cons r0
  obtain ⟨rfl, rfl, rfl⟩ := trodAll_nil r1
  obtain rfl : args = #[v0, v1] := by cases args; simp_all
  obtain ⟨rfl, rfl⟩ := trodVars_none hV
  obtain ⟨γ, hT, hgh⟩ := tabG_of hL
  have k0 := h0
  have lt0 : ∀ x ∈ p0, x.block < W.heap.size := by obtain ⟨m, hm⟩ := k0; exact DataW.trod_lt m _ _ _ hm
  have wt0 := zLp hsz (j := 0) (t := 9) rfl rfl
  obtain ⟨a0, rfl, _⟩ := open_string Tryz.underlying9 (hval 0 9 v0 rfl rfl) h0
  obtain ⟨fuel0, hf0⟩ := h0
  obtain ⟨ps0, fit0, len0, pv0⟩ := Go.Rl.opens 9 9 [.str] (by kernel_rfl) fuel0 _ _ hf0 wt0
  obtain ⟨s, rfl, hs⟩ := zI8 fit0
  have k1 := h1
  have lt1 : ∀ x ∈ p1, x.block < W.heap.size := by obtain ⟨m, hm⟩ := k1; exact DataW.trod_lt m _ _ _ hm
  have wt1 := zLp hsz (j := 1) (t := 9) rfl rfl
  obtain ⟨a1, rfl, _⟩ := open_string Tryz.underlying9 (hval 1 9 v1 rfl rfl) h1
  obtain ⟨fuel1, hf1⟩ := h1
  obtain ⟨ps1, fit1, len1, pv1⟩ := Go.Rl.opens 9 9 [.str] (by kernel_rfl) fuel1 _ _ hf1 wt1
  obtain ⟨u, rfl, hu⟩ := zI8 fit1
  clear hA0 hval0 hsz0 hsz
  refine (zOA (zF1 hT s u hs hu) hgh (.cons (E := []) (E' := []) (zMW fit0 pv0) (.cons (E := []) (E' := []) (zMW fit1 pv1) .nil))).mono fun e W' ⟨he, bel⟩ => ?_
  subst he
  exact ⟨_, rfl, _, _, _, [], _, [], hW', trodAll_mk1 (shut_bool Tryz.underlying4 _), (trodAll_cons_mk (Below.trod laidOut (by kernel_rfl) (of_decide_eq_true (by kernel_rfl)) k0 bel lt0) (trodAll_cons_mk (Below.trod laidOut (by kernel_rfl) (of_decide_eq_true (by kernel_rfl)) k1 bel lt1) trodAll_mk0)), rfl, bel.frame _, fun h => by cases h⟩
theorem over : Rows.FnExactTableMaySaid :=
  OpenClaim.holds_of_wide 5 Tryz.f5 rfl rfl rfl rfl rfl rfl rfl ⟨rfl, rfl, rfl, rfl, rfl⟩ rfl rfl rfl rfl rfl (by kernel_rfl) Tryz.func5 (by kernel_rfl)
    (of_decide_eq_true (by kernel_rfl)) (by unfold Func.isWrapper; first | (rw [if_pos (by decide +kernel)]; kernel_rfl) | (rw [if_neg (by decide +kernel)]; exact ⟨rfl, rfl⟩))
    (fun os started H enc _ => lifted os started H enc)
theorem card : Rows.FnExactTableMayCardSaid :=
  Claim7.holds_tied_plain_at .later [] [.data] true _ false
    over (fun _ h => by cases h) (by kernel_rfl) (fun _ h => by cases h) fnExactTableMay_row_tie rfl ⟨rfl, rfl⟩ (by kernel_rfl) rfl
    (fun f fn hf hfn => by
      have h3 : Tryz.prog.funcNamed Rows.fnExactTableMayRow.func = some 5 := by kernel_rfl
      obtain rfl : f = 5 := Option.some.inj (h3.symm.trans hf) |>.symm
      obtain rfl : fn = Tryz.f5 := (Option.some.inj (Tryz.func5.symm.trans hfn)).symm
      exact ⟨by kernel_rfl, fun j t ht => by
        rw [Tryz.params5] at ht
        have hm : t ∈ [9, 9] := by simpa using Array.mem_of_getElem? ht
        have hall : ([9, 9].all fun u => !Tryz.prog.wantsStandIn u) = true := by kernel_rfl
        exact (show Tryz.prog.wantsStandIn t = false by simpa using List.all_eq_true.1 hall t hm)⟩)
    (by kernel_rfl)
end Go.Proofs.YtamebecmgdbmnaaGreatDoor.fnExactTableMay
namespace Go.Proofs.YtamebecmgdbmnaaGreatDoor
theorem fnExactTableMay_holds : Rows.FnExactTableMayCardSaid := fnExactTableMay.card
#print axioms fnExactTableMay_holds
end Go.Proofs.YtamebecmgdbmnaaGreatDoor

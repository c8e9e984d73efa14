/- Promises of functions, proved by walks over their operations; no conditions beyond those that each theorem states. -/
import Derived.Test.YtecgkdodfemihaaDoorRows
import Derived.Test.YtecgkdodfemihaaDoorCards
import Derived.Test.YtecgkdodfemihaaDoorTie
import Derived.Test.YtecgkdodfemihaaDoorRlU
import Derived.LaidMore
import Derived.Stop.Joined
import Derived.Stop.LaidErr
import Derived.OpenShut
import Derived.ShutString
import Derived.ChangeOld
import Derived.ChangeMaps5
import Derived.SevenTiedAt
set_option linter.unusedSimpArgs false
set_option linter.unusedVariables false
namespace Go.Proofs.YtecgkdodfemihaaDoor.fnExactFileName
open Go.ChangeShapes Go.WideShapes Go.ChangeAt Go.RowKit Go.Rl
open Go.ChangeMaps (open_string shut_string)
theorem own : ownKnob Tryd.prog.godebug = none := by kernel_rfl
theorem laidOut : laidOutB Tryd.prog = true := by kernel_rfl
abbrev laidL : List (String × DataW Unit) := Rows.fnExactFileNameRow.laid
theorem door_met (os : Os) (args : Array Value) : laidMetH Tryd.prog laidL ((World.doorLaid Tryd.prog 24 os).forCall (fun _ _ => 0) ⟨#[], args, []⟩).memory :=
  laidMetH_of_parts3 (fuel := 8) (laidMet_of_run' 8 (by kernel_rfl) (by kernel_rfl)) (by kernel_rfl) (by kernel_rfl)
theorem tabG_of {W : World} (h : laidMetH Tryd.prog laidL W) : ∃ γ, TabG γ ∧ Gh γ W [] := by
  rw [MakeChecks.laidMetH_plain _ _ _ (by kernel_rfl)] at h
  have h2 := laidMet.tail (laidMet.tail (show laidMet Tryd.prog (_ :: _ :: (_, Lib.tabData .u64 Lib.pow10Tab) :: []) W from h))
  have h3 := Lib.tabIs_of_head (g := 0) (t := 37) (e := 30) (n := 20) (by kernel_rfl) (by kernel_rfl) Tryd.underlying37 Tryd.underlying30 (by kernel_rfl) (by kernel_rfl) h2
  obtain ⟨o, ho, hw⟩ := tab_block (g := 0) (by kernel_rfl) h3
  exact ⟨some (0, o), ⟨o, rfl, fun w e n h0 h1 => Any.strconv_FormatInt_10 Tryd.lays173 n h0 h1 w (hw w e)⟩, fun k o' he => by cases he; exact ⟨ho, by simp⟩⟩
theorem pas_str {Z : Nat → Prop} {w : World} (b : ByteArray) : PAS Z w (.one (.v (.string b))) (.string b) [] := .one (.nf rfl (.v _ rfl))
theorem pas_int {Z : Nat → Prop} {w : World} (k : IntKind) (n : Int) : PAS Z w (.one (.v (.int k n))) (.int k n) [] := .one (.nf rfl (.v _ rfl))
set_option maxRecDepth 100000 in
theorem lifted (os : Os) (started : os.Started) (H : Type) (enc : TypeId × Value → H) :
    ReturnsInHanded {} Tryd.checked os 3 .any (fun w args => (Rows.fnExactFileNameSpec.pre enc Tryd.prog Tryd.f3 [] false w args ∧ laidMetH Tryd.prog laidL w) ∧ sizedMet enc Tryd.prog Tryd.f3 (OpenSpec.ofChange Rows.fnExactFileNameSpec) false w args)
      (Rows.fnExactFileNameSpec.post enc Tryd.prog Tryd.f3 false true false false) := by
  refine returnsInHanded_of_change_and (C := Tryd.checked) (X := fun w _ => laidMetH Tryd.prog laidL w) (fun _ _ _ hh h => h.of_heap hh) own started (by kernel_rfl) Tryd.func3
    (ChangeSpec.witness_shaped (enc := enc) (C := Tryd.checked) (os := os) (X := fun w _ => laidMetH Tryd.prog laidL w) false (World.doorLaid Tryd.prog 24 os) #[.string ByteArray.empty, .int .i64 0] 8 rfl (World.shaped_of_RefB (by kernel_rfl) (by kernel_rfl)) (by kernel_rfl) (by kernel_rfl) (by kernel_rfl) (door_met os _)) ?_
  intro W base args ds gs before hval0 hW _ _ hL _
  have hval : ∀ (j : Nat) t v, Tryd.f3.params[j]? = some t → args[j]? = some v → Value.okWide Tryd.prog W .any base t v := hval0
  have hW' := hW
  obtain ⟨p, q, hA0, hV, rfl, hfz, hnd⟩ := hW
  have hA : DataW.TrodAll enc Tryd.prog W 0 (fun _ => true) true Tryd.f3.params.toList args.toList ds p := hA0
  rw [Tryd.params3] at hA hval
  obtain ⟨v0, v1, d0, d1, p0, p1, rfl, rfl, rfl, h0, h1⟩ := trodAll_two hA
  obtain ⟨rfl, rfl⟩ := trodVars_none hV
  obtain ⟨a, rfl, rfl, rfl, wa⟩ := open_string Tryd.underlying9 (hval 0 9 v0 rfl rfl) h0
  obtain ⟨b, rfl, rfl, rfl, wb⟩ := open_int Tryd.underlying2 (hval 1 2 v1 rfl rfl) h1
  obtain ⟨γ, hT, hgh⟩ := tabG_of hL
  clear hA0 hval0
  simp only [List.append_nil] at hW'
  refine (law_runG (law_fileName_con hT a b) hgh (.cons (E := []) (E' := []) (pas_str a) (.cons (E := []) (E' := []) (pas_int .i64 b) .nil))).mono fun e W' ⟨he, bel⟩ => ?_
  subst he
  exact ⟨_, rfl, _, _, _, [], _, [], hW', trodAll_mk1 (shut_bool Tryd.underlying4 _), trodAll_mk2 (shut_string Tryd.underlying9 wa) (shut_int Tryd.underlying2 wb), rfl, bel.frame _, fun h => by cases h⟩
theorem over : Rows.FnExactFileNameSaid :=
  OpenClaim.holds_of_wide 3 Tryd.f3 rfl rfl rfl rfl rfl rfl rfl ⟨rfl, rfl, rfl, rfl, rfl⟩ rfl rfl rfl rfl rfl (by kernel_rfl) Tryd.func3 (by kernel_rfl)
    (of_decide_eq_true (by kernel_rfl)) (by unfold Func.isWrapper; first | (rw [if_pos (by decide +kernel)]; kernel_rfl) | (rw [if_neg (by decide +kernel)]; exact ⟨rfl, rfl⟩))
    (fun os started H enc _ => lifted os started H enc)
theorem card : Rows.FnExactFileNameCardSaid :=
  Claim7.holds_tied_plain_at .later [] [.data, .data, .data] true _ false
    over (fun _ h => by cases h) (by kernel_rfl) (fun _ h => by cases h) fnExactFileName_row_tie rfl ⟨rfl, rfl⟩ (by kernel_rfl) rfl
    (fun f fn hf hfn => by
      have h3 : Tryd.prog.funcNamed Rows.fnExactFileNameRow.func = some 3 := by kernel_rfl
      obtain rfl : f = 3 := Option.some.inj (h3.symm.trans hf) |>.symm
      obtain rfl : fn = Tryd.f3 := (Option.some.inj (Tryd.func3.symm.trans hfn)).symm
      exact ⟨by kernel_rfl, fun j t ht => by
        rw [Tryd.params3] at ht
        have hm : t ∈ [9, 2] := by simpa using Array.mem_of_getElem? ht
        have hall : ([9, 2].all fun u => !Tryd.prog.wantsStandIn u) = true := by kernel_rfl
        exact (show Tryd.prog.wantsStandIn t = false by simpa using List.all_eq_true.1 hall t hm)⟩)
    (by kernel_rfl)
end Go.Proofs.YtecgkdodfemihaaDoor.fnExactFileName
namespace Go.Proofs.YtecgkdodfemihaaDoor
theorem fnExactFileName_holds : Rows.FnExactFileNameCardSaid := fnExactFileName.card
#print axioms fnExactFileName_holds
end Go.Proofs.YtecgkdodfemihaaDoor

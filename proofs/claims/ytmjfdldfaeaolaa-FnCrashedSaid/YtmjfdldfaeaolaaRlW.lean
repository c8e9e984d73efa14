/- R, part W: from a promise to a law's row. -/
import Derived.Test.YtmjfdldfaeaolaaRlV
import Derived.ProofKit
import Derived.OpenShut
import Derived.ShutString
import Derived.ChangeOld
namespace Go.Rl
open Go.RowKit

theorem pss_of {Z : Nat → Prop} {w : World} : ∀ {ps : List PV} {us : List Value}, ps.length = us.length → (∀ p ∈ ps, p.nf = true) → (∀ (j : Nat) p v, ps[j]? = some p → us[j]? = some v → PVR Z w p v) → PSs Z w ps us []
  | [], [], _, _, _ => .nil
  | [], _ :: _, h, _, _ => by simp at h
  | _ :: _, [], h, _, _ => by simp at h
  | p :: ps, u :: us, h, hn, hv => by
    have := PSs.cons (E := []) (.nf (hn p (by simp)) ((hv 0 p u rfl rfl).nfO (hn p (by simp)))) (pss_of (ps := ps) (us := us) (by simpa using h) (fun q hq => hn q (by simp [hq])) (fun j q v hq hv' => hv (j + 1) q v (by simpa using hq) (by simpa using hv')))
    simpa using this
theorem fits_nf {E : List Sh} {ps : List PV} (h : Fits E ps) : ∀ p ∈ ps, p.nf = true := fun p hp => by
  obtain ⟨j, hj⟩ := List.getElem?_of_mem hp
  have hlt : j < E.length := by rw [← h.1]; exact (List.getElem?_eq_some_iff.1 hj).1
  exact fit_nf (h.2 j _ p (List.getElem?_eq_getElem hlt) hj)
theorem pas_agg {Z : Nat → Prop} {w : World} {E : List Sh} {ps : List PV} {cs : Array Value} (hf : Fits E ps) (hl : cs.toList.length = E.length) (hv : ∀ (j : Nat) p v, ps[j]? = some p → cs.toList[j]? = some v → PVR Z w p v) : PAS Z w (.agg ps) (.agg cs) [] := by
  obtain ⟨l⟩ := cs
  exact .agg (pss_of (by rw [hf.1, ← hl]) (fits_nf hf) hv)
theorem pas_one {Z : Nat → Prop} {w : World} {s : Sh} {p : PV} {u : Value} (hf : Fits [s] [p]) (hv : ∀ (j : Nat) p' v, [p][j]? = some p' → [u][j]? = some v → PVR Z w p' v) : PAS Z w (.one p) u [] :=
  .one (.nf (fits_nf hf p (by simp)) ((hv 0 p u rfl rfl).nfO (fits_nf hf p (by simp))))
/-- A law whose promise is 'true' returns true, and below its heap nothing has turned. -/
theorem law_run {P : Program} {f : FuncId} {args : List PA} {vs : List Value} {w : World} (hc : Con P f args [] [.one (.v (.bool true))]) (ha : PASs (old w) w args vs []) :
    Calls P f ⟨vs⟩ w fun e w' => e = .returned (.bool true) ∧ Below w.heap.size w w' := by
  refine (hc (old w) w vs [] (gh_none _ _) ha (fun k hk => ⟨hk, by simp [Leaf.all]⟩) (by simp [Leaf.all]) (by simp [Leaf.all])).mono ?_
  rintro e w' ⟨v, F, rfl, hs, _, hr, _⟩
  have hv : v = .bool true := by
    cases hr with
    | one h =>
      cases h with
      | one h =>
        cases h with
        | nf hn h => cases h; rfl
    | more hl _ => exact absurd rfl hl
  subst hv
  exact ⟨rfl, Same.below hs⟩
theorem wt_each {H : Type} {P : Program} {ts : List TypeId} {ds : List (DataW H)} (h : (DataW.weightsEach P ts ds).all (· ≤ reachBytes) = true) {j : Nat} {t : TypeId} {d : DataW H} (ht : ts[j]? = some t) (hd : ds[j]? = some d) : ∀ n ∈ d.weights P t, n ≤ reachBytes := fun n hn => by
  have := List.all_eq_true.1 h n (DataW.weights_mem_each ht hd n hn)
  simpa using this
theorem okWide_sl {P : Program} {w : World} {r : Reach} {base : Nat} {t e : TypeId} {v : Value} (hu : P.underlying t = some (.slice e)) (h : Value.okWide P w r base t v) : ∃ A n c, v = .slice A n c := by
  obtain ⟨a, len, cap, rfl⟩ := WideShapes.okWide_slice hu h
  exact ⟨_, _, _, rfl⟩
end Go.Rl

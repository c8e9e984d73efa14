/- R, part Z: a code of bytes handed to a law, as a value that is not looked into but where it is read. -/
import Derived.Test.YtmjfdldfaeaolaaRlW
import Derived.Test.YtmjfdldfaeaolaaRlY
namespace Go.Rl
open Go.RowKit
def pvC (bs : List Nat) : List (List PV) := bs.map fun b : Nat => [.v (.int .u8 (b : Int))]
theorem open_byte {es : List PV} (h : Fits [.int .u8] es) : ∃ b : Nat, es = [.v (.int .u8 (b : Int))] ∧ b < 256 := by
  obtain ⟨p0, e0, rfl, f0, h⟩ := fits_cons h
  obtain rfl := fits_nil h
  obtain ⟨n, rfl, hn⟩ := fit_int f0
  simp only [Lit.wf, Bool.and_eq_true, decide_eq_true_eq] at hn
  have h1 : IntKind.u8.min = 0 := by decide
  have h2 : IntKind.u8.max = 255 := by decide
  obtain ⟨b, rfl⟩ : ∃ b : Nat, n = (b : Int) := ⟨n.toNat, by omega⟩
  exact ⟨b, rfl, by omega⟩
theorem open_code {ps : List PV} (h : Fits [.sl [.int .u8]] ps) : ∃ bs : List Nat, ps = [.sl false 1 (pvC bs)] ∧ bs.length ≤ maxLen ∧ ∀ b ∈ bs, b < 256 := by
  obtain ⟨x1, e1, rfl, f1, z1⟩ := fits_cons h
  obtain rfl := fits_nil z1
  obtain ⟨xs, rfl, hl, hx⟩ := fit_sl f1
  obtain ⟨l, rfl, hB⟩ := fits_list (f := fun b : Nat => [PV.v (.int .u8 (b : Int))]) (fun es he => open_byte he) hx
  exact ⟨l, rfl, by simpa using hl, hB⟩
theorem code_of {Z : Nat → Prop} {w : World} {v : Value} {bs : List Nat} (h : PVR Z w (.sl false 1 (pvC bs)) v) (hb : ∀ b ∈ bs, b < 256) : ∃ γ, CodeAt γ v bs ∧ Gh γ w [] := by
  generalize hxs : pvC bs = xs at h
  cases h with
  | emp own sz A c =>
    have : bs = [] := by cases bs with
      | nil => rfl
      | cons b l => simp [pvC] at hxs
    subst this
    exact ⟨none, ⟨A, c, rfl, .inl rfl⟩, gh_none _ _⟩
  | sl own sz xs k off c hlen hc hz u hcell hp =>
    have hln : xs.length = bs.length := by rw [← hxs]; simp [pvC]
    have hfl : ∀ (i : Nat), xs.flatten[i]? = (bs[i]?).map fun b : Nat => PV.v (.int .u8 (b : Int)) := fun i => by
      rw [← hxs]
      have : ∀ l : List Nat, (pvC l).flatten = l.map fun b : Nat => PV.v (.int .u8 (b : Int)) := fun l => by
        induction l with
        | nil => rfl
        | cons b l ih => simp only [pvC, List.map_cons, List.flatten_cons, List.singleton_append] at ih ⊢; rw [ih]
      rw [this, List.getElem?_map]
    have hcl : ∀ (i : Nat) (b : Nat), bs[i]? = some b → w.cell? ⟨k, off + i, none⟩ = some (.int .u8 (b : Int)) := fun i b hi => by
      have h1 := hfl i
      rw [hi, Option.map_some] at h1
      have h2 := hp i _ h1
      rw [hcell i (List.getElem?_eq_some_iff.1 h1).1]
      generalize u i = y at h2 ⊢
      cases h2
      rfl
    cases bs with
    | nil =>
      exact ⟨none, ⟨some ⟨k, off, none⟩, c, by rw [hln], .inl rfl⟩, gh_none _ _⟩
    | cons b0 bl =>
      have h0 := hcl 0 b0 rfl
      unfold World.cell? at h0
      split at h0
      · rename_i cur ty fz hk
        refine ⟨some (k, .cells cur ty fz), ⟨some ⟨k, off, none⟩, c, by rw [hln], .inr ⟨k, off, cur, ty, fz, rfl, rfl, fun i b hi => ⟨hb b (List.mem_of_getElem? hi), ?_⟩⟩⟩, ?_⟩
        · have h1 := hcl i b hi
          unfold World.cell? at h1
          simp only at hk h1
          rw [hk] at h1
          simpa using h1
        · intro k' o he
          cases he
          exact ⟨hk, by simp⟩
      · cases h0
theorem code_one {γ : Gho} {cv : Value} {bs : List Nat} (h : CodeAt γ cv bs) : cv.oneCell' = true := by
  obtain ⟨A, c, rfl, _⟩ := h
  rfl
theorem pas_v {Z : Nat → Prop} {w : World} {v : Value} (h : v.oneCell' = true) : PAS Z w (.one (.v v)) v [] := .one (.nf rfl (.v v h))
/-- A law whose promise is 'true', with what is known of a block, returns true. -/
theorem law_runG {γ : Gho} {P : Program} {f : FuncId} {args : List PA} {vs : List Value} {w : World} (hc : ConG γ P f args [] [.one (.v (.bool true))]) (hg : Gh γ w []) (ha : PASs (old w) w args vs []) :
    Calls P f ⟨vs⟩ w fun e w' => e = .returned (.bool true) ∧ Below w.heap.size w w' := by
  refine (hc (old w) w vs [] hg ha (fun k hk => ⟨hk, by simp [Leaf.all]⟩) (by simp [Leaf.all]) (by simp [Leaf.all])).mono ?_
  rintro e w' ⟨v, F, rfl, hs, _, hr, _⟩
  have hv : v = .bool true := by
    cases hr with
    | one h =>
      cases h with
      | one h =>
        cases h with
        | nf hn h => cases h; rfl
    | more hl _ => exact absurd rfl hl
  subst hv
  exact ⟨rfl, Same.below hs⟩
end Go.Rl

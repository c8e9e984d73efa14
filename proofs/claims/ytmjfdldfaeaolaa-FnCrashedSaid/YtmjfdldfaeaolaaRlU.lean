/- R, part U: a row under another number. -/
import Derived.Test.YtmjfdldfaeaolaaRlT
namespace Go.Rl
open Go.RowKit

def rn (a b i : Nat) : Nat := match Nat.beq i a with
  | true => b
  | false => i
theorem rn_self (a b : Nat) : rn a b a = b := by simp [rn]
theorem rn_ne {a b i : Nat} (h : i ≠ a) : rn a b i = i := by
  have : Nat.beq i a = false := by
    cases e : Nat.beq i a with
    | false => rfl
    | true => exact absurd (Nat.eq_of_beq_eq_true e) h
  simp only [rn, this]
mutual
def AV.ren (a b : Nat) : AV → AV
  | .p (some d) x => .p (some (rn a b d)) x
  | .sl id lo len => .sl (rn a b id) lo len
  | .ea id i off => .ea (rn a b id) i off
  | .fea (some d) ps => .fea (some (rn a b d)) ps
  | .agg cs => .agg (AV.rens a b cs)
  | .tup cs => .tup (AV.rens a b cs)
  | x => x
def AV.rens (a b : Nat) : List AV → List AV
  | [] => []
  | x :: xs => AV.ren a b x :: AV.rens a b xs
end
def St.ren (s : St) (a b : Nat) : St := ⟨fun i => (s.t i).ren a b, fun i => (s.b i).map (AV.rens a b), fun i => match Nat.beq i b with
  | true => s.r a
  | false => match Nat.beq i a with
    | true => none
    | false => s.r i⟩
def Pl.ren (L : Pl) (a b : Nat) : Pl := { L with ρ := upd L.ρ b (L.ρ a), ν := upd L.ν b (L.ν a), lab := fun k => match L.lab k with
  | some (.row i) => some (.row (rn a b i))
  | x => x }
section
variable {L : Pl} {w : World} {s : St} {a b : Nat}
theorem ren_r (hab : a ≠ b) (hb : s.r b = none) {i : Nat} {y} (h : s.r i = some y) : (s.ren a b).r (rn a b i) = some y ∧ (L.ren a b).ρ (rn a b i) = L.ρ i ∧ (L.ren a b).ν (rn a b i) = L.ν i := by
  by_cases e : i = a
  · subst e
    rw [rn_self]
    refine ⟨?_, by simp [Pl.ren], by simp [Pl.ren]⟩
    simp only [St.ren, Nat.beq_refl]
    exact h
  · have hib : i ≠ b := fun e => by subst e; rw [hb] at h; cases h
    have h1 : Nat.beq i b = false := by
      cases e : Nat.beq i b with
      | false => rfl
      | true => exact absurd (Nat.eq_of_beq_eq_true e) hib
    have h2 : Nat.beq i a = false := by
      cases e' : Nat.beq i a with
      | false => rfl
      | true => exact absurd (Nat.eq_of_beq_eq_true e') e
    rw [rn_ne e]
    exact ⟨by simp only [St.ren, h1, h2]; exact h, upd_ne _ _ hib, upd_ne _ _ hib⟩
theorem ren_zd (hab : a ≠ b) (hb : s.r b = none) {d : Option Nat} (hd : ∀ id, d = some id → (s.r id).isSome) : ∀ k, L.zd d k → (L.ren a b).zd (d.map (rn a b)) k := fun k hk => by
  rcases hk with hk | ⟨id, rfl, hk⟩
  · exact .inl hk
  · obtain ⟨y, hy⟩ := Option.isSome_iff_exists.1 (hd id rfl)
    exact .inr ⟨rn a b id, rfl, by rw [(ren_r hab hb hy).2.2]; exact hk⟩
mutual
theorem AVR.ren (hab : a ≠ b) (hb : s.r b = none) : ∀ (av : AV) (v : Value), AVR L w s av v → AVR (L.ren a b) w (s.ren a b) (av.ren a b) v
  | .undef, v, _ => by simp [AV.ren, AVR]
  | .p none x, v, hv => by
    simp only [AV.ren, AVR] at hv ⊢
    exact ⟨hv.1.mono (fun _ _ => rfl) (fun k hk => ren_zd (d := none) hab hb (fun _ h => by cases h) k hk), fun _ h => by cases h⟩
  | .p (some d) x, v, hv => by
    simp only [AV.ren, AVR] at hv ⊢
    refine ⟨hv.1.mono (fun _ _ => rfl) (fun k hk => ren_zd (d := some d) hab hb hv.2 k hk), fun id hid => ?_⟩
    cases hid
    obtain ⟨y, hy⟩ := Option.isSome_iff_exists.1 (hv.2 d rfl)
    rw [(ren_r (L := L) hab hb hy).1]; rfl
  | .sl id lo len, v, hv => by
    simp only [AV.ren, AVR] at hv ⊢
    obtain ⟨sz, xs, h1, h2, h3⟩ := hv
    obtain ⟨h4, h5, _⟩ := ren_r (L := L) hab hb h1
    exact ⟨sz, xs, h4, h2, by rw [h5]; exact h3⟩
  | .ptr c off, v, hv => by
    simp only [AV.ren, AVR] at hv ⊢
    exact ⟨by simpa [St.ren] using hv.1, hv.2⟩
  | .ea id i off, v, hv => by
    simp only [AV.ren, AVR] at hv ⊢
    obtain ⟨sz, xs, k, n, c, h1, h2, h3, h4⟩ := hv
    obtain ⟨h5, h6, _⟩ := ren_r (L := L) hab hb h1
    exact ⟨sz, xs, k, n, c, h5, h2, by rw [h6]; exact h3, h4⟩
  | .fea none ps, v, hv => by
    simp only [AV.ren, AVR] at hv ⊢
    obtain ⟨⟨k, off, h1, h2, h3⟩, h4⟩ := hv
    have hz := ren_zd (L := L) (d := none) hab hb h4
    exact ⟨⟨k, off, h1, hz k h2, fun j p hp => by obtain ⟨u, hu, hr⟩ := h3 j p hp; exact ⟨u, hu, hr.mono (fun _ _ => rfl) hz⟩⟩, fun _ h => by cases h⟩
  | .fea (some d) ps, v, hv => by
    simp only [AV.ren, AVR] at hv ⊢
    obtain ⟨⟨k, off, h1, h2, h3⟩, h4⟩ := hv
    have hz := ren_zd (L := L) (d := some d) hab hb h4
    refine ⟨⟨k, off, h1, hz k h2, fun j p hp => by obtain ⟨u, hu, hr⟩ := h3 j p hp; exact ⟨u, hu, hr.mono (fun _ _ => rfl) hz⟩⟩, fun id hid => ?_⟩
    cases hid
    obtain ⟨y, hy⟩ := Option.isSome_iff_exists.1 (h4 d rfl)
    rw [(ren_r (L := L) hab hb hy).1]; rfl
  | .nils, v, hv => by simpa only [AV.ren, AVR] using hv
  | .sat A, v, hv => by simpa only [AV.ren, AVR] using hv
  | .clo f bs, v, hv => by
    simp only [AV.ren, AVR] at hv ⊢
    exact ⟨fun x hx => by simpa [St.ren] using hv.1 x hx, hv.2⟩
  | .agg cs, v, hv => by
    simp only [AV.ren, AVR] at hv ⊢
    obtain ⟨us, h1, h2⟩ := hv
    exact ⟨us, h1, AVRs.ren hab hb cs us h2⟩
  | .tup cs, v, hv => by
    simp only [AV.ren, AVR] at hv ⊢
    obtain ⟨us, h1, h2⟩ := hv
    exact ⟨us, h1, AVRs.ren hab hb cs us h2⟩
theorem AVRs.ren (hab : a ≠ b) (hb : s.r b = none) : ∀ (as : List AV) (us : List Value), AVRs L w s as us → AVRs (L.ren a b) w (s.ren a b) (AV.rens a b as) us
  | [], [], _ => by simp [AV.rens, AVRs]
  | [], _ :: _, hv => by simp [AVRs] at hv
  | _ :: _, [], hv => by simp [AVRs] at hv
  | x :: as, u :: us, hv => by
    simp only [AV.rens, AVRs] at hv ⊢
    exact ⟨AVR.ren hab hb x u hv.1, AVRs.ren hab hb as us hv.2⟩
end
end
/-- Row a is row b from here on. -/
theorem wk_ren {n : Nat} {s : St} (a b : Nat) (hab : Nat.beq a b = false) (hb : s.r b = none) (hp : b < pinT) : Wk n s (s.ren a b) := by
  intro w0 I L ac w h
  have hne : a ≠ b := fun e => by subst e; simp at hab
  have hlab : ∀ k, (∀ i, L.lab k ≠ some (.row i)) → (L.ren a b).lab k = L.lab k := fun k hk => by
    show (match L.lab k with
      | some (.row i) => some (.row (rn a b i))
      | x => x) = L.lab k
    cases e : L.lab k with
    | none => rfl
    | some l => cases l with
      | box i => rfl
      | row i => exact absurd e (hk i)
  refine ⟨L.ren a b, h.same, fun k hk => ⟨(h.zlt k hk).1, ?_⟩, fun k l hk => ?_, h.sz, h.df, fun i => (h.tm i).ren hne hb _ _, fun i cs hc => ?_, fun i sz xs hx => ?_, fun i hi hx => ?_, fun i hi hx => h.pb i hi (by simpa [St.ren] using hx), h.zi⟩
  · rw [hlab k (fun i => by rw [(h.zlt k hk).2]; simp)]
    exact (h.zlt k hk).2
  · simp only [Pl.ren] at hk
    split at hk
    · rename_i i e; exact h.llt k _ e
    · exact h.llt k l hk
  · simp only [St.ren, Option.map_eq_some_iff] at hc
    obtain ⟨cs0, h0, rfl⟩ := hc
    obtain ⟨h1, us, ty, h2, h3, h4⟩ := h.bx i cs0 h0
    exact ⟨(hlab (L.β i) (fun j => by rw [h1]; simp)).trans h1, us, ty, h2, h3.ren hne hb _ _, h4⟩
  · have key : ∃ j, s.r j = some (sz, xs) ∧ rn a b j = i := by
      simp only [St.ren] at hx
      split at hx
      · rename_i e
        have := Nat.eq_of_beq_eq_true e
        subst this
        exact ⟨a, hx, rn_self _ _⟩
      · split at hx
        · cases hx
        · rename_i e1 e2
          refine ⟨i, hx, rn_ne (fun e => ?_)⟩
          subst e
          simp at e2
    obtain ⟨j, hj, rfl⟩ := key
    obtain ⟨h1, h2, h3⟩ := h.rw j sz xs hj
    obtain ⟨_, h4, h5⟩ := ren_r (L := L) hne hb hj
    rw [h4, h5]
    exact ⟨h1, h2, fun k hk => by simp only [Pl.ren, h3 k hk]⟩
  · simp only [St.ren] at hx
    split at hx
    · rename_i e
      have := Nat.eq_of_beq_eq_true e
      omega
    · rename_i e1
      split at hx
      · cases hx
      · have hib : i ≠ b := fun e => by subst e; simp at e1
        simp only [Pl.ren, upd_ne _ _ hib]
        exact h.pr i hi hx
end Go.Rl

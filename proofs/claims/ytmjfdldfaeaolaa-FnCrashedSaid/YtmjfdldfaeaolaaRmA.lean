/- R, part 2A: a row that nobody writes any more; promises whose results share memory. -/
import Derived.Test.YtmjfdldfaeaolaaRlZ
namespace Go.Rl
open Go.RowKit

mutual
def AV.frz (id sz : Nat) (xs : List (List PV)) : AV → AV
  | .p (some d) x => (match Nat.beq d id with
    | true => .p none x
    | false => .p (some d) x)
  | .sl d lo len => (match Nat.beq d id with
    | true => .p none (.sl false sz ((xs.drop lo).take len))
    | false => .sl d lo len)
  | .ea d i off => (match Nat.beq d id with
    | true => .undef
    | false => .ea d i off)
  | .fea (some d) ps => (match Nat.beq d id with
    | true => .fea none ps
    | false => .fea (some d) ps)
  | .agg cs => .agg (AV.frzs id sz xs cs)
  | .tup cs => .tup (AV.frzs id sz xs cs)
  | x => x
def AV.frzs (id sz : Nat) (xs : List (List PV)) : List AV → List AV
  | [] => []
  | a :: l => AV.frz id sz xs a :: AV.frzs id sz xs l
end
def St.frz (s : St) (id sz : Nat) (xs : List (List PV)) : St := ⟨fun i => (s.t i).frz id sz xs, fun i => (s.b i).map (AV.frzs id sz xs), fun i => match Nat.beq i id with
  | true => none
  | false => s.r i⟩
def Pl.frz (L : Pl) (id : Nat) : Pl := { L with Z := fun k => L.Z k ∨ k ∈ L.ν id, lab := fun k => if k ∈ L.ν id then none else L.lab k }
theorem beq_ne {a b : Nat} (h : a ≠ b) : Nat.beq a b = false := by
  cases e : Nat.beq a b with
  | false => rfl
  | true => exact absurd (Nat.eq_of_beq_eq_true e) h

section
variable {w0 : World} {I : Fr} {n : Nat} {L : Pl} {s : St} {a : Act} {w : World} {id sz : Nat} {xs : List (List PV)}
theorem frz_zd {d : Option Nat} (hd : d ≠ some id) : ∀ k, L.zd d k → (L.frz id).zd d k := fun k hk => by
  rcases hk with hk | ⟨i, rfl, hk⟩
  · exact .inl (.inl hk)
  · exact .inr ⟨i, rfl, hk⟩
theorem frz_zn : ∀ k, L.zd (some id) k → (L.frz id).zd none k := fun k hk => by
  rcases hk with hk | ⟨i, e, hk⟩
  · exact .inl (.inl hk)
  · cases e; exact .inl (.inr (List.mem_of_mem_tail hk))
theorem frz_r {i : Nat} (hi : i ≠ id) : (s.frz id sz xs).r i = s.r i := by simp only [St.frz, beq_ne hi]
mutual
theorem AVR.frz (hr : s.r id = some (sz, xs)) (hp : PVO L.Z w (.sl true sz xs) (L.ρ id) (L.ν id)) : ∀ (av : AV) (v : Value), AVR L w s av v → AVR (L.frz id) w (s.frz id sz xs) (av.frz id sz xs) v
  | .undef, v, _ => by simp [AV.frz, AVR]
  | .p none x, v, hv => by
    simp only [AV.frz, AVR] at hv ⊢
    exact ⟨hv.1.mono (fun _ _ => rfl) (frz_zd (by simp)), fun _ h => by cases h⟩
  | .p (some d) x, v, hv => by
    by_cases e : d = id
    · subst e
      simp only [AV.frz, Nat.beq_refl, AVR] at hv ⊢
      exact ⟨hv.1.mono (fun _ _ => rfl) frz_zn, fun _ h => by cases h⟩
    · simp only [AV.frz, beq_ne e, AVR] at hv ⊢
      refine ⟨hv.1.mono (fun _ _ => rfl) (frz_zd (by simpa using e)), fun i hi => ?_⟩
      cases hi
      rw [frz_r e]
      exact hv.2 d rfl
  | .sl d lo len, v, hv => by
    by_cases e : d = id
    · subst e
      simp only [AV.frz, Nat.beq_refl, AVR] at hv ⊢
      obtain ⟨sz', xs', e1, e2, A, m, c, A', c', e3, rfl, e5, e6, e7⟩ := hv
      rw [hr] at e1
      cases e1
      have hq := hp.toR
      have hm := pvr_len hq A m c e3
      rw [e3] at hq
      subst hm
      refine ⟨((hq.flag false).cut e2 _ _ e5 (fun hpos => ?_)).mono (fun _ _ => rfl) (fun k hk => .inl hk), fun _ h => by cases h⟩
      obtain ⟨k, rfl, rfl⟩ := e7 hpos
      exact ⟨k, 0, rfl, by rw [Nat.zero_add]⟩
    · simp only [AV.frz, beq_ne e, AVR] at hv ⊢
      rw [frz_r e]
      exact hv
  | .ptr b off, v, hv => by
    simp only [AV.frz, AVR] at hv ⊢
    exact ⟨by simpa [St.frz] using hv.1, hv.2⟩
  | .ea d i off, v, hv => by
    by_cases e : d = id
    · subst e
      simp only [AV.frz, Nat.beq_refl, AVR]
    · simp only [AV.frz, beq_ne e, AVR] at hv ⊢
      rw [frz_r e]
      exact hv
  | .fea none ps, v, hv => by
    simp only [AV.frz, AVR] at hv ⊢
    obtain ⟨⟨k, off, h1, h2, h3⟩, _⟩ := hv
    exact ⟨⟨k, off, h1, frz_zd (by simp) k h2, fun j p hj => by obtain ⟨u, hu, hq⟩ := h3 j p hj; exact ⟨u, hu, hq.mono (fun _ _ => rfl) (frz_zd (by simp))⟩⟩, fun _ h => by cases h⟩
  | .fea (some d) ps, v, hv => by
    by_cases e : d = id
    · subst e
      simp only [AV.frz, Nat.beq_refl, AVR] at hv ⊢
      obtain ⟨⟨k, off, h1, h2, h3⟩, _⟩ := hv
      exact ⟨⟨k, off, h1, frz_zn k h2, fun j p hj => by obtain ⟨u, hu, hq⟩ := h3 j p hj; exact ⟨u, hu, hq.mono (fun _ _ => rfl) frz_zn⟩⟩, fun _ h => by cases h⟩
    · simp only [AV.frz, beq_ne e, AVR] at hv ⊢
      obtain ⟨⟨k, off, h1, h2, h3⟩, h4⟩ := hv
      refine ⟨⟨k, off, h1, frz_zd (by simpa using e) k h2, fun j p hj => by obtain ⟨u, hu, hq⟩ := h3 j p hj; exact ⟨u, hu, hq.mono (fun _ _ => rfl) (frz_zd (by simpa using e))⟩⟩, fun i hi => ?_⟩
      cases hi
      rw [frz_r e]
      exact h4 d rfl
  | .nils, v, hv => by simpa only [AV.frz, AVR] using hv
  | .sat A, v, hv => by simpa only [AV.frz, AVR] using hv
  | .clo f bs, v, hv => by
    simp only [AV.frz, AVR] at hv ⊢
    exact ⟨fun x hx => by simpa [St.frz] using hv.1 x hx, hv.2⟩
  | .agg cs, v, hv => by
    simp only [AV.frz, AVR] at hv ⊢
    obtain ⟨us, h1, h2⟩ := hv
    exact ⟨us, h1, AVRs.frz hr hp cs us h2⟩
  | .tup cs, v, hv => by
    simp only [AV.frz, AVR] at hv ⊢
    obtain ⟨us, h1, h2⟩ := hv
    exact ⟨us, h1, AVRs.frz hr hp cs us h2⟩
theorem AVRs.frz (hr : s.r id = some (sz, xs)) (hp : PVO L.Z w (.sl true sz xs) (L.ρ id) (L.ν id)) : ∀ (l : List AV) (us : List Value), AVRs L w s l us → AVRs (L.frz id) w (s.frz id sz xs) (AV.frzs id sz xs l) us
  | [], [], _ => by simp [AV.frzs, AVRs]
  | [], _ :: _, hv => by simp [AVRs] at hv
  | _ :: _, [], hv => by simp [AVRs] at hv
  | x :: l, u :: us, hv => by
    simp only [AV.frzs, AVRs] at hv ⊢
    exact ⟨AVR.frz hr hp x u hv.1, AVRs.frz hr hp l us hv.2⟩
end
end
/-- Nobody writes row id any more. -/
theorem wk_frz {n : Nat} {s : St} (id : Nat) {sz : Nat} {xs : List (List PV)} (hr : s.r id = some (sz, xs)) : Wk n s (s.frz id sz xs) := by
  intro w0 I L ac w h
  obtain ⟨hp, hnd, hlab⟩ := h.rw id sz xs hr
  have lab : ∀ {k l}, L.lab k = some l → l ≠ .row id → (L.frz id).lab k = some l := fun {k l} hk hl => by
    simp only [Pl.frz]
    rw [if_neg (fun hx => hl (by rw [hlab k hx] at hk; cases hk; rfl)), hk]
  refine ⟨L.frz id, h.same, fun k hk => ?_, fun k l hk => ?_, h.sz, h.df, fun i => (h.tm i).frz hr hp _ _, fun i cs hc => ?_, fun i sz' xs' hx => ?_, fun i hi hx => ?_, fun i hi hx => h.pb i hi (by simpa [St.frz] using hx), fun k hk => ?_⟩
  · simp only [Pl.frz] at hk ⊢
    rcases hk with hk | hk
    · exact ⟨(h.zlt k hk).1, by split; rfl; exact (h.zlt k hk).2⟩
    · exact ⟨hp.lt k hk, by rw [if_pos hk]⟩
  · simp only [Pl.frz] at hk
    split at hk
    · cases hk
    · exact h.llt k l hk
  · simp only [St.frz, Option.map_eq_some_iff] at hc
    obtain ⟨cs0, h0, rfl⟩ := hc
    obtain ⟨h1, us, ty, h2, h3, h4⟩ := h.bx i cs0 h0
    exact ⟨lab h1 (by simp), us, ty, h2, h3.frz hr hp _ _, h4⟩
  · have hne : i ≠ id := fun e => by subst e; simp [St.frz] at hx
    rw [frz_r hne] at hx
    obtain ⟨h1, h2, h3⟩ := h.rw i sz' xs' hx
    exact ⟨h1.up (fun _ h => .inl h), h2, fun k hk => lab (h3 k hk) (by simpa using hne)⟩
  · have hne : i ≠ id := fun e => by subst e; simp [St.frz] at hx
    rw [frz_r hne] at hx
    exact h.pr i hi hx
  · simp only [Pl.frz] at hk
    rcases hk with hk | hk
    · exact h.zi k hk
    · exact .inr (h.llt k _ (hlab k hk)).2
theorem frz_all {sz : Nat} {xs : List (List PV)} : PV.sl false sz ((xs.drop 0).take xs.length) = .sl false sz xs := by simp

/-! #### a variable that nobody writes any more -/
mutual
/-- What a cell reads as, where it leads to nothing that is anybody's. -/
def AV.pvz : AV → Option PV
  | .p none (.v x) => some (.v x)
  | .p none (.sl _ sz xs) => some (.sl false sz xs)
  | .p none (.clo f xs) => some (.clo f xs)
  | _ => none
def AV.pvzs : List AV → Option (List PV)
  | [] => some []
  | a :: l => match a.pvz, AV.pvzs l with
    | some x, some xs => some (x :: xs)
    | _, _ => none
end
theorem pvz_ok {L : Pl} {w : World} {s : St} {av : AV} {p : PV} {v : Value} (h : av.pvz = some p) (hv : AVR L w s av v) : PVR L.Z w p v := by
  have hz : ∀ k, L.zd none k → L.Z k := fun k hk => hk.elim (fun h => h) (fun ⟨_, h, _⟩ => by cases h)
  unfold AV.pvz at h
  split at h
  · cases h; simp only [AVR] at hv; exact hv.1.mono (fun _ _ => rfl) hz
  · cases h; simp only [AVR] at hv; exact (hv.1.flag false).mono (fun _ _ => rfl) hz
  · cases h; simp only [AVR] at hv; exact hv.1.mono (fun _ _ => rfl) hz
  · cases h
theorem pvzs_ok {L : Pl} {w : World} {s : St} : ∀ {l : List AV} {ps : List PV} {us : List Value}, AV.pvzs l = some ps → AVRs L w s l us → ∀ (j : Nat) p, ps[j]? = some p → ∃ u, us[j]? = some u ∧ PVR L.Z w p u
  | [], ps, us, h, hv, j, p, hj => by simp [AV.pvzs] at h; subst h; simp at hj
  | a :: l, ps, us, h, hv, j, p, hj => by
    simp only [AV.pvzs] at h
    split at h
    · rename_i q qs e1 e2
      cases h
      cases us with
      | nil => simp [AVRs] at hv
      | cons u us =>
        simp only [AVRs] at hv
        cases j with
        | zero => simp at hj; subst hj; exact ⟨u, rfl, pvz_ok e1 hv.1⟩
        | succ j => simp at hj; simpa using pvzs_ok e2 hv.2 j p hj
    · cases h
end Go.Rl

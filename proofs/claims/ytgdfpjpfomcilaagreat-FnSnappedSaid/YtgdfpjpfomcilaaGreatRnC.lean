/- Promises of functions, proved by walks over their operations; no conditions beyond those that each theorem states. -/
import Derived.Test.YtgdfpjpfomcilaaGreatReC
import Derived.Test.YtgdfpjpfomcilaaGreatRlT
set_option linter.unusedSimpArgs false
set_option linter.unusedVariables false
namespace Go.Rl
open Go.RowKit
section
variable {w0 : World} {I : Fr} {n : Nat} {L : Pl} {s : St} {a : Act} {w : World}
def clB (w : World) (k : Nat) : Bool := match w.heap[k]? with
  | some (.cells _ _ _) => true
  | _ => false
theorem clB_of {w : World} {k : Nat} (h : Cl w k) : clB w k = true := by
  obtain ⟨c, t, z, h⟩ := h
  simp [clB, h]
theorem cl_of {w : World} {k : Nat} (h : clB w k = true) : Cl w k := by
  unfold clB at h
  split at h
  · exact ⟨_, _, _, ‹_›⟩
  · cases h
def Pl.trim (L : Pl) (w : World) : Pl := { L with lab := fun k => match clB w k with | true => L.lab k | false => none }
theorem zFK {k : Nat} {l : Lab} (h : (L.trim w).lab k = some l) : L.lab k = some l ∧ Cl w k := by
  simp only [Pl.trim] at h
  split at h
  · exact ⟨h, cl_of ‹_›⟩
  · cases h
theorem zNl {k : Nat} {l : Lab} (h : L.lab k = some l) (hc : Cl w k) : (L.trim w).lab k = some l := by simp only [Pl.trim, clB_of hc, h]
def Fr.root (I : Fr) (L : Pl) (w : World) : Fr := ⟨(List.range w.heap.size).filter (fun k => ((L.trim w).lab k).isSome), I.ρ, I.β, L.Z, I.df⟩
theorem zDU {k : Nat} (hk : k ∈ (I.root L w).I) : ∃ l, L.lab k = some l ∧ Cl w k := by
  simp only [Fr.root, List.mem_filter] at hk
  obtain ⟨l, hl⟩ := Option.isSome_iff_exists.1 hk.2
  exact ⟨l, zFK hl⟩
theorem Rel.root (h : Rel w0 I n L s a w) : Rel w (I.root L w) n (L.trim w) s a w := by
  have hm : Moves [] L (L.trim w) w w s s := ⟨fun k hk => ⟨hk, rfl⟩, fun i k _ hi hk => ⟨.inr hk, rfl⟩, fun b hb => ⟨hb, rfl⟩, fun i sz xs _ hx => ⟨xs, hx, rfl, rfl⟩⟩
  exact { same := Same.refl _ _
          zlt := fun k hk => ⟨(h.zlt k hk).1, by
            cases e : (L.trim w).lab k with
            | none => rfl
            | some l => have := (zFK e).1; rw [(h.zlt k hk).2] at this; cases this⟩
          llt := fun k l hk => ⟨(h.llt k l (zFK hk).1).1, .inr (by simp only [Fr.root, List.mem_filter, List.mem_range]; exact ⟨(h.llt k l (zFK hk).1).1, by rw [hk]; rfl⟩)⟩
          sz := h.sz, df := h.df, tm := fun i => (h.tm i).move0 hm
          bx := fun i cs hc => by
            obtain ⟨h1, us, ty, h2, h3, h4⟩ := h.bx i cs hc
            exact ⟨zNl h1 ⟨_, _, _, h2⟩, us, ty, h2, h3.move0 hm, h4⟩
          rw := fun i sz xs hx => by
            obtain ⟨h1, h2, h3⟩ := h.rw i sz xs hx
            exact ⟨h1, h2, fun k hk => zNl (h3 k hk) (h1.cl k hk)⟩
          pr := h.pr, pb := h.pb
          zi := fun k hk => .inl hk }
theorem Rel.unroot (h : Rel w0 I n L s a w) {L' : Pl} {s' : St} {a' : Act} {w' : World} (h' : Rel w (I.root L w) n L' s' a' w') : Rel w0 I n L' s' a' w' := by
  have old : ∀ k, (w.heap.size ≤ k ∨ k ∈ (I.root L w).I) → w0.heap.size ≤ k ∨ k ∈ I.I := fun k hk => by
    rcases hk with h2 | h2
    · exact .inl (Nat.le_trans h.same.size h2)
    · obtain ⟨l0, h0, _⟩ := zDU h2
      exact (h.llt k l0 h0).2
  have zs : ∀ k, L.Z k → w'.heap[k]? = w.heap[k]? := fun k h2 => h'.same.block k (h.zlt k h2).1 (fun hx => by
    obtain ⟨l0, h0, _⟩ := zDU hx
    rw [(h.zlt k h2).2] at h0
    cases h0)
  exact { same := h.same.trans h'.same (fun x hx hn hx2 => (old x (.inr hx2)).elim (fun h2 => by omega) hn)
          zlt := h'.zlt
          llt := fun k l hk => ⟨(h'.llt k l hk).1, old k (h'.llt k l hk).2⟩
          sz := h'.sz, df := h'.df, tm := h'.tm, bx := h'.bx, rw := h'.rw, pr := h'.pr, pb := h'.pb
          zi := fun k hk => by
            rcases h'.zi k hk with h2 | ⟨h2, hc⟩
            · exact (h.zi k h2).imp id (fun x => ⟨x.1, x.2.of (zs k h2)⟩)
            · exact .inr ⟨old k h2, hc⟩ }
theorem Rel.grown (h : Rel w0 I n L s a w) {B : Nat} (hB : w0.heap.size ≤ B) (hZ : ∀ k, I.Z k → k < B) {w' : World} {row : Option Nat} (hg : w.grownBy w' row) (hr : ∀ r, row = some r → B ≤ r ∧ ∃ o, w.heap[r]? = some o ∧ o.isCells = false) : Rel w0 I n L s a w' := by
  have cells : ∀ k, k < w.heap.size → (∀ o, w.heap[k]? = some o → o.isCells = true) → w'.heap[k]? = w.heap[k]? := fun k hk hc => hg.block k hk (fun e => by
    obtain ⟨_, o, h1, h2⟩ := hr k e.symm
    rw [hc o h1] at h2
    cases h2)
  have zs : ∀ k, L.Z k → w'.heap[k]? = w.heap[k]? := fun k hk => by
    rcases h.zi k hk with h2 | ⟨_, c, t, z, h2⟩
    · refine hg.block k (h.zlt k hk).1 (fun e => ?_)
      have := (hr k e.symm).1
      have := hZ k h2
      omega
    · exact cells k (h.zlt k hk).1 (fun o ho => by rw [h2] at ho; cases ho; rfl)
  have ns : ∀ i sz xs, s.r i = some (sz, xs) → ∀ k ∈ L.ν i, w'.heap[k]? = w.heap[k]? := fun i sz xs hx k hk => by
    obtain ⟨h1, _, h3⟩ := h.rw i sz xs hx
    obtain ⟨c, t, z, h2⟩ := h1.cl k hk
    exact cells k (h.llt k _ (h3 k hk)).1 (fun o ho => by rw [h2] at ho; cases ho; rfl)
  have hm : Moves [] L L w w' s s := ⟨fun k hk => ⟨hk, zs k hk⟩, fun i k _ hi hk => ⟨.inr hk, by
    obtain ⟨⟨sz, xs⟩, hx⟩ := Option.isSome_iff_exists.1 hi
    exact ns i sz xs hx k (List.mem_of_mem_tail hk)⟩, fun b hb => ⟨hb, rfl⟩, fun i sz xs _ hx => ⟨xs, hx, rfl, rfl⟩⟩
  exact { same := ⟨hg.os.trans h.same.os, hg.tape.trans h.same.tape, hg.output.trans h.same.output, Nat.le_trans h.same.size hg.size, fun k hk hn => (hg.block k (Nat.lt_of_lt_of_le hk h.same.size) (fun e => by have := (hr k e.symm).1; omega)).trans (h.same.block k hk hn)⟩
          zlt := fun k hk => ⟨Nat.lt_of_lt_of_le (h.zlt k hk).1 hg.size, (h.zlt k hk).2⟩
          llt := fun k l hk => ⟨Nat.lt_of_lt_of_le (h.llt k l hk).1 hg.size, (h.llt k l hk).2⟩
          sz := h.sz, df := h.df, tm := fun i => (h.tm i).move0 hm
          bx := fun i cs hc => by
            obtain ⟨h1, us, ty, h2, h3, h4⟩ := h.bx i cs hc
            exact ⟨h1, us, ty, (cells _ (h.llt _ _ h1).1 (fun o ho => by rw [h2] at ho; cases ho; rfl)).trans h2, h3.move0 hm, h4⟩
          rw := fun i sz xs hx => by
            obtain ⟨h1, h2, h3⟩ := h.rw i sz xs hx
            exact ⟨h1.mono zs (ns i sz xs hx) (fun _ h => h), h2, h3⟩
          pr := h.pr, pb := h.pb
          zi := fun k hk => (h.zi k hk).imp id (fun x => ⟨x.1, x.2.of (zs k hk)⟩) }
def St.keepT (kp : Nat → Bool) (s : St) : St := { t := fun j => if kp j then s.t j else .undef, b := s.b, r := s.r }
theorem Rel.keepT (h : Rel w0 I n L s a w) {kp : Nat → Bool} {b : Act} (hk : zD4 kp b a) (hb : b.tmps.size = n) (hd : b.defers = I.df) : Rel w0 I n L (s.keepT kp) b w := by
  have hm : Moves [] L L w w s (s.keepT kp) := ⟨fun k hk => ⟨hk, rfl⟩, fun i k _ hi hk => ⟨.inr hk, rfl⟩, fun b hb => ⟨hb, rfl⟩, fun i sz xs _ hx => ⟨xs, hx, rfl, rfl⟩⟩
  exact { same := h.same, zlt := h.zlt, llt := h.llt, sz := hb, df := hd
          tm := fun i => by
            simp only [St.keepT]
            split
            · rename_i hi
              rw [← hk i hi]
              exact (h.tm i).move0 hm
            · simp only [AVR]
          bx := fun i cs hc => by
            obtain ⟨h1, us, ty, h2, h3, h4⟩ := h.bx i cs hc
            exact ⟨h1, us, ty, h2, h3.move0 hm, h4⟩
          rw := fun i sz xs hx => h.rw i sz xs hx
          pr := h.pr, pb := h.pb, zi := h.zi }
end
end Go.Rl
namespace Go.Rl
open Go.RowKit Go.Proofs
theorem zKw (zs : List Int) : (pvI zs).flatten = zs.map (fun z => PV.v (.int .i64 z)) := by
 induction zs with
 | nil => rfl
 | cons a l ih => simp only [pvI, List.map_cons, List.flatten_cons] at ih ⊢; rw [ih]; rfl
theorem zO0 {Z : Nat → Prop} {w : World} {gf : Nat} {o : Bool} {zs : List Int} {v : Value} (h : PVR Z w (.clo gf [[.sl o 1 (pvI zs)]]) v) : ∃ Bs, v = .func (.func gf) #[] #[.pointer (some ⟨Bs, 0, none⟩)] ∧ Bw.Reads Bs zs w := by
 cases h with
 | clo f xs ks hl hz u hcell hp =>
  match ks, hl with
  | [k], _ =>
   refine ⟨k, rfl, ?_⟩
   have h1 := hcell 0 0 [.sl o 1 (pvI zs)] k (.sl o 1 (pvI zs)) rfl rfl rfl
   have h2 := hp 0 0 [.sl o 1 (pvI zs)] (.sl o 1 (pvI zs)) rfl rfl
   generalize u 0 0 = x at h1 h2
   have hlen : (pvI zs).length = zs.length := by simp [pvI]
   have hfl : ∀ (j : Nat) (z : Int), zs[j]? = some z → (pvI zs).flatten[j]? = some (.v (.int .i64 z)) := fun j z hj => by
    rw [zKw]
    simp [hj]
   generalize pvI zs = ys at h2 hlen hfl
   cases h2 with
   | emp _ _ A c => exact .inl ⟨⟨A, c, h1⟩, List.length_eq_zero_iff.1 hlen.symm⟩
   | sl _ _ _ k2 off c hle hc hz2 u2 hcell2 hp2 =>
    refine .inr ⟨k2, off, c, by rw [← hlen]; exact h1, fun j z hj => ?_⟩
    have h3 := hfl j z hj
    have hlt := (List.getElem?_eq_some_iff.1 h3).1
    rw [hcell2 j hlt]
    have h4 := hp2 j _ h3
    generalize u2 j = q at h4 ⊢
    cases h4
    rfl
section
variable {γ : Gho} {P : Program} {n : Nat} {w0 : World} {I : Fr} {L : Pl} {a : Act} {w : World}
def zFp (a : Act) (ti tx : Tmp) (zs : List Int) (x : Fin zs.length) : Act := { tmps := (a.tmps.setIfInBounds ti (.int .i64 (x.1 : Int))).setIfInBounds tx (.int .i64 (zs[x.1]'x.2)), defers := [] }
theorem zKY {gf : Nat} (hC : Bw.Contract P gf) (hEn : ∀ (args : Array Value) (w : World), Sem.run P (callFunc gf args) w = .ok (.enter gf args) w) {tf ti tx : Tmp} {assign body : Code} {zs : List Int} {o : Bool} (hz : zs.length ≤ 1000000000)
  (S : List (Fin zs.length) → St) (B : List (Fin zs.length) → Fin zs.length → St) (kp : Nat → Bool) (aL : Act → Act)
  (hG : Gh γ w0 I.I) (hr : Rel w0 I n L (S []) a w) (hdf : I.df = []) (hIZ : ∀ k, I.Z k → k < w0.heap.size)
  (hf : ∀ pre, (S pre).t tf = .p none (.clo gf [[.sl o 1 (pvI zs)]]))
  (hassign : ∀ l nn (a0 : Act) W (K : Act → World → Prop), K (aL a0) W → assign.wpIn (Fw l) nn P (Exit.then K fun _ _ _ => False) a0 W)
  (hB : ∀ pre x L W, Rel w0 I n L (S pre) a W → Rel w0 I n L (B pre x) (aL (zFp a ti tx zs x)) W)
  (hkp : ∀ x, zD4 kp a (aL (zFp a ti tx zs x)))
  (round : ∀ l nn (pre : List (Fin zs.length)) x, pre.length < zs.length → TrI kp l nn γ P n body (B pre x) (fun e s' => e = .normal ∧ Wk n (s'.keepT kp) (S (pre ++ [x]))))
  {Q : Exit → Act → World → Prop}
  (done : ∀ D L W, w.heap.size ≤ D → Rel w0 I n L (S (Bw.upto zs zs.length)) a W → W.heap[D]? = some (.deferred (some [])) → Q .normal { tmps := a.tmps, defers := [{ target := .collected D, args := #[] }] } W) :
  (Code.rangeFunc (.tmp tf) #[ti, tx] assign body).wp P Q a w := by
 have had : a.defers = [] := hr.df.trans hdf
 have read : ∀ {pre L W}, Rel w0 I n L (S pre) a W → ∃ Bs, a.tmps.getD tf undef = .func (.func gf) #[] #[.pointer (some ⟨Bs, 0, none⟩)] ∧ Bw.Reads Bs zs W := fun {pre L W} h => by
  have ht := h.tm tf
  rw [hf pre] at ht
  simp only [AVR] at ht
  exact zO0 ht.1
 obtain ⟨Bs, hv, hR⟩ := read hr
 have readS : ∀ {pre L W}, Rel w0 I n L (S pre) a W → Bw.Reads Bs zs W := fun {pre L W} h => by
  obtain ⟨Bs', h1, h2⟩ := read h
  rw [hv] at h1
  cases h1
  exact h2
 refine (wpIn_wide (n := 6)).1 (wpIn_rangeFunc_ownG (F := Fence.wide) (n := 6) (P := P) (g := .tmp tf) (ps := #[ti, tx]) (a := a) (w := w) rfl (by omega) (gf := gf) (lb := #[.pointer (some ⟨Bs, 0, none⟩)]) hv trivial hEn
  (hC.stops (F := Fence.wide) trivial rfl (by omega) hz hR) (fun h1 h2 h => h2 (h1 h)) ?_ (Below.refl _ _) (fun _ => rfl)
  (fun pre W => ∃ L, Rel w0 I n L (S pre) a W) (fun _ _ _ => False) ?_ ?_ ⟨L, hr⟩ (fun x => aL (zFp a ti tx zs x)) ?_ ?_ ?_ ?_)
 ·
  intro W l o o' _ ho hc _ hR
  have old : ∀ (k j : Nat) v, W.cell? ⟨k, j, none⟩ = some v → (W.putObj l o').cell? ⟨k, j, none⟩ = some v := fun k j v hv => by
   have hne : k ≠ l := fun e => by
    subst e
    cases o with
    | cells => cases hc
    | _ => simp [World.cell?, ho] at hv
   have hlt : k < W.heap.size := by
    cases e : W.heap[k]? with
    | none => simp [World.cell?, e] at hv
    | some o => exact (Array.getElem?_eq_some_iff.1 e).1
   have hb := (grownBy_putObj' W l o').block k hlt (by simpa using hne)
   simpa [World.cell?, hb] using hv
  rcases hR with ⟨⟨A, c, h1⟩, h2⟩ | ⟨b, off, cap, h1, h2⟩
  · exact .inl ⟨⟨A, c, old _ _ _ h1⟩, h2⟩
  · exact .inr ⟨b, off, cap, old _ _ _ h1, fun j z hz => old _ _ _ (h2 j z hz)⟩
 ·
  rintro pre W W' row ⟨L1, h1⟩ hg hrow
  exact ⟨L1, h1.grown hr.same.size (fun k hk => Nat.lt_of_lt_of_le (hIZ k hk) hr.same.size) hg hrow⟩
 ·
  intro c pre W W' row h
  exact h.elim
 ·
  intro l x W K hK
  exact hassign l _ _ W K (by simpa [Bw.enc, zFp] using hK)
 ·
  rintro l pre x W ⟨L1, h1⟩ hlt0
  have h2 := hB pre x L1 W h1
  have hG2 : Gh γ W (I.root L1 W).I := fun k ob e => by
   obtain ⟨g1, g2⟩ := hG k ob e
   have hlt := (Array.getElem?_eq_some_iff.1 g1).1
   refine ⟨(h1.same.block k hlt g2).trans g1, fun hx => ?_⟩
   obtain ⟨l0, h0, _⟩ := zDU hx
   rcases (h1.llt k l0 h0).2 with h3 | h3
   · omega
   · exact g2 h3
  refine wpIn_mono (round l _ pre x hlt0 W (I.root L1 W) (L1.trim W) (aL (zFp a ti tx zs x)) W hG2 h2.root) ?_
  rintro e a' W' ⟨hkk, s', L', ⟨rfl, hw⟩, h3⟩
  have h4 := h2.unroot h3
  have h5 := h4.keepT (kp := kp) (b := a) (zHI (hkp x) hkk) h1.sz h1.df
  obtain ⟨L2, h6⟩ := hw _ _ _ _ _ h5
  refine ⟨⟨h3.same.size, fun k o hB hk hc => ?_⟩, fun _ => readS h6, L2, h6⟩
  have hlt := (Array.getElem?_eq_some_iff.1 hk).1
  exact (h3.same.block k hlt (fun hx => by
   obtain ⟨_, _, c, t, z, hcl⟩ := zDU hx
   rw [hcl] at hk
   cases hk
   cases hc)).trans hk
 ·
  rintro D xs W hD rfl ⟨L1, h1⟩ hK
  have := done D L1 W hD h1 hK
  rw [had]
  exact this
 ·
  rintro D c pre W _ _ h
  exact h.elim
end
end Go.Rl
namespace Go.Rl
open Go.RowKit

mutual
def AV.frz (id sz : Nat) (xs : List (List PV)) : AV → AV
 | .p (some d) x => (match Nat.beq d id with
  | true => .p none x
  | false => .p (some d) x)
 | .sl d lo len => (match Nat.beq d id with
  | true => .p none (.sl false sz ((xs.drop lo).take len))
  | false => .sl d lo len)
 | .ea d i off => (match Nat.beq d id with
  | true => .undef
  | false => .ea d i off)
 | .fea (some d) ps => (match Nat.beq d id with
  | true => .fea none ps
  | false => .fea (some d) ps)
 | .agg cs => .agg (AV.frzs id sz xs cs)
 | .tup cs => .tup (AV.frzs id sz xs cs)
 | x => x
def AV.frzs (id sz : Nat) (xs : List (List PV)) : List AV → List AV
 | [] => []
 | a :: l => AV.frz id sz xs a :: AV.frzs id sz xs l
end
def St.frz (s : St) (id sz : Nat) (xs : List (List PV)) : St := ⟨fun i => (s.t i).frz id sz xs, fun i => (s.b i).map (AV.frzs id sz xs), fun i => match Nat.beq i id with
 | true => none
 | false => s.r i⟩
def Pl.frz (L : Pl) (id : Nat) : Pl := { L with Z := fun k => L.Z k ∨ k ∈ L.ν id, lab := fun k => if k ∈ L.ν id then none else L.lab k }
theorem zGL {a b : Nat} (h : a ≠ b) : Nat.beq a b = false := by
 cases e : Nat.beq a b with
 | false => rfl
 | true => exact absurd (Nat.eq_of_beq_eq_true e) h

section
variable {w0 : World} {I : Fr} {n : Nat} {L : Pl} {s : St} {a : Act} {w : World} {id sz : Nat} {xs : List (List PV)}
theorem zIH {d : Option Nat} (hd : d ≠ some id) : ∀ k, L.zd d k → (L.frz id).zd d k := fun k hk => by
 rcases hk with hk | ⟨i, rfl, hk⟩
 · exact .inl (.inl hk)
 · exact .inr ⟨i, rfl, hk⟩
theorem zOc : ∀ k, L.zd (some id) k → (L.frz id).zd none k := fun k hk => by
 rcases hk with hk | ⟨i, e, hk⟩
 · exact .inl (.inl hk)
 · cases e; exact .inl (.inr (List.mem_of_mem_tail hk))
theorem zNP {i : Nat} (hi : i ≠ id) : (s.frz id sz xs).r i = s.r i := by simp only [St.frz, zGL hi]
mutual
theorem AVR.frz (hr : s.r id = some (sz, xs)) (hp : PVO L.Z w (.sl true sz xs) (L.ρ id) (L.ν id)) : ∀ (av : AV) (v : Value), AVR L w s av v → AVR (L.frz id) w (s.frz id sz xs) (av.frz id sz xs) v
 | .undef, v, _ => by simp [AV.frz, AVR]
 | .p none x, v, hv => by
  simp only [AV.frz, AVR] at hv ⊢
  exact ⟨hv.1.mono (fun _ _ => rfl) (zIH (by simp)), fun _ h => by cases h⟩
 | .p (some d) x, v, hv => by
  by_cases e : d = id
  ·
   subst e
   simp only [AV.frz, Nat.beq_refl, AVR] at hv ⊢
   exact ⟨hv.1.mono (fun _ _ => rfl) zOc, fun _ h => by cases h⟩
  ·
   simp only [AV.frz, zGL e, AVR] at hv ⊢
   refine ⟨hv.1.mono (fun _ _ => rfl) (zIH (by simpa using e)), fun i hi => ?_⟩
   cases hi
   rw [zNP e]
   exact hv.2 d rfl
 | .sl d lo len, v, hv => by
  by_cases e : d = id
  ·
   subst e
   simp only [AV.frz, Nat.beq_refl, AVR] at hv ⊢
   obtain ⟨sz', xs', e1, e2, A, m, c, A', c', e3, rfl, e5, e6, e7⟩ := hv
   rw [hr] at e1
   cases e1
   have hq := hp.toR
   have hm := zIq hq A m c e3
   rw [e3] at hq
   subst hm
   refine ⟨((hq.flag false).cut e2 _ _ e5 (fun hpos => ?_)).mono (fun _ _ => rfl) (fun k hk => .inl hk), fun _ h => by cases h⟩
   obtain ⟨k, rfl, rfl⟩ := e7 hpos
   exact ⟨k, 0, rfl, by rw [Nat.zero_add]⟩
  ·
   simp only [AV.frz, zGL e, AVR] at hv ⊢
   rw [zNP e]
   exact hv
 | .ptr b off, v, hv => by
  simp only [AV.frz, AVR] at hv ⊢
  exact ⟨by simpa [St.frz] using hv.1, hv.2⟩
 | .ea d i off, v, hv => by
  by_cases e : d = id
  ·
   subst e
   simp only [AV.frz, Nat.beq_refl, AVR]
  ·
   simp only [AV.frz, zGL e, AVR] at hv ⊢
   rw [zNP e]
   exact hv
 | .fea none ps, v, hv => by
  simp only [AV.frz, AVR] at hv ⊢
  obtain ⟨⟨k, off, h1, h2, h3⟩, _⟩ := hv
  exact ⟨⟨k, off, h1, zIH (by simp) k h2, fun j p hj => by obtain ⟨u, hu, hq⟩ := h3 j p hj; exact ⟨u, hu, hq.mono (fun _ _ => rfl) (zIH (by simp))⟩⟩, fun _ h => by cases h⟩
 | .fea (some d) ps, v, hv => by
  by_cases e : d = id
  ·
   subst e
   simp only [AV.frz, Nat.beq_refl, AVR] at hv ⊢
   obtain ⟨⟨k, off, h1, h2, h3⟩, _⟩ := hv
   exact ⟨⟨k, off, h1, zOc k h2, fun j p hj => by obtain ⟨u, hu, hq⟩ := h3 j p hj; exact ⟨u, hu, hq.mono (fun _ _ => rfl) zOc⟩⟩, fun _ h => by cases h⟩
  ·
   simp only [AV.frz, zGL e, AVR] at hv ⊢
   obtain ⟨⟨k, off, h1, h2, h3⟩, h4⟩ := hv
   refine ⟨⟨k, off, h1, zIH (by simpa using e) k h2, fun j p hj => by obtain ⟨u, hu, hq⟩ := h3 j p hj; exact ⟨u, hu, hq.mono (fun _ _ => rfl) (zIH (by simpa using e))⟩⟩, fun i hi => ?_⟩
   cases hi
   rw [zNP e]
   exact h4 d rfl
 | .nils, v, hv => by simpa only [AV.frz, AVR] using hv
 | .sat A, v, hv => by simpa only [AV.frz, AVR] using hv
 | .clo f bs, v, hv => by
  simp only [AV.frz, AVR] at hv ⊢
  exact ⟨fun x hx => by simpa [St.frz] using hv.1 x hx, hv.2⟩
 | .agg cs, v, hv => by
  simp only [AV.frz, AVR] at hv ⊢
  obtain ⟨us, h1, h2⟩ := hv
  exact ⟨us, h1, AVRs.frz hr hp cs us h2⟩
 | .tup cs, v, hv => by
  simp only [AV.frz, AVR] at hv ⊢
  obtain ⟨us, h1, h2⟩ := hv
  exact ⟨us, h1, AVRs.frz hr hp cs us h2⟩
theorem AVRs.frz (hr : s.r id = some (sz, xs)) (hp : PVO L.Z w (.sl true sz xs) (L.ρ id) (L.ν id)) : ∀ (l : List AV) (us : List Value), AVRs L w s l us → AVRs (L.frz id) w (s.frz id sz xs) (AV.frzs id sz xs l) us
 | [], [], _ => by simp [AV.frzs, AVRs]
 | [], _ :: _, hv => by simp [AVRs] at hv
 | _ :: _, [], hv => by simp [AVRs] at hv
 | x :: l, u :: us, hv => by
  simp only [AV.frzs, AVRs] at hv ⊢
  exact ⟨AVR.frz hr hp x u hv.1, AVRs.frz hr hp l us hv.2⟩
end
end
theorem wk_frz {n : Nat} {s : St} (id : Nat) {sz : Nat} {xs : List (List PV)} (hr : s.r id = some (sz, xs)) : Wk n s (s.frz id sz xs) := by
 intro w0 I L ac w h
 obtain ⟨hp, hnd, hlab⟩ := h.rw id sz xs hr
 have lab : ∀ {k l}, L.lab k = some l → l ≠ .row id → (L.frz id).lab k = some l := fun {k l} hk hl => by
  simp only [Pl.frz]
  rw [if_neg (fun hx => hl (by rw [hlab k hx] at hk; cases hk; rfl)), hk]
 refine ⟨L.frz id, h.same, fun k hk => ?_, fun k l hk => ?_, h.sz, h.df, fun i => (h.tm i).frz hr hp _ _, fun i cs hc => ?_, fun i sz' xs' hx => ?_, fun i hi hx => ?_, fun i hi hx => h.pb i hi (by simpa [St.frz] using hx), fun k hk => ?_⟩
 ·
  simp only [Pl.frz] at hk ⊢
  rcases hk with hk | hk
  · exact ⟨(h.zlt k hk).1, by split; rfl; exact (h.zlt k hk).2⟩
  · exact ⟨hp.lt k hk, by rw [if_pos hk]⟩
 ·
  simp only [Pl.frz] at hk
  split at hk
  · cases hk
  · exact h.llt k l hk
 ·
  simp only [St.frz, Option.map_eq_some_iff] at hc
  obtain ⟨cs0, h0, rfl⟩ := hc
  obtain ⟨h1, us, ty, h2, h3, h4⟩ := h.bx i cs0 h0
  exact ⟨lab h1 (by simp), us, ty, h2, h3.frz hr hp _ _, h4⟩
 ·
  have hne : i ≠ id := fun e => by subst e; simp [St.frz] at hx
  rw [zNP hne] at hx
  obtain ⟨h1, h2, h3⟩ := h.rw i sz' xs' hx
  exact ⟨h1.up (fun _ h => .inl h), h2, fun k hk => lab (h3 k hk) (by simpa using hne)⟩
 ·
  have hne : i ≠ id := fun e => by subst e; simp [St.frz] at hx
  rw [zNP hne] at hx
  exact h.pr i hi hx
 ·
  simp only [Pl.frz] at hk
  rcases hk with hk | hk
  · exact h.zi k hk
  · exact .inr ⟨(h.llt k _ (hlab k hk)).2, hp.cl k hk⟩
theorem frz_all {sz : Nat} {xs : List (List PV)} : PV.sl false sz ((xs.drop 0).take xs.length) = .sl false sz xs := by simp

mutual
def AV.pvz : AV → Option PV
 | .p none (.v x) => some (.v x)
 | .p none (.sl _ sz xs) => some (.sl false sz xs)
 | .p none (.clo f xs) => some (.clo f xs)
 | _ => none
def AV.pvzs : List AV → Option (List PV)
 | [] => some []
 | a :: l => match a.pvz, AV.pvzs l with
  | some x, some xs => some (x :: xs)
  | _, _ => none
end
theorem pvz_ok {L : Pl} {w : World} {s : St} {av : AV} {p : PV} {v : Value} (h : av.pvz = some p) (hv : AVR L w s av v) : PVR L.Z w p v := by
 have hz : ∀ k, L.zd none k → L.Z k := fun k hk => hk.elim (fun h => h) (fun ⟨_, h, _⟩ => by cases h)
 unfold AV.pvz at h
 split at h
 · cases h; simp only [AVR] at hv; exact hv.1.mono (fun _ _ => rfl) hz
 · cases h; simp only [AVR] at hv; exact (hv.1.flag false).mono (fun _ _ => rfl) hz
 · cases h; simp only [AVR] at hv; exact hv.1.mono (fun _ _ => rfl) hz
 · cases h
theorem zN8 {L : Pl} {w : World} {s : St} : ∀ {l : List AV} {ps : List PV} {us : List Value}, AV.pvzs l = some ps → AVRs L w s l us → ∀ (j : Nat) p, ps[j]? = some p → ∃ u, us[j]? = some u ∧ PVR L.Z w p u
 | [], ps, us, h, hv, j, p, hj => by simp [AV.pvzs] at h; subst h; simp at hj
 | a :: l, ps, us, h, hv, j, p, hj => by
  simp only [AV.pvzs] at h
  split at h
  ·
   rename_i q qs e1 e2
   cases h
   cases us with
   | nil => simp [AVRs] at hv
   | cons u us =>
    simp only [AVRs] at hv
    cases j with
    | zero => simp at hj; subst hj; exact ⟨u, rfl, pvz_ok e1 hv.1⟩
    | succ j => simp at hj; simpa using zN8 e2 hv.2 j p hj
  · cases h
end Go.Rl
namespace Go.Rl
open Go.RowKit

mutual
def AV.frb (b : Nat) (ps : List PV) : AV → AV
 | .ptr c off => (match Nat.beq c b with
  | true => .fea none (ps.drop off)
  | false => .ptr c off)
 | .clo f [c] => (match Nat.beq c b with
  | true => .p none (.clo f [ps])
  | false => .clo f [c])
 | .clo f bs => if b ∈ bs then .undef else .clo f bs
 | .agg cs => .agg (AV.frbs b ps cs)
 | .tup cs => .tup (AV.frbs b ps cs)
 | x => x
def AV.frbs (b : Nat) (ps : List PV) : List AV → List AV
 | [] => []
 | a :: l => AV.frb b ps a :: AV.frbs b ps l
end
def St.frb (s : St) (b : Nat) (ps : List PV) : St := ⟨fun i => (s.t i).frb b ps, fun i => match Nat.beq i b with
 | true => none
 | false => (s.b i).map (AV.frbs b ps), s.r⟩
def Pl.frb (L : Pl) (b : Nat) : Pl := { L with Z := fun k => L.Z k ∨ k = L.β b, lab := fun k => if k = L.β b then none else L.lab k }
section
variable {w0 : World} {I : Fr} {n : Nat} {L : Pl} {s : St} {a : Act} {w : World} {b : Nat} {ps : List PV}
theorem frb_b {i : Nat} (hi : i ≠ b) : (s.frb b ps).b i = (s.b i).map (AV.frbs b ps) := by simp only [St.frb, zGL hi]
theorem zJA {i : Nat} (hi : i ≠ b) (h : (s.b i).isSome) : ((s.frb b ps).b i).isSome := by rw [frb_b hi]; simpa using h
theorem zOg {d : Option Nat} : ∀ k, L.zd d k → (L.frb b).zd d k := fun _ hk => hk.imp .inl (fun h => h)
mutual
theorem AVR.frb (hc : ∀ (j : Nat) p, ps[j]? = some p → ∃ u, w.cell? ⟨L.β b, j, none⟩ = some u ∧ PVR L.Z w p u) : ∀ (av : AV) (v : Value), AVR L w s av v → AVR (L.frb b) w (s.frb b ps) (av.frb b ps) v
 | .undef, v, _ => by simp [AV.frb, AVR]
 | .p d x, v, hv => by
  simp only [AV.frb, AVR] at hv ⊢
  exact ⟨hv.1.mono (fun _ _ => rfl) zOg, hv.2⟩
 | .sl d lo len, v, hv => by
  simp only [AV.frb, AVR] at hv ⊢
  exact hv
 | .ptr c off, v, hv => by
  by_cases e : c = b
  ·
   subst e
   simp only [AV.frb, Nat.beq_refl, AVR] at hv ⊢
   refine ⟨⟨_, off, hv.2, .inl (.inr rfl), fun j p hj => ?_⟩, fun _ h => by cases h⟩
   rw [List.getElem?_drop] at hj
   obtain ⟨u, hu, hq⟩ := hc _ p hj
   exact ⟨u, hu, hq.mono (fun _ _ => rfl) (fun k hk => .inl (.inl hk))⟩
  ·
   simp only [AV.frb, zGL e, AVR] at hv ⊢
   exact ⟨zJA e hv.1, hv.2⟩
 | .ea d i off, v, hv => by
  simp only [AV.frb, AVR] at hv ⊢
  exact hv
 | .fea d qs, v, hv => by
  simp only [AV.frb, AVR] at hv ⊢
  obtain ⟨⟨k, off, h1, h2, h3⟩, h4⟩ := hv
  exact ⟨⟨k, off, h1, zOg k h2, fun j p hj => by obtain ⟨u, hu, hq⟩ := h3 j p hj; exact ⟨u, hu, hq.mono (fun _ _ => rfl) zOg⟩⟩, h4⟩
 | .nils, v, hv => by simpa only [AV.frb, AVR] using hv
 | .sat A, v, hv => by simpa only [AV.frb, AVR] using hv
 | .clo f [], v, hv => by
  simp only [AV.frb, AVR] at hv ⊢
  simpa [AVR] using hv.2
 | .clo f [c], v, hv => by
  by_cases e : c = b
  ·
   subst e
   simp only [AV.frb, Nat.beq_refl, AVR] at hv ⊢
   refine ⟨?_, fun _ h => by cases h⟩
   rw [hv.2]
   refine .clo f [ps] [L.β c] rfl (by simp; exact .inl (.inr rfl)) (fun i j => ((w.cell? ⟨L.β c, j, none⟩).getD undef)) (fun i j es k p h1 h2 h3 => ?_) (fun i j es p h1 h2 => ?_)
   ·
    cases i with
    | zero =>
     simp at h1 h2
     subst h1 h2
     obtain ⟨u, hu, _⟩ := hc j p h3
     rw [hu]; rfl
    | succ i => simp at h1
   ·
    cases i with
    | zero =>
     simp at h1
     subst h1
     obtain ⟨u, hu, hq⟩ := hc j p h2
     rw [hu]
     exact hq.mono (fun _ _ => rfl) (fun k hk => .inl (.inl hk))
    | succ i => simp at h1
  ·
   simp only [AV.frb, zGL e, AVR] at hv ⊢
   exact ⟨fun x hx => by simp at hx; subst hx; exact zJA e (hv.1 x (by simp)), hv.2⟩
 | .clo f (c :: c' :: bs), v, hv => by
  simp only [AV.frb]
  split
  · simp [AVR]
  ·
   rename_i hn
   simp only [AVR] at hv ⊢
   exact ⟨fun x hx => zJA (fun e => hn (e ▸ hx)) (hv.1 x hx), hv.2⟩
 | .agg cs, v, hv => by
  simp only [AV.frb, AVR] at hv ⊢
  obtain ⟨us, h1, h2⟩ := hv
  exact ⟨us, h1, AVRs.frb hc cs us h2⟩
 | .tup cs, v, hv => by
  simp only [AV.frb, AVR] at hv ⊢
  obtain ⟨us, h1, h2⟩ := hv
  exact ⟨us, h1, AVRs.frb hc cs us h2⟩
theorem AVRs.frb (hc : ∀ (j : Nat) p, ps[j]? = some p → ∃ u, w.cell? ⟨L.β b, j, none⟩ = some u ∧ PVR L.Z w p u) : ∀ (l : List AV) (us : List Value), AVRs L w s l us → AVRs (L.frb b) w (s.frb b ps) (AV.frbs b ps l) us
 | [], [], _ => by simp [AV.frbs, AVRs]
 | [], _ :: _, hv => by simp [AVRs] at hv
 | _ :: _, [], hv => by simp [AVRs] at hv
 | x :: l, u :: us, hv => by
  simp only [AV.frbs, AVRs] at hv ⊢
  exact ⟨AVR.frb hc x u hv.1, AVRs.frb hc l us hv.2⟩
end
end
theorem wk_frb {n : Nat} {s : St} (b : Nat) {cs : List AV} {ps : List PV} (hb : s.b b = some cs) (hp : AV.pvzs cs = some ps) : Wk n s (s.frb b ps) := by
 intro w0 I L ac w h
 obtain ⟨hlb, us0, ty0, hheap0, _, _⟩ := h.bx b cs hb
 have hc : ∀ (j : Nat) p, ps[j]? = some p → ∃ u, w.cell? ⟨L.β b, j, none⟩ = some u ∧ PVR L.Z w p u := fun j p hj => by
  obtain ⟨us, h1, h2⟩ := h.box hb
  obtain ⟨u, hu, hq⟩ := zN8 hp h1 j p hj
  exact ⟨u, h2 j u hu, hq⟩
 have lab : ∀ {k l}, L.lab k = some l → l ≠ .box b → (L.frb b).lab k = some l := fun {k l} hk hl => by
  simp only [Pl.frb]
  rw [if_neg (fun hx => hl (by rw [hx, hlb] at hk; cases hk; rfl)), hk]
 refine ⟨L.frb b, h.same, fun k hk => ?_, fun k l hk => ?_, h.sz, h.df, fun i => (h.tm i).frb hc _ _, fun i cs' hc' => ?_, fun i sz' xs' hx => ?_, fun i hi hx => h.pr i hi hx, fun i hi hx => ?_, fun k hk => ?_⟩
 ·
  simp only [Pl.frb] at hk ⊢
  rcases hk with hk | rfl
  · exact ⟨(h.zlt k hk).1, by split; rfl; exact (h.zlt k hk).2⟩
  · exact ⟨(h.llt _ _ hlb).1, by rw [if_pos rfl]⟩
 ·
  simp only [Pl.frb] at hk
  split at hk
  · cases hk
  · exact h.llt k l hk
 ·
  have hne : i ≠ b := fun e => by subst e; simp [St.frb] at hc'
  rw [frb_b hne] at hc'
  obtain ⟨cs0, h0, rfl⟩ := Option.map_eq_some_iff.1 hc'
  obtain ⟨h1, us, ty, h2, h3, h4⟩ := h.bx i cs0 h0
  exact ⟨lab h1 (by simpa using hne), us, ty, h2, h3.frb hc _ _, h4⟩
 ·
  obtain ⟨h1, h2, h3⟩ := h.rw i sz' xs' hx
  exact ⟨h1.up (fun _ h => .inl h), h2, fun k hk => lab (h3 k hk) (by simp)⟩
 ·
  have hne : i ≠ b := fun e => by subst e; simp [St.frb] at hx
  rw [frb_b hne] at hx
  exact h.pb i hi (by simpa using hx)
 ·
  simp only [Pl.frb] at hk
  rcases hk with hk | rfl
  · exact h.zi k hk
  · exact .inr ⟨(h.llt _ _ hlb).2, _, _, _, hheap0⟩

def ConS (P : Program) (f : FuncId) (args : List PA) (res : List PA) : Prop :=
 ∀ Z w vs E, PASs Z w args vs E → (∀ k, Z k → k < w.heap.size ∧ k ∉ Leaf.all E) → (Leaf.all E).Nodup → (∀ k ∈ Leaf.all E, k < w.heap.size) → Calls P f ⟨vs⟩ w fun e w' => ∃ v F Z', e = .returned v ∧ Same (Leaf.all E) w w' ∧
  RES Z' w' res v F ∧ (Leaf.all F).Nodup ∧ (∀ k ∈ Leaf.all F, w.heap.size ≤ k ∨ k ∈ Leaf.all E) ∧ (∀ k, Z k → Z' k) ∧ ∀ k, Z' k → k < w'.heap.size ∧ k ∉ Leaf.all F ∧ (Z k ∨ ((w.heap.size ≤ k ∨ k ∈ Leaf.all E) ∧ Cl w' k))

inductive GvS (s : St) : AV → PV → List Nat → Prop where
 | of {av : AV} {p : PV} {K : List Nat} (g : Gv s av p K) : GvS s av p K
 | nilf (sz : Nat) : GvS s .nils (.sl false sz []) []
inductive GvSs (s : St) : List AV → List PV → List Nat → Prop where
 | nil : GvSs s [] [] []
 | cons {a : AV} {p : PV} {K : List Nat} {l : List AV} {ps : List PV} {K' : List Nat} (h : GvS s a p K) (t : GvSs s l ps K') : GvSs s (a :: l) (p :: ps) (K ++ K')
inductive GPaS (s : St) : AV → PA → List Nat → Prop where
 | one {av : AV} {p : PV} {K : List Nat} (g : GvS s av p K) : GPaS s av (.one p) K
 | agg {cs : List AV} {ps : List PV} {K : List Nat} (g : GvSs s cs ps K) : GPaS s (.agg cs) (.agg ps) K
inductive GPasS (s : St) : List AV → List PA → List Nat → Prop where
 | nil : GPasS s [] [] []
 | cons {av : AV} {p : PA} {K : List Nat} {avs : List AV} {ps : List PA} {K' : List Nat} (h : GPaS s av p K) (t : GPasS s avs ps K') : GPasS s (av :: avs) (p :: ps) (K ++ K')
def EndsS (P : Program) (rs : List ResultVar) (res : List PA) (s : St) : Prop :=
 ∃ avs K, RvAs P s rs avs ∧ GPasS s avs res K ∧ K.Nodup
def RetS (P : Program) (rs : List ResultVar) (res : List PA) : Exit → St → Prop
 | .normal, s => EndsS P rs res s
 | .ret, s => EndsS P rs res s
 | _, _ => False
section
variable {w0 : World} {I : Fr} {n : Nat} {L : Pl} {s : St} {a : Act} {w : World}
theorem Gv.ps (h : Rel w0 I n L s a w) {av : AV} {p : PV} {K : List Nat} (g : Gv s av p K) {v : Value} (hv : AVR L w s av v) : ∃ F, PS L.Z w p v F ∧ Leaf.all F = K.flatMap L.ν := by
 have := g.ok h hv
 cases p with
 | v x =>
  have hK : K = [] := by cases g; rfl
  subst hK
  exact ⟨[], .nf rfl (by simpa using this), rfl⟩
 | sl o sz xs =>
  cases o with
  | true => exact ⟨_, .own this, by simp [Leaf.all]⟩
  | false =>
   have hK : K = [] := by cases g; rfl
   subst hK
   exact ⟨[], .nf rfl (by simpa using this), rfl⟩
 | clo f xs =>
  have hK : K = [] := by cases g; rfl
  subst hK
  exact ⟨[], .nf rfl (by simpa using this), rfl⟩
theorem GvS.ps (h : Rel w0 I n L s a w) {av : AV} {p : PV} {K : List Nat} (g : GvS s av p K) {v : Value} (hv : AVR L w s av v) : ∃ F, PS L.Z w p v F ∧ Leaf.all F = K.flatMap L.ν := by
 cases g with
 | of g => exact g.ps h hv
 | nilf sz =>
  simp only [AVR] at hv
  obtain ⟨A, rfl⟩ := hv
  exact ⟨[], .nf rfl (.fro _ _ _ (.emp _ _ _ _)), rfl⟩
theorem GPaS.ok (h : Rel w0 I n L s a w) {av : AV} {p : PA} {K : List Nat} (g : GPaS s av p K) {v : Value} (hv : AVR L w s av v) : ∃ F, PAS L.Z w p v F ∧ Leaf.all F = K.flatMap L.ν := by
 cases g with
 | one g =>
  obtain ⟨F, h1, h2⟩ := g.ps h hv
  exact ⟨F, .one h1, h2⟩
 | agg g =>
  rename_i cs ps
  simp only [AVR] at hv
  obtain ⟨us, rfl, hv⟩ := hv
  have : ∀ {cs ps K us}, GvSs s cs ps K → AVRs L w s cs us → ∃ F, PSs L.Z w ps us F ∧ Leaf.all F = K.flatMap L.ν := fun {cs ps K us} g => by
   induction g generalizing us with
   | nil =>
    intro hv
    cases us with
    | nil => exact ⟨[], .nil, rfl⟩
    | cons _ _ => simp [AVRs] at hv
   | cons g _ ih =>
    intro hv
    cases us with
    | nil => simp [AVRs] at hv
    | cons u us =>
     simp only [AVRs] at hv
     obtain ⟨F, h1, h2⟩ := g.ps h hv.1
     obtain ⟨F', h3, h4⟩ := ih hv.2
     exact ⟨F ++ F', .cons h1 h3, by simp only [Leaf.all, List.flatMap_append] at h2 h4 ⊢; rw [h2, h4]⟩
  obtain ⟨F, h1, h2⟩ := this g hv
  exact ⟨F, .agg h1, h2⟩
theorem GPasS.ok (h : Rel w0 I n L s a w) {avs : List AV} {ps : List PA} {K : List Nat} (g : GPasS s avs ps K) : ∀ {us : List Value} (_ : AVRs L w s avs us), ∃ F, PASs L.Z w ps us F ∧ Leaf.all F = K.flatMap L.ν := by
 induction g with
 | nil =>
  intro us hv
  cases us with
  | nil => exact ⟨[], .nil, rfl⟩
  | cons _ _ => simp [AVRs] at hv
 | cons g _ ih =>
  intro us hv
  cases us with
  | nil => simp [AVRs] at hv
  | cons u us =>
   simp only [AVRs] at hv
   obtain ⟨F, h1, h2⟩ := g.ok h hv.1
   obtain ⟨F', h3, h4⟩ := ih hv.2
   exact ⟨F ++ F', .cons h1 h3, by simp only [Leaf.all, List.flatMap_append] at h2 h4 ⊢; rw [h2, h4]⟩
theorem Gv.rows {av : AV} {p : PV} {K : List Nat} (g : Gv s av p K) : ∀ i ∈ K, (s.r i).isSome := by
 intro i hi
 cases g with
 | row hr hl => simp at hi; subst hi; rw [hr]; rfl
 | pre hr hl hn => simp at hi; subst hi; rw [hr]; rfl
 | _ => simp at hi
theorem GvS.rows {av : AV} {p : PV} {K : List Nat} (g : GvS s av p K) : ∀ i ∈ K, (s.r i).isSome := by
 cases g with
 | of g => exact g.rows
 | nilf sz => simp
theorem GvSs.rows {l : List AV} {ps : List PV} {K : List Nat} (g : GvSs s l ps K) : ∀ i ∈ K, (s.r i).isSome := by
 induction g with
 | nil => simp
 | cons g _ ih =>
  intro i hi
  rcases List.mem_append.1 hi with hi | hi
  · exact g.rows i hi
  · exact ih i hi
theorem GPasS.rows {avs : List AV} {ps : List PA} {K : List Nat} (g : GPasS s avs ps K) : ∀ i ∈ K, (s.r i).isSome := by
 induction g with
 | nil => simp
 | cons g _ ih =>
  intro i hi
  rcases List.mem_append.1 hi with hi | hi
  ·
   cases g with
   | one g => exact g.rows i hi
   | agg g => exact g.rows i hi
  · exact ih i hi
end
end Go.Rl
namespace Go.Rl
open Go.RowKit
theorem zNV {P : Program} {f : FuncId} {fn : Func} {c : Code} {rs : List ResultVar} {args : List PA} {res : List PA} (hf : P.funcs[f]? = some fn) (hb : fn.body = some c) (hrs : fn.results = rs.toArray) (hn' : Nat.ble args.length fn.ntmps = true) (hsz' : args.all (fun p => Nat.ble p.size pinT) = true)
  (h : Tr none P fn.ntmps c (zFC args) (RetS P rs res)) : ConS P f args res := by
 intro Z w vs E hp hZ hnd hlt
 have hn : args.length ≤ fn.ntmps := Nat.le_of_ble_eq_true hn'
 have hsz : ∀ p ∈ args, p.size ≤ pinT := fun p hp => Nat.le_of_ble_eq_true ((List.all_eq_true.1 hsz') p hp)
 refine calls_of_wp hf hb ?_
 have hlen : vs.length = args.length := by
  clear h hn hsz hn' hsz' hZ hnd hlt
  induction hp with
  | nil => rfl
  | cons _ _ ih => simp [ih]
 have hown0 := zIv (step := fun _ => pinT) args pinT hsz
 have hpins : PinE (mkρ (owns (fun _ => pinT) pinT args) E) (owns (fun _ => pinT) pinT args) E := zMP hown0.1
 let I : Fr := ⟨Leaf.all E, mkρ (owns (fun _ => pinT) pinT args) E, fun _ => 0, Z, []⟩
 let a : Act := { tmps := (⟨vs⟩ : Array Value) ++ Array.replicate (fn.ntmps - (⟨vs⟩ : Array Value).size) undef, defers := [] }
 let L0 : Pl := ⟨Z, fun _ => 0, fun _ => undef, fun _ => [], fun _ => none⟩
 have hasz : a.tmps.size = fn.ntmps := by simp [a]; omega
 have h0 : Rel w I fn.ntmps L0 ⟨fun _ => .undef, fun _ => none, fun _ => none⟩ a w :=
  ⟨Same.refl _ w, fun k hk => ⟨(hZ k hk).1, rfl⟩, fun k l hk => by simp [L0] at hk, hasz, rfl, fun i => by simp [AVR], fun i cs hc => by simp at hc, fun i sz xs hx => by simp at hx, fun i _ hx => by simp at hx, fun i _ hx => by simp at hx, fun k hk => .inl hk⟩
 obtain ⟨L1, t1, a1⟩ := zLp (step := fun _ => pinT) (id := pinT) h0 (vs := vs) (F := E) hp (fun k hk => ⟨rfl, fun hz => (hZ k hz).2 hk, .inr hk⟩) hnd hsz (fun _ _ _ => rfl) (.inr hpins)
 have h1 : Rel w I fn.ntmps L1 (zFC args) a w := by
  refine ⟨t1.rel.same, t1.rel.zlt, t1.rel.llt, hasz, rfl, fun i => ?_, fun i cs hc => by simp [zFC] at hc, fun i sz xs hx => t1.rel.rw i sz xs hx, t1.rel.pr, t1.rel.pb, t1.rel.zi⟩
  have hmv : Moves [] L1 L1 w w { t := fun _ => .undef, b := fun _ => none, r := zBj (fun _ => none) (zC0 (fun _ => pinT) pinT args) } (zFC args) := ⟨fun k hk => ⟨hk, rfl⟩, fun _ k _ _ hk => ⟨.inr hk, rfl⟩, fun b hb => ⟨hb, rfl⟩, fun i sz xs _ hx => ⟨xs, hx, rfl, rfl⟩⟩
  simp only [zFC]
  rw [zI4]
  cases hi : (pAVs (fun _ => pinT) pinT args)[i]? with
  | none => simp [AVR]
  | some av =>
   obtain ⟨u, hu, hr⟩ := a1.get i av hi
   have hui : a.tmps.getD i undef = u := by
    have hlt := (List.getElem?_eq_some_iff.1 hu).1
    have : a.tmps[i]? = some u := by
     simp only [a]
     rw [Array.getElem?_append_left (by simpa using hlt)]
     simpa using hu
    simp [this]
   rw [hui]
   exact hr.move0 hmv
 refine wp_mono (h w I L1 a w (zHL _ _) h1) (fun e a' w' ⟨s', L', hq, hr⟩ => ?_)
 have fin : EndsS P rs res s' → a'.defers = [] ∧ ∃ v, (results fn a'.tmps).run P w' = .ok v w' ∧ ∃ v' F Z', Ending.returned v = .returned v' ∧ Same (Leaf.all E) w w' ∧
   RES Z' w' res v' F ∧ (Leaf.all F).Nodup ∧ (∀ k ∈ Leaf.all F, w.heap.size ≤ k ∨ k ∈ Leaf.all E) ∧ (∀ k, Z k → Z' k) ∧ ∀ k, Z' k → k < w'.heap.size ∧ k ∉ Leaf.all F ∧ (Z k ∨ ((w.heap.size ≤ k ∨ k ∈ Leaf.all E) ∧ Cl w' k)) := by
  rintro ⟨avs, K, hrv, hg, hKn⟩
  obtain ⟨us, hrun, hav⟩ := hrv.ok hr
  obtain ⟨F, hF, hFK⟩ := hg.ok hr hav
  have hrl := hF.length
  have hres := zE5 hrs hrun
  have hfk : ∀ k ∈ Leaf.all F, ∃ j ∈ K, L'.lab k = some (.row j) := fun k hk => by
   rw [hFK] at hk
   exact (hr.nodup hKn hg.rows).2 k hk
  refine ⟨hr.df, _, hres, _, F, fun k => Z k ∨ L'.Z k, rfl, hr.same, ?_, by rw [hFK]; exact (hr.nodup hKn hg.rows).1, fun k hk => ?_, fun k hk => .inl hk, fun k hk => ?_⟩
  ·
   refine RES.up (Z := L'.Z) ?_ (fun _ h => .inr h)
   split
   ·
    rename_i h1
    cases hF with
    | nil => simp at h1
    | cons hF1 hF2 =>
     cases hF2 with
     | nil => rw [List.append_nil]; exact .one hF1
     | cons _ _ => simp at h1
   ·
    rename_i h1
    exact .more (by rw [hrl]; exact h1) hF
  ·
   obtain ⟨j, _, hl⟩ := hfk k hk
   exact (hr.llt k _ hl).2
  ·
   rcases hk with hk | hk
   ·
    refine ⟨Nat.lt_of_lt_of_le (hZ k hk).1 hr.same.size, fun hx => ?_, .inl hk⟩
    obtain ⟨j, _, hl⟩ := hfk k hx
    rcases (hr.llt k _ hl).2 with h2 | h2
    · have := (hZ k hk).1; omega
    · exact (hZ k hk).2 h2
   ·
    refine ⟨(hr.zlt k hk).1, fun hx => ?_, hr.zi k hk⟩
    obtain ⟨j, _, hl⟩ := hfk k hx
    rw [(hr.zlt k hk).2] at hl
    cases hl
 cases e with
 | normal => exact fin hq
 | ret => exact fin hq
 | _ => exact hq.elim

inductive CellZ (s : St) : AV → PV → List Nat → Prop where
 | v {d : Option Nat} {x : Value} : CellZ s (.p d (.v x)) (.v x) []
 | sl {o : Bool} {sz : Nat} {xs : List (List PV)} : CellZ s (.p none (.sl o sz xs)) (.sl false sz xs) []
 | cl {f : Nat} {xs : List (List PV)} : CellZ s (.p none (.clo f xs)) (.clo f xs) []
 | nil (sz : Nat) : CellZ s .nils (.sl false sz []) []
 | own {id len sz : Nat} {xs : List (List PV)} (hr : s.r id = some (sz, xs)) (hl : len = xs.length) : CellZ s (.sl id 0 len) (.sl true sz xs) [id]
inductive CellZs (s : St) : List AV → List PV → List Nat → Prop where
 | nil : CellZs s [] [] []
 | cons {av : AV} {p : PV} {K : List Nat} {l : List AV} {ps : List PV} {K' : List Nat} (h : CellZ s av p K) (t : CellZs s l ps K') : CellZs s (av :: l) (p :: ps) (K ++ K')
inductive ArgZ (s : St) : AV → PA → List Nat → Prop where
 | one {av : AV} {p : PV} {K : List Nat} (h : CellZ s av p K) : ArgZ s av (.one p) K
 | agg {cs : List AV} {ps : List PV} {K : List Nat} (h : CellZs s cs ps K) : ArgZ s (.agg cs) (.agg ps) K
 | fea {ps : List PV} : ArgZ s (.fea none ps) (.fbox ps) []
 | rptr {id sz : Nat} {ps : List PV} (hr : s.r id = some (sz, [ps])) : ArgZ s (.ea id 0 0) (.rptr sz ps) [id]
inductive ArgZs (s : St) : List AV → List PA → List Nat → Prop where
 | nil : ArgZs s [] [] []
 | cons {av : AV} {p : PA} {K : List Nat} {l : List AV} {ps : List PA} {K' : List Nat} (h : ArgZ s av p K) (t : ArgZs s l ps K') : ArgZs s (av :: l) (p :: ps) (K ++ K')
theorem CellZ.mono {s s' : St} (h : Less s s') {av : AV} {p : PV} {K : List Nat} (g : CellZ s av p K) : CellZ s' av p K := by
 cases g with
 | v => exact .v
 | sl => exact .sl
 | cl => exact .cl
 | nil sz => exact .nil sz
 | own hr hl => exact .own (h.r _ _ hr) hl
theorem CellZs.mono {s s' : St} (h : Less s s') {l : List AV} {ps : List PV} {K : List Nat} (g : CellZs s l ps K) : CellZs s' l ps K := by
 induction g with
 | nil => exact .nil
 | cons g _ ih => exact .cons (g.mono h) ih
theorem ArgZs.mono {s s' : St} (h : Less s s') {l : List AV} {ps : List PA} {K : List Nat} (g : ArgZs s l ps K) : ArgZs s' l ps K := by
 induction g with
 | nil => exact .nil
 | cons g _ ih =>
  refine .cons ?_ ih
  cases g with
  | one g => exact .one (g.mono h)
  | agg g => exact .agg (g.mono h)
  | fea => exact .fea
  | rptr hr => exact .rptr (h.r _ _ hr)
section
variable {w0 : World} {I : Fr} {n : Nat} {L : Pl} {s : St} {a : Act} {w : World}
theorem zIY : ∀ k, L.zd none k → L.Z k := fun k hk => hk.elim (fun h => h) (fun ⟨_, h, _⟩ => by cases h)
theorem CellZ.ok (h : Rel w0 I n L s a w) {av : AV} {p : PV} {K : List Nat} (g : CellZ s av p K) {v : Value} (hv : AVR L w s av v) : PS L.Z w p v (K.map (lf L s)) := by
 cases g with
 | v => simp only [AVR] at hv; have h1 := hv.1; cases h1; exact .nf rfl (.v _ ‹_›)
 | sl => simp only [AVR] at hv; exact .nf rfl (((hv.1.flag false).mono (fun _ _ => rfl) zIY).nfO rfl)
 | cl => simp only [AVR] at hv; exact .nf rfl ((hv.1.mono (fun _ _ => rfl) zIY).nfO rfl)
 | nil sz => simp only [AVR] at hv; obtain ⟨A, rfl⟩ := hv; exact .nf rfl (.fro _ _ _ (.emp _ _ _ _))
 | own hr hl =>
  rename_i id len sz xs
  simp only [AVR] at hv
  obtain ⟨sz', xs', e1, e2, e3⟩ := hv
  rw [hr] at e1
  cases e1
  have hp := (h.rw _ _ _ hr).1
  have := zFr e3 (fun A n c e => (zCu hp A n c e).trans hl.symm)
  subst this
  have hs : lf L s id = ⟨L.ρ id, L.ν id, sz⟩ := by simp [lf, hr]
  simp only [List.map_cons, List.map_nil, hs]
  exact .own hp
theorem CellZs.ok (h : Rel w0 I n L s a w) {l : List AV} {ps : List PV} {K : List Nat} (g : CellZs s l ps K) : ∀ {us : List Value} (_ : AVRs L w s l us), PSs L.Z w ps us (K.map (lf L s)) := by
 induction g with
 | nil =>
  intro us hv
  cases us with
  | nil => exact .nil
  | cons _ _ => simp [AVRs] at hv
 | cons g _ ih =>
  intro us hv
  cases us with
  | nil => simp [AVRs] at hv
  | cons u us =>
   simp only [AVRs] at hv
   rw [List.map_append]
   exact .cons (g.ok h hv.1) (ih hv.2)
theorem ArgZs.ok (h : Rel w0 I n L s a w) {l : List AV} {ps : List PA} {K : List Nat} (g : ArgZs s l ps K) : ∀ {us : List Value} (_ : AVRs L w s l us), PASs L.Z w ps us (K.map (lf L s)) := by
 induction g with
 | nil =>
  intro us hv
  cases us with
  | nil => exact .nil
  | cons _ _ => simp [AVRs] at hv
 | cons g _ ih =>
  intro us hv
  cases us with
  | nil => simp [AVRs] at hv
  | cons u us =>
   simp only [AVRs] at hv
   rw [List.map_append]
   refine .cons ?_ (ih hv.2)
   have h1 := hv.1
   cases g with
   | one g => exact .one (g.ok h h1)
   | agg g =>
    simp only [AVR] at h1
    obtain ⟨us, rfl, h1⟩ := h1
    exact .agg (g.ok h h1)
   | fea =>
    simp only [AVR] at h1
    obtain ⟨⟨k, off, rfl, hk, hc⟩, _⟩ := h1
    exact .fbox (zIY k hk) (fun j p hj => by obtain ⟨u, hu, hq⟩ := hc j p hj; exact ⟨u, hu, hq.mono (fun _ _ => rfl) zIY⟩)
   | rptr hr =>
    rename_i id sz ps
    simp only [AVR] at h1
    obtain ⟨sz', xs', k, m, c, e1, e2, e3, rfl⟩ := h1
    rw [hr] at e1
    cases e1
    have hp := (h.rw _ _ _ hr).1
    have hm := zCu hp _ _ _ e3
    simp only [List.length_cons, List.length_nil] at hm
    subst hm
    have hs : lf L s id = ⟨L.ρ id, L.ν id, sz⟩ := by simp [lf, hr]
    simp only [List.map_cons, List.map_nil, hs, Nat.zero_mul, Nat.add_zero]
    rw [e3] at hp ⊢
    exact .rptr hp
theorem Rel.widen (h : Rel w0 I n L s a w) (Z2 : Nat → Prop) (hz : ∀ k, Z2 k → k < w.heap.size ∧ L.lab k = none ∧ (I.Z k ∨ ((w0.heap.size ≤ k ∨ k ∈ I.I) ∧ Cl w k))) : Rel w0 I n { L with Z := fun k => L.Z k ∨ Z2 k } s a w := by
 have hm : Moves [] L { L with Z := fun k => L.Z k ∨ Z2 k } w w s s := ⟨fun k hk => ⟨.inl hk, rfl⟩, fun _ k _ _ hk => ⟨.inr hk, rfl⟩, fun b hb => ⟨hb, rfl⟩, fun i sz xs _ hx => ⟨xs, hx, rfl, rfl⟩⟩
 refine ⟨h.same, fun k hk => hk.elim (h.zlt k) (fun hk => ⟨(hz k hk).1, (hz k hk).2.1⟩), h.llt, h.sz, h.df, fun i => (h.tm i).move0 hm, fun i cs hc => ?_, fun i sz xs hx => ?_, h.pr, h.pb, fun k hk => hk.elim (h.zi k) (fun hk => (hz k hk).2.2)⟩
 ·
  obtain ⟨h1, us, ty, h2, h3, h4⟩ := h.bx i cs hc
  exact ⟨h1, us, ty, h2, h3.move0 hm, h4⟩
 ·
  obtain ⟨h1, h2, h3⟩ := h.rw i sz xs hx
  exact ⟨h1.up (fun _ h => .inl h), h2, h3⟩
end
section
variable {γ : Gho} {P : Program} {n : Nat} {o : Oper} {M B : List Nat} {s : St}
theorem zLu {x : Operand} {args : List Operand} {ats : Array TypeId} (ho : o.op = .call { callee := .value x, args := args.toArray, argTypes := ats }) (rid : Nat) {f : FuncId} {pas : List PA} {X : List Nat} {res : List PA} {d : Option Nat}
  (hE : ∀ xs w, (callFunc f xs).run P w = .ok (.enter f xs) w) (hx : s.ev x = .p d (.clo f [])) (ha : ArgZs (s.only M B) (args.map s.ev) pas X) (hXn : X.Nodup) (hXM : ∀ i ∈ X, ((s.only M B).r i).isSome = true) (hcon : ConS P f pas res)
  (hf' : zII s M rid (zD1 PA.size res) = true) (hpin : rid + zD1 PA.size res ≤ pinT) : StepD γ P n o M B s { put := zN7 rid res, kill := X, setR := zC0 PA.size rid res } := by
 intro s' ag hd w0 I L a w hG hr KK Q hK
 have hf := zOd hf'
 have hon := zOL ag
 rw [← hon] at ha hXM
 have hl := zJn s' M B
 have hX : ∀ i ∈ X, (s'.r i).isSome := fun i hi => by
  obtain ⟨y, hy⟩ := Option.isSome_iff_exists.1 (hXM i hi)
  rw [hl.r i y hy]; rfl
 have hev : args.map s'.ev = args.map s.ev := List.map_congr_left (fun y hy => ag.ev1 ho (by simp [Op.operands, Call.operands, hy]))
 have hxv := hr.ev x
 rw [ag.ev1 ho (by simp [Op.operands, Call.operands]), hx] at hxv
 have e1 : a.eval x = .func (.func f) #[] ⟨[]⟩ := by
  simp only [AVR] at hxv
  generalize a.eval x = u at hxv
  obtain ⟨hq, _⟩ := hxv
  cases hq with
  | clo _ _ ks hl _ _ _ _ =>
   cases ks with
   | nil => rfl
   | cons _ _ => simp at hl
 have e3 := (ha.mono hl).ok hr (by rw [← hev]; exact zOj hr args)
 have hall : Leaf.all (X.map (lf L s')) = X.flatMap L.ν := by simp [Leaf.all, List.flatMap_map, lf]
 obtain ⟨hnd, hlab⟩ := hr.nodup hXn hX
 unfold Oper.wp
 rw [zLz ho e1 hE, Oper.upon_enter, List.append_nil]
 refine (hcon L.Z w _ _ e3 (fun k hk => ⟨(hr.zlt k hk).1, fun hx => by rw [hall] at hx; obtain ⟨i, _, hl⟩ := hlab k hx; rw [(hr.zlt k hk).2] at hl; cases hl⟩) (by rw [hall]; exact hnd) (fun k hk => by rw [hall] at hk; obtain ⟨i, _, hl⟩ := hlab k hk; exact (hr.llt k _ hl).1)).mono (fun e w' hp => ?_)
 obtain ⟨v, F, Z', rfl, hsame, hres, hFn, hFk, hZZ, hZ'⟩ := hp
 rw [hall] at hsame hFk hZ'
 have hc1 := hr.call1 X [] (fun i hi => hX i (by simpa using hi)) (r' := (s'.kill X).r) (by simpa using hsame) (fun i sz xs' hi => by
  simp only [St.kill] at hi
  split at hi
  · cases hi
  ·
   rename_i hn
   exact .inl ⟨hi, hn, by simp⟩) (fun i sz xs hn hi => ⟨xs, by simp only [St.kill]; rw [if_neg hn]; exact hi⟩)
 have hlabn : ∀ k, (w.heap.size ≤ k ∨ k ∈ X.flatMap L.ν) → (if k ∈ X.flatMap L.ν then none else L.lab k) = none := fun k hk => by
  split
  · rfl
  ·
   rename_i hn
   rcases hk with hk | hk
   ·
    cases e : L.lab k with
    | none => rfl
    | some l => have := (hr.llt k l e).1; omega
   · exact absurd hk hn
 have hIw : ∀ k, (w.heap.size ≤ k ∨ k ∈ X.flatMap L.ν) → w0.heap.size ≤ k ∨ k ∈ I.I := fun k hk => by
  rcases hk with hk | hk
  · exact .inl (Nat.le_trans hr.same.size hk)
  ·
   obtain ⟨i, _, hl⟩ := hlab k hk
   exact (hr.llt k _ hl).2
 have hc2 := hc1.widen Z' (fun k hk => by
  obtain ⟨g1, g2, g3⟩ := hZ' k hk
  rcases g3 with g3 | ⟨g3, hcl⟩
  ·
   refine ⟨g1, ?_, (hr.zi k g3).imp id (fun h2 => ⟨h2.1, h2.2.of (hsame.block k (hr.zlt k g3).1 (fun hx => by obtain ⟨i, _, hl⟩ := hlab k hx; rw [(hr.zlt k g3).2] at hl; cases hl))⟩)⟩
   have := (hr.zlt k g3).2
   simp only [this, ite_self]
  · exact ⟨g1, hlabn k g3, .inr ⟨hIw k g3, hcl⟩⟩)
 have hfr : ∀ i, rid ≤ i → i < rid + zD1 PA.size res → s'.r i = none := fun i h1 h2 => by
  obtain ⟨h3, h4⟩ := hf.get i h1 h2
  exact (ag.m i h3).trans h4
 obtain ⟨L', hrel, hav⟩ := takeR (id := rid) hc2 (hres.up (fun _ h => .inr h)) (fun k hk => by
  refine ⟨hlabn k (hFk k hk), fun hz => ?_, hIw k (hFk k hk)⟩
  rcases hz with hz | hz
  · exact (hZ' k (hZZ k hz)).2.1 hk
  · exact (hZ' k hz).2.1 hk) hFn (fun i h1 h2 => by
  simp only [St.kill]
  split
  · rfl
  · exact hfr i h1 h2) hpin
 have hfin := hrel.put hd hav
 exact hK _ _ _ (by rw [Dl.app, zDk]; exact hfin)
end
theorem endsS {P : Program} {s : St} {rs : List ResultVar} {res : List PA} (avs : List AV) (K : List Nat) (h1 : RvAs P s rs avs) (h2 : GPasS s avs res K) (h3 : K.Nodup) : RetS P rs res .ret s := ⟨avs, K, h1, h2, h3⟩
end Go.Rl
namespace Go.Rl
open Go.RowKit
def InE (E : List Leaf) (outs : List (Option (List (List PV)))) (k : Nat) : Prop := ∃ (i : Nat) (lf : Leaf), E[i]? = some lf ∧ k ∈ lf.N ∧ ∀ xs', outs[i]? = some (some xs') → k ∈ lf.N.tail
def ConSG (γ : Gho) (P : Program) (f : FuncId) (args : List PA) (outs : List (Option (List (List PV)))) (res : List PA) : Prop :=
 ∀ Z w vs E, Gh γ w (Leaf.all E) → PASs Z w args vs E → (∀ k, Z k → k < w.heap.size ∧ k ∉ Leaf.all E) → (Leaf.all E).Nodup → (∀ k ∈ Leaf.all E, k < w.heap.size) → Calls P f ⟨vs⟩ w fun e w' => ∃ v F Z', e = .returned v ∧ Same (Leaf.all E) w w' ∧
  (∀ (i : Nat) lf xs', E[i]? = some lf → outs[i]? = some (some xs') → FlatP xs' ∧ ∃ N, PVO no w' (.sl true lf.sz xs') lf.v N) ∧
  RES Z' w' res v F ∧ (Leaf.all F).Nodup ∧ (∀ k ∈ Leaf.all F, w.heap.size ≤ k ∨ InE E outs k) ∧ (∀ k, Z k → Z' k) ∧ ∀ k, Z' k → k < w'.heap.size ∧ k ∉ Leaf.all F ∧ (Z k ∨ ((w.heap.size ≤ k ∨ InE E outs k) ∧ Cl w' k))
def zPH (P : Program) (rs : List ResultVar) (args : List PA) (outs : List (Option (List (List PV)))) (res : List PA) (s : St) : Prop :=
 ∃ avs K, RvAs P s rs avs ∧ GPasS s avs res K ∧ K.Nodup ∧ OutsOk s K (owns (fun _ => pinT) pinT args) outs
def RetSG (P : Program) (rs : List ResultVar) (args : List PA) (outs : List (Option (List (List PV)))) (res : List PA) : Exit → St → Prop
 | .normal, s => zPH P rs args outs res s
 | .ret, s => zPH P rs args outs res s
 | _, _ => False
theorem endsSG {P : Program} {s : St} {rs : List ResultVar} {args : List PA} {outs : List (Option (List (List PV)))} {res : List PA} (avs : List AV) (K : List Nat) (h1 : RvAs P s rs avs) (h2 : GPasS s avs res K) (h3 : K.Nodup) (h4 : OutsOk s K (owns (fun _ => pinT) pinT args) outs) : RetSG P rs args outs res .ret s := ⟨avs, K, h1, h2, h3, h4⟩
section
variable {γ : Gho} {P : Program} {n : Nat} {o : Oper} {M B : List Nat} {s : St}
end
end Go.Rl
namespace Go.Rl
open Go.RowKit
theorem zI5 {F : Fence} {n : Nat} {P : Program} {fn : Func} {tmps : Array Value} {R : Ending → World → Prop} {w : World} {v : Value} (hv : Sem.run P (results fn tmps) w = .ok v w) (hR : R (.returned v) w) : LeavesInM F n P fn tmps R [] .returning w := by
 unfold LeavesInM LeavesIn
 exact ⟨v, hv, hR⟩
theorem zOW {F : Fence} {n : Nat} {P : Program} {fn : Func} {tmps : Array Value} {R : Ending → World → Prop} {w : World} {D : Nat} (hK : w.heap[D]? = some (.deferred (some []))) (h : LeavesInM F n P fn tmps R [] .returning (w.putObj D (.deferred none))) : LeavesInM F n P fn tmps R [{ target := .collected D, args := #[] }] .returning w := by
 unfold LeavesInM
 refine ⟨by simp, .inl ⟨_, _, rfl, run_takeDeferred hK, ?_⟩⟩
 exact h
def TrR (γ : Gho) (P : Program) (n : Nat) (c : Code) (s : St) (Q : Exit → St → Prop) : Prop :=
 ∀ w0 I L a w, I.df = [] → (∀ k, I.Z k → k < w0.heap.size) → Gh γ w0 I.I → Rel w0 I n L s a w → c.wp P (fun e a' w' => ∃ s' L', Q e s' ∧ (Rel w0 I n L' s' a' w' ∨ ∃ D, a'.defers = [{ target := .collected D, args := #[] }] ∧ w0.heap.size ≤ D ∧ w'.heap[D]? = some (.deferred (some [])) ∧ Rel w0 ⟨I.I, I.ρ, I.β, I.Z, [{ target := .collected D, args := #[] }]⟩ n L' s' a' w')) a w
theorem zNo {γ : Gho} {P : Program} {n : Nat} {x y : Code} {s : St} {Q : Exit → St → Prop} (h : Tr γ P n x s (thn (fun s' => TrR γ P n y s' Q) Q)) : TrR γ P n (.seq x y) s Q := fun w0 I L a w hd hz hG hr => by
 refine wp_seq (wp_mono (h w0 I L a w hG hr) (fun e a' w' ⟨s', L', h1, h2⟩ => ?_))
 cases e with
 | normal => exact h1 w0 I L' a' w' hd hz hG h2
 | _ => exact ⟨s', L', h1, .inl h2⟩
theorem zNW {γ : Gho} {P : Program} {f : FuncId} {fn : Func} {c : Code} {rs : List ResultVar} {args : List PA} {outs : List (Option (List (List PV)))} {res : List PA} (hf : P.funcs[f]? = some fn) (hb : fn.body = some c) (hrs : fn.results = rs.toArray) (hn' : Nat.ble args.length fn.ntmps = true) (hsz' : args.all (fun p => Nat.ble p.size pinT) = true)
  (h : TrR γ P fn.ntmps c (zFC args) (RetSG P rs args outs res)) : ConSG γ P f args outs res := by
 intro Z w vs E hG hp hZ hnd hlt
 have hn : args.length ≤ fn.ntmps := Nat.le_of_ble_eq_true hn'
 have hsz : ∀ p ∈ args, p.size ≤ pinT := fun p hp => Nat.le_of_ble_eq_true ((List.all_eq_true.1 hsz') p hp)
 refine callsIn_wide.1 (callsIn_of_wp_marks (F := Fence.wide) (n := 6) hf hb trivial ?_ rfl)
 refine wpIn_wide.2 ?_
 have hlen : vs.length = args.length := by
  clear hG h hn hsz hn' hsz' hZ hnd hlt
  induction hp with
  | nil => rfl
  | cons _ _ ih => simp [ih]
 have hown0 := zIv (step := fun _ => pinT) args pinT hsz
 have hpins : PinE (mkρ (owns (fun _ => pinT) pinT args) E) (owns (fun _ => pinT) pinT args) E := zMP hown0.1
 let I : Fr := ⟨Leaf.all E, mkρ (owns (fun _ => pinT) pinT args) E, fun _ => 0, Z, []⟩
 let a : Act := { tmps := (⟨vs⟩ : Array Value) ++ Array.replicate (fn.ntmps - (⟨vs⟩ : Array Value).size) undef, defers := [] }
 let L0 : Pl := ⟨Z, fun _ => 0, fun _ => undef, fun _ => [], fun _ => none⟩
 have hasz : a.tmps.size = fn.ntmps := by simp [a]; omega
 have h0 : Rel w I fn.ntmps L0 ⟨fun _ => .undef, fun _ => none, fun _ => none⟩ a w :=
  ⟨Same.refl _ w, fun k hk => ⟨(hZ k hk).1, rfl⟩, fun k l hk => by simp [L0] at hk, hasz, rfl, fun i => by simp [AVR], fun i cs hc => by simp at hc, fun i sz xs hx => by simp at hx, fun i _ hx => by simp at hx, fun i _ hx => by simp at hx, fun k hk => .inl hk⟩
 obtain ⟨L1, t1, a1⟩ := zLp (step := fun _ => pinT) (id := pinT) h0 (vs := vs) (F := E) hp (fun k hk => ⟨rfl, fun hz => (hZ k hz).2 hk, .inr hk⟩) hnd hsz (fun _ _ _ => rfl) (.inr hpins)
 have h1 : Rel w I fn.ntmps L1 (zFC args) a w := by
  refine ⟨t1.rel.same, t1.rel.zlt, t1.rel.llt, hasz, rfl, fun i => ?_, fun i cs hc => by simp [zFC] at hc, fun i sz xs hx => t1.rel.rw i sz xs hx, t1.rel.pr, t1.rel.pb, t1.rel.zi⟩
  have hmv : Moves [] L1 L1 w w { t := fun _ => .undef, b := fun _ => none, r := zBj (fun _ => none) (zC0 (fun _ => pinT) pinT args) } (zFC args) := ⟨fun k hk => ⟨hk, rfl⟩, fun _ k _ _ hk => ⟨.inr hk, rfl⟩, fun b hb => ⟨hb, rfl⟩, fun i sz xs _ hx => ⟨xs, hx, rfl, rfl⟩⟩
  simp only [zFC]
  rw [zI4]
  cases hi : (pAVs (fun _ => pinT) pinT args)[i]? with
  | none => simp [AVR]
  | some av =>
   obtain ⟨u, hu, hr⟩ := a1.get i av hi
   have hui : a.tmps.getD i undef = u := by
    have hlt := (List.getElem?_eq_some_iff.1 hu).1
    have : a.tmps[i]? = some u := by
     simp only [a]
     rw [Array.getElem?_append_left (by simpa using hlt)]
     simpa using hu
    simp [this]
   rw [hui]
   exact hr.move0 hmv
 have fin : ∀ (ds : List Deferred) (L' : Pl) (s' : St) (a' : Act) (w' : World), Rel w ⟨I.I, I.ρ, I.β, I.Z, ds⟩ fn.ntmps L' s' a' w' → zPH P rs args outs res s' → ∃ v, (results fn a'.tmps).run P w' = .ok v w' ∧ ∃ v' F Z', Ending.returned v = .returned v' ∧ Same (Leaf.all E) w w' ∧
   (∀ (i : Nat) lf xs', E[i]? = some lf → outs[i]? = some (some xs') → FlatP xs' ∧ ∃ N, PVO no w' (.sl true lf.sz xs') lf.v N) ∧
   RES Z' w' res v' F ∧ (Leaf.all F).Nodup ∧ (∀ k ∈ Leaf.all F, w.heap.size ≤ k ∨ InE E outs k) ∧ (∀ k, Z k → Z' k) ∧ ∀ k, Z' k → k < w'.heap.size ∧ k ∉ Leaf.all F ∧ (Z k ∨ ((w.heap.size ≤ k ∨ InE E outs k) ∧ Cl w' k)) := by
  rintro ds L' s' a' w' hr ⟨avs, K, hrv, hg, hKn, hout⟩
  obtain ⟨us, hrun, hav⟩ := hrv.ok hr
  obtain ⟨F, hF, hFK⟩ := hg.ok hr hav
  obtain ⟨hown1, hown2⟩ := zOG hp (step := fun _ => pinT) (id := pinT)
  have hrl := hF.length
  have hres := zE5 hrs hrun
  have hfk : ∀ k ∈ Leaf.all F, ∃ j ∈ K, L'.lab k = some (.row j) := fun k hk => by
   rw [hFK] at hk
   exact (hr.nodup hKn hg.rows).2 k hk
  have kept : ∀ (i : Nat) lf xs', E[i]? = some lf → outs[i]? = some (some xs') → ∃ id, s'.r id = some (lf.sz, xs') ∧ FlatP xs' ∧ id ∉ K ∧ L'.ρ id = lf.v ∧ ∃ xs, PVO Z w (.sl true lf.sz xs) lf.v lf.N := fun i lf xs' hi ho => by
   obtain ⟨x, e1, e2, e4⟩ := hown2 i lf hi
   have e3 := hpins.get e1 hi
   obtain ⟨g1, g2, g3⟩ := hout.get e1 ho
   have hpx : pinT ≤ x.1 := hown0.2 x (List.mem_of_getElem? e1)
   exact ⟨x.1, by rw [← e2]; exact g1, g2, g3, (hr.pr x.1 hpx (by rw [g1]; rfl)).trans e3, e4⟩
  have inE : ∀ k, k ∈ Leaf.all E → (∀ id, (∀ (i : Nat) (lf : Leaf) xs', E[i]? = some lf → outs[i]? = some (some xs') → k ∈ lf.N → L'.ρ id = lf.v → s'.r id = some (lf.sz, xs') → id ∉ K → k ∉ L'.ν id)) → InE E outs k := fun k hk hne => by
   obtain ⟨lf, hlf, hkl⟩ := List.mem_flatMap.1 hk
   obtain ⟨i, hi⟩ := List.getElem?_of_mem hlf
   refine ⟨i, lf, hi, hkl, fun xs' ho => ?_⟩
   obtain ⟨id, g1, g2, g3, g4, xs, g5⟩ := kept i lf xs' hi ho
   obtain ⟨r1, r2, r3⟩ := hr.rw id _ _ g1
   rw [g4] at r1
   have hne' : k ∉ L'.ν id := hne id i lf xs' hi ho hkl g4 g1 g3
   rcases zLE g5 r1 g2 with e | ⟨k0, m, e1, e2⟩
   · rw [e] at hkl; exact absurd hkl hne'
   ·
    rw [e1] at hkl ⊢
    rcases List.mem_cons.1 hkl with rfl | h3
    · rw [e2] at hne'; simp at hne'
    · exact h3
  refine ⟨_, hres, _, F, fun k => Z k ∨ L'.Z k, rfl, hr.same, fun i lf xs' hi ho => ?_, ?_, by rw [hFK]; exact (hr.nodup hKn hg.rows).1, fun k hk => ?_, fun k hk => .inl hk, fun k hk => ?_⟩
  ·
   obtain ⟨id, g1, g2, g3, g4, _⟩ := kept i lf xs' hi ho
   refine ⟨g2, L'.ν id, ?_⟩
   have := (hr.rw id _ _ g1).1
   rw [g4] at this
   exact this.clean (.sl _ _ g2.clean)
  ·
   refine RES.up (Z := L'.Z) ?_ (fun _ h => .inr h)
   split
   ·
    rename_i h1
    cases hF with
    | nil => simp at h1
    | cons hF1 hF2 =>
     cases hF2 with
     | nil => rw [List.append_nil]; exact .one hF1
     | cons _ _ => simp at h1
   ·
    rename_i h1
    exact .more (by rw [hrl]; exact h1) hF
  ·
   obtain ⟨j, hj, hl⟩ := hfk k hk
   rcases (hr.llt k _ hl).2 with h2 | h2
   · exact .inl h2
   ·
    refine .inr (inE k h2 (fun id i lf xs' _ _ _ _ g1 g3 hx => ?_))
    have := (hr.rw id _ _ g1).2.2 k hx
    rw [hl] at this
    simp only [Option.some.injEq, Lab.row.injEq] at this
    subst this
    exact g3 hj
  ·
   rcases hk with hk | hk
   ·
    refine ⟨Nat.lt_of_lt_of_le (hZ k hk).1 hr.same.size, fun hx => ?_, .inl hk⟩
    obtain ⟨j, _, hl⟩ := hfk k hx
    rcases (hr.llt k _ hl).2 with h2 | h2
    · have := (hZ k hk).1; omega
    · exact (hZ k hk).2 h2
   ·
    refine ⟨(hr.zlt k hk).1, fun hx => ?_, ?_⟩
    ·
     obtain ⟨j, _, hl⟩ := hfk k hx
     rw [(hr.zlt k hk).2] at hl
     cases hl
    ·
     rcases hr.zi k hk with h2 | ⟨h2 | h2, hcl⟩
     · exact .inl h2
     · exact .inr ⟨.inl h2, hcl⟩
     ·
      refine .inr ⟨.inr (inE k h2 (fun id i lf xs' _ _ _ _ g1 g3 hx => ?_)), hcl⟩
      have := (hr.rw id _ _ g1).2.2 k hx
      rw [(hr.zlt k hk).2] at this
      cases this
 refine wp_mono (h w I L1 a w rfl (fun k hk => (hZ k hk).1) hG h1) (fun e a' w' ⟨s', L', hq, hr⟩ => ?_)
 rcases hr with hr | ⟨D, hD, hDs, hK, hr⟩
 ·
  have hdf : a'.defers = [] := hr.df
  have key := fin [] L' s' a' w' hr
  cases e with
  | normal =>
   obtain ⟨v, h1, h2⟩ := key hq
   show LeavesInM _ _ _ _ a'.tmps _ a'.defers _ w'
   rw [hdf]
   exact zI5 h1 h2
  | ret =>
   obtain ⟨v, h1, h2⟩ := key hq
   show LeavesInM _ _ _ _ a'.tmps _ a'.defers _ w'
   rw [hdf]
   exact zI5 h1 h2
  | _ => exact hq.elim
 ·
  have hr2 := hr.grown (Nat.le_refl _) (fun k hk => (hZ k hk).1) (grownBy_putObj' w' D (.deferred none)) (fun r e => by cases e; exact ⟨hDs, _, hK, rfl⟩)
  have key := fin _ L' s' a' _ hr2
  cases e with
  | normal =>
   obtain ⟨v, h1, h2⟩ := key hq
   show LeavesInM _ _ _ _ a'.tmps _ a'.defers _ w'
   rw [hD]
   exact zOW hK (zI5 h1 h2)
  | ret =>
   obtain ⟨v, h1, h2⟩ := key hq
   show LeavesInM _ _ _ _ a'.tmps _ a'.defers _ w'
   rw [hD]
   exact zOW hK (zI5 h1 h2)
  | _ => exact hq.elim
end Go.Rl
namespace Go.Rl
open Go.RowKit Go.Proofs
theorem gh_root {γ : Gho} {w0 : World} {I : Fr} {n : Nat} {L : Pl} {s : St} {a : Act} {w : World} (hG : Gh γ w0 I.I) (h : Rel w0 I n L s a w) : Gh γ w (I.root L w).I := fun k ob e => by
 obtain ⟨g1, g2⟩ := hG k ob e
 have hlt := (Array.getElem?_eq_some_iff.1 g1).1
 refine ⟨(h.same.block k hlt g2).trans g1, fun hx => ?_⟩
 obtain ⟨l0, h0, _⟩ := zDU hx
 rcases (h.llt k l0 h0).2 with h3 | h3
 · omega
 · exact g2 h3
end Go.Rl
namespace Go.Rl
open Go.RowKit Go.Proofs
theorem zPl {Z : Nat → Prop} {w : World} {o : Bool} {sz : Nat} {xs : List (List PV)} {v : Value} (h : PVR Z w (.sl o sz xs) v) (o' : Bool) : PVR Z w (.sl o' sz xs) v := by
 cases h with
 | emp => exact .emp _ _ _ _
 | sl _ _ _ k off c hlen hc hz u hcell hp => exact .sl _ _ _ k off c hlen hc hz u hcell hp
theorem con_frz {P : Program} {f : FuncId} {args : List PA} {sz : Nat} {xs : List (List PV)} (h : Con P f args [] [.one (.sl true sz xs)]) : ConS P f args [.one (.sl false sz xs)] := by
 intro Z w vs E hp hZ hnd hlt
 refine Calls.mono (h Z w vs E (zHL _ _) hp hZ hnd hlt) ?_
 rintro e w' ⟨v, F, rfl, hsame, _, hres, hndF, hF⟩
 cases hres with
 | more hl => simp at hl
 | one hpa =>
  cases hpa with
  | one hps =>
   cases hps with
   | nf hn _ => simp [PV.nf] at hn
   | own ho =>
    rename_i N
    have hN : ∀ k ∈ N, w.heap.size ≤ k ∨ k ∈ Leaf.all E := fun k hk => by
     rcases hF k (by simpa [Leaf.all] using hk) with h1 | ⟨i, lf, h1, h2, _⟩
     · exact .inl h1
     · exact .inr (List.mem_flatMap.2 ⟨lf, List.mem_of_getElem? h1, h2⟩)
    refine ⟨v, [], fun k => Z k ∨ k ∈ N, rfl, hsame, .one (.one (.nf rfl (.fro _ _ _ ?_))), by simp, by simp, fun k hk => .inl hk, fun k hk => ?_⟩
    · exact zPl (ho.toR.mono (fun _ _ => rfl) (fun k hk => hk.elim (fun h => h.elim) .inr)) false
    ·
     rcases hk with hk | hk
     · exact ⟨Nat.lt_of_lt_of_le (hZ k hk).1 hsame.size, by simp, .inl hk⟩
     · exact ⟨ho.lt k hk, by simp, .inr ⟨hN k hk, ho.cl k hk⟩⟩
theorem zOv {γ : Gho} {P : Program} {f : FuncId} {args : List PA} {outs : List (Option (List (List PV)))} {p : PV} (h : ConSG γ P f args outs [.one p]) (hc : Clean p) : ConG γ P f args outs [.one p] := by
 intro Z w vs E hG hp hZ hnd hlt
 refine Calls.mono (h Z w vs E hG hp hZ hnd hlt) ?_
 rintro e w' ⟨v, F, Z', rfl, hsame, hout, hres, hndF, hF, _, _⟩
 refine ⟨v, F, rfl, hsame, hout, ?_, hndF, hF⟩
 cases hres with
 | more hl => simp at hl
 | one hpa =>
  cases hpa with
  | one hps =>
   refine .one (.one ?_)
   cases hps with
   | nf hn ho => exact .nf hn (ho.clean hc)
   | own ho => exact .own (ho.clean hc)
theorem getD_bw {a : Act} {n : Nat} {ti tx : Tmp} {zs : List Int} {x : Fin zs.length} (hs : a.tmps.size = n) (hx : tx < n) : (zFp a ti tx zs x).tmps.getD tx undef = .int .i64 (zs[x.1]'x.2) := by
 simp [zFp, hs, hx]
def St.bw (s : St) (ti tx d : Tmp) (zs : List Int) (x : Fin zs.length) : St :=
 ((s.put (some ti) (.p none (.v (.int .i64 (x.1 : Int))))).put (some tx) (.p none (.v (.int .i64 (zs[x.1]'x.2))))).put (some d) (.p none (.v (.int .i64 (zs[x.1]'x.2))))
def asgT (tx d : Tmp) (a : Act) : Act := a.put (some d) (a.eval (.tmp tx))
theorem rel_bw {n : Nat} {w0 : World} {I : Fr} {L : Pl} {s : St} {a : Act} {w : World} {ti tx d : Tmp} {zs : List Int} {x : Fin zs.length} (hdf : I.df = []) (h : Rel w0 I n L s a w) (h1 : ti < n) (h2 : tx < n) (h3 : d < n) :
  Rel w0 I n L (s.bw ti tx d zs x) (asgT tx d (zFp a ti tx zs x)) w := by
 have hb : zFp a ti tx zs x = (a.put (some ti) (.int .i64 (x.1 : Int))).put (some tx) (.int .i64 (zs[x.1]'x.2)) := by
  have := h.df
  rw [hdf] at this
  simp [zFp, Act.put, this]
 have hv : (zFp a ti tx zs x).eval (.tmp tx) = .int .i64 (zs[x.1]'x.2) := getD_bw h.sz h2
 unfold asgT St.bw
 rw [hv, hb]
 exact ((h.put (d := some ti) (fun y hy => by cases hy; exact h1) (zBs L w s rfl)).put (d := some tx) (fun y hy => by cases hy; exact h2) (zBs L w _ rfl)).put (d := some d) (fun y hy => by cases hy; exact h3) (zBs L w _ rfl)
theorem zQE {kp : Nat → Bool} {a : Act} {ti tx d : Tmp} {zs : List Int} {x : Fin zs.length} (h1 : kp ti = false) (h2 : kp tx = false) (h3 : kp d = false) : zD4 kp a (asgT tx d (zFp a ti tx zs x)) := by
 unfold asgT
 refine zEP ?_ (fun y hy => by cases hy; exact h3)
 exact zEP (d := some tx) (zEP (d := some ti) (zDl kp a) (fun y hy => by cases hy; exact h1)) (fun y hy => by cases hy; exact h2)
theorem zNf {l nn : Nat} {P : Program} {id : Nat} {o : Oper} {tx d : Tmp} (ho : o.op = .assign (.tmp tx)) (hd : o.dst = some d) (hg : o.guard = none) (a : Act) (W : World) (K : Act → World → Prop) (hK : K (asgT tx d a) W) : (Code.region id #[o] false).wpIn (Fw l) nn P (Exit.then K fun _ _ _ => False) a W := by
 refine wpIn_region ?_
 show wpOpsIn _ _ _ _ _ [0] a W
 rw [wpOpsIn_cons]
 unfold wpOpIn
 have hw : Region.wanted o (yielded #[o] a.tmps) = true := by simp [Region.wanted, hg]
 simp only [List.getElem?_toArray, List.getElem?_cons_zero, hw, if_true]
 refine op_in (K := fun a' w' => K a' w') (Q := fun _ _ _ => False) (fun c => by rw [ho]; simp) ?_ (fun a' w' h => h)
 unfold Oper.wp
 simp only [execOp, ho, Sem.run_bind, Sem.run_pure]
 show K (a.put o.dst (a.eval (.tmp tx))) W
 rw [hd]
 exact hK
theorem zId {γ : Gho} {P : Program} {n : Nat} {gf : Nat} (hC : Bw.Contract P gf) (hEn : ∀ (args : Array Value) (w : World), Sem.run P (callFunc gf args) w = .ok (.enter gf args) w) {id : Nat} {tf ti tx : Tmp} {pre0 assign body rest : Code} {zs : List Int} {o : Bool} (hz : zs.length ≤ 1000000000)
  (S : List (Fin zs.length) → St) (B : List (Fin zs.length) → Fin zs.length → St) (kp : Nat → Bool) (asg : Act → Act)
  (hf : ∀ pre, (S pre).t tf = .p none (.clo gf [[.sl o 1 (pvI zs)]]))
  (hassign : ∀ l nn (a0 : Act) W (K : Act → World → Prop), K (asg a0) W → assign.wpIn (Fw l) nn P (Exit.then K fun _ _ _ => False) a0 W)
  (hB : ∀ pre x w0 I L a W, I.df = [] → Rel w0 I n L (S pre) a W → Rel w0 I n L (B pre x) (asg (zFp a ti tx zs x)) W)
  (hkp : ∀ a x, zD4 kp a (asg (zFp a ti tx zs x)))
  (round : ∀ l nn (pre : List (Fin zs.length)) x, pre.length < zs.length → TrI kp l nn γ P n body (B pre x) (fun e s' => e = .normal ∧ Wk n (s'.keepT kp) (S (pre ++ [x]))))
  {s0 : St} {Q : Exit → St → Prop} (hpre : Tr γ P n pre0 s0 (thn (fun s' => Wk n s' (S [])) Q)) (hrest : Tr γ P n rest (S (Bw.upto zs zs.length)) Q) :
  TrR γ P n (.seq (.seq pre0 (.block id (.rangeFunc (.tmp tf) #[ti, tx] assign body))) rest) s0 Q := fun w0 I L a w hd hZ hG hr => by
 refine wp_seq (wp_seq (wp_mono (hpre w0 I L a w hG hr) ?_))
 rintro e a' w' ⟨s', L', h1, h2⟩
 cases e with
 | normal =>
  obtain ⟨L2, hr⟩ := h1 w0 I L' a' w' h2
  refine wp_block (zKY hC hEn hz S B kp asg hG hr hd hZ hf hassign (fun pre x L W h => hB pre x w0 I L a' W hd h) (hkp a') round ?_)
  intro D L1 W hD h1 hK
  show rest.wp P _ _ W
  have h2 : Rel w0 ⟨I.I, I.ρ, I.β, I.Z, [{ target := .collected D, args := #[] }]⟩ n L1 (S (Bw.upto zs zs.length)) { tmps := a'.tmps, defers := [{ target := .collected D, args := #[] }] } W :=
   { same := h1.same, zlt := h1.zlt, llt := h1.llt, sz := h1.sz, df := rfl, tm := h1.tm, bx := h1.bx, rw := h1.rw, pr := h1.pr, pb := h1.pb, zi := h1.zi }
  refine wp_mono (hrest W _ _ _ W (gh_root (I := ⟨I.I, I.ρ, I.β, I.Z, [{ target := .collected D, args := #[] }]⟩) hG h2) h2.root) ?_
  rintro e a' w' ⟨s', L', hq, h3⟩
  refine ⟨s', L', hq, .inr ⟨D, h3.df, Nat.le_trans hr.same.size hD, ?_, h2.unroot h3⟩⟩
  have hlt := (Array.getElem?_eq_some_iff.1 hK).1
  exact (h3.same.block D hlt (fun hx => by
   obtain ⟨_, _, c, t, z, hcl⟩ := zDU hx
   rw [hcl] at hK
   cases hK)).trans hK
 | _ => exact ⟨s', L', h1, .inl h2⟩
end Go.Rl

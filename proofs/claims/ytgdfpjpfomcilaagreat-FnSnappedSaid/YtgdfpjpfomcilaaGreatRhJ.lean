/- Promises of functions, proved by walks over their operations; no conditions beyond those that each theorem states. -/
import Derived.Test.YtgdfpjpfomcilaaGreatRnJ
import Derived.Test.YtgdfpjpfomcilaaGreatRlT
set_option linter.unusedSimpArgs false
set_option linter.unusedVariables false
namespace Go.Rl
abbrev OkD (d : Eng) : Prop := okB d.seq d.mem (tagT d.runs) d.snaps = true
variable {d : Eng} {a p : Int}
theorem zHb {s : List Int} {a : Int} : atI s a = true ↔ a ∈ s := by
 unfold atI
 rw [decide_eq_true_eq]
 constructor
 ·
  intro h
  refine Classical.byContradiction fun q => ?_
  have := (zD6 (p := fun x => decide (a = x)) (l := s)).2 (fun x hx => decide_eq_false (fun e => q (e ▸ hx)))
  omega
 ·
  intro h
  refine Classical.byContradiction fun q => ?_
  have := (zD6 (p := fun x => decide (a = x)) (l := s)).1 (by omega) a h
  simp at this
theorem zLx {s : List Int} (h1 : s.length ≤ 20) (h2 : ∀ x ∈ s, 0 ≤ x ∧ x ≤ 1000000000000) (h3 : s.Pairwise (· < ·)) : zBP s = true := by
 rw [zGq (i := s.length) (Nat.le_refl _) (fun j x hj hx => ?_), decide_eq_true h1]
 have hb := h2 x (List.mem_of_getElem? hx)
 cases j with
 | zero => simp [zCB, zAs, hb]
 | succ j =>
  obtain ⟨y, hy⟩ : ∃ y, s[j]? = some y := ⟨_, List.getElem?_eq_getElem (by omega)⟩
  have := List.pairwise_iff_getElem.1 h3 j (j + 1) (by omega) hj (by omega)
  rw [(List.getElem?_eq_some_iff.1 hx).2, (List.getElem?_eq_some_iff.1 hy).2] at this
  simp [zCB, zAs, hb, hy, this]
theorem zLw {s : List Int} (h : zBP s = true) : s.Pairwise (· < ·) :=
 List.pairwise_iff_getElem.2 fun i j hi hj hij => zEa h (List.getElem?_eq_getElem hi) j hij (List.getElem?_eq_getElem hj)
theorem zPc {s : List Int} {sq : Int} (h : zBP s = true) (hl : ∀ z, s[s.length - 1]? = some z → z ≤ sq) : ∀ x ∈ s, x ≤ sq := fun x hx => by
 obtain ⟨j, hj⟩ := List.getElem?_of_mem hx
 exact (zIc h).2 hl j x (List.getElem?_eq_some_iff.1 hj).1 hj
theorem zGr (h : OkD d) : ∀ x ∈ d.snaps, x ≤ d.seq := zPc (zCZ h) (zC1 h).2.last
theorem zNy (h : OkD d) : ∀ x ∈ d.snaps, 0 ≤ x ∧ x ≤ 1000000000000 := fun x hx => by
 obtain ⟨j, hj⟩ := List.getElem?_of_mem hx
 exact zNv (zCZ h) hj
theorem zKq (h : OkD d) : 0 ≤ d.seq ∧ d.seq ≤ 1000000000000 := by simpa [zAs] using (zDX h).1
theorem zJM (h : OkD d) : ∀ e ∈ d.mem, ∀ x ∈ ents (tagT d.runs), x.seq < e.seq := (zDu (fun e he => (zF7 (zDa (zC1 h).1 (List.mem_append_left _ he))).1)).1 (zC1 h).2.mem
theorem zP3 {d : Eng} (h1 : 0 ≤ d.seq ∧ d.seq ≤ 1000000000000) (h2 : zAr d.mem = true) (h3 : zBQ (tagT d.runs) = true) (h4 : zBP d.snaps = true) (h5 : (totI d).length ≤ 400) (h6 : (totI d).Pairwise (fun x y => x.seq ≠ y.seq)) (h7 : ∀ e ∈ totI d, e.seq ≤ d.seq)
  (h8 : ∀ e ∈ d.mem, ∀ x ∈ ents (tagT d.runs), x.seq < e.seq) (h9 : ∀ x ∈ d.snaps, x ≤ d.seq) : OkD d := by
 have hb : zBe d.seq d.mem (tagT d.runs) d.snaps = true := zO8 (by simp [zAs, h1]) h2 h3 h4
 exact (zIx hb ⟨h5, zIl h6 h7, (zDu (fun e he => (zF7 (zDa hb (List.mem_append_left _ he))).1)).2 h8, fun z hz => h9 z (List.mem_of_getElem? hz)⟩).symm
theorem zGB {ls : List (List Ent)} (h : zBQ (tagT ls) = true) : ls.length ≤ 20 ∧ (∀ l ∈ ls, zAr l = true) ∧ (ents (tagT ls)).length ≤ 400 := by
 have h2 := zFS h
 rw [zBU] at h2
 simp only [zBQ, Bool.and_eq_true, decide_eq_true_eq] at h
 refine ⟨h2.1, fun l hl => ?_, h2.2⟩
 have := zD6.1 h.2.1 (true, l) (List.mem_map.2 ⟨l, hl, rfl⟩)
 simpa using this
theorem zHw {ls : List (List Ent)} (h1 : ls.length ≤ 20) (h2 : ∀ l ∈ ls, zAr l = true) (h3 : (ents (tagT ls)).length ≤ 400) : zBQ (tagT ls) = true := by
 simp only [zBQ, Bool.and_eq_true, decide_eq_true_eq, zBU]
 refine ⟨h1, zD6.2 (fun r hr => ?_), h3⟩
 obtain ⟨l, hl, rfl⟩ := List.mem_map.1 hr
 simp [h2 l hl]
theorem zLJ : zAr [] = true := by decide
theorem zMf (h : OkD d) : (totI d).length ≤ 400 := (zC1 h).2.few
theorem zPk (h : OkD d) : (totI d).Pairwise (fun x y => x.seq ≠ y.seq) := zDg (zC1 h).2.seqs
theorem zNJ (h : OkD d) : ∀ e ∈ totI d, e.seq ≤ d.seq := zE4 (zC1 h).2.seqs
theorem zOh (h : OkD d) : OkD (zCH d).1 ∧ (zCH d).1.seq = d.seq ∧ (zCH d).1.snaps = d.snaps ∧ totI (zCH d).1 = totI d := by
 by_cases h1 : d.mem.length = 0
 · rw [zMc h h1]; exact ⟨h, rfl, rfl, rfl⟩
 ·
  by_cases h2 : 19 ≤ d.runs.length
  · rw [zMb h h1 h2]; exact ⟨h, rfl, rfl, rfl⟩
  ·
   rw [zMa h h1 h2]
   have ht : totI ⟨d.seq, [], d.mem :: d.runs, d.snaps⟩ = totI d := by
    simp only [totI, zCO, zBt, List.flatten_cons, List.nil_append]
   obtain ⟨_, hm, hr⟩ := zDX h
   have hr' := zGB hr
   have hf := zMf h
   refine ⟨zP3 (d := ⟨d.seq, [], d.mem :: d.runs, d.snaps⟩) (zKq (d := d) h) zLJ (zHw (by simp only [List.length_cons]; omega) (fun l hl => ?_) ?_) (zCZ (d := d) h) (by rw [ht]; exact hf) (by rw [ht]; exact zPk h) (by rw [ht]; exact zNJ h) (fun _ he => by cases he) (zGr (d := d) h), rfl, rfl, ht⟩
   ·
    rcases List.mem_cons.1 hl with rfl | hl
    · exact hm
    · exact hr'.2.1 l hl
   ·
    rw [← ht, totI] at hf
    simpa using hf
theorem zEh {l m r : List Ent} (hm : ∀ e, e ∈ l ↔ e ∈ m ∨ e ∈ r) (hb : ∀ e ∈ m, ∀ x ∈ r, x.seq < e.seq) (u : ByteArray) (p : Int) (e : Ent) :
  zCo l u p e ↔ zCo m u p e ∨ ((∀ x ∈ m, asOf u p x = false) ∧ zCo r u p e) := by
 constructor
 ·
  rintro ⟨h1, h2, h3⟩
  rcases (hm e).1 h1 with q | q
  · exact .inl ⟨q, h2, fun x hx hp => h3 x ((hm x).2 (.inl hx)) hp⟩
  ·
   refine .inr ⟨fun x hx => ?_, q, h2, fun x hx hp => h3 x ((hm x).2 (.inr hx)) hp⟩
   cases hp : asOf u p x with
   | false => rfl
   | true =>
    exfalso
    have h4 := hb x hx e q
    have h5 := zLY.1 hp
    have h6 := zLY.1 h2
    rcases h3 x ((hm x).2 (.inl hx)) hp with rfl | h7
    · omega
    ·
     unfold LessE at h7
     rw [h5.1, h6.1, zDL] at h7
     rcases h7 with h7 | ⟨_, h7⟩
     · cases h7
     · omega
 ·
  rintro (⟨h1, h2, h3⟩ | ⟨hn, h1, h2, h3⟩)
  ·
   refine ⟨(hm e).2 (.inl h1), h2, fun x hx hp => ?_⟩
   rcases (hm x).1 hx with q | q
   · exact h3 x q hp
   ·
    have h4 := hb e h1 x q
    refine .inr (.inr ⟨?_, .inl h4⟩)
    rw [(zLY.1 h2).1, (zLY.1 hp).1]
  ·
   refine ⟨(hm e).2 (.inr h1), h2, fun x hx hp => ?_⟩
   rcases (hm x).1 hx with q | q
   · rw [hn x q] at hp; cases hp
   · exact h3 x q hp
theorem vis_two {l l' m r r' : List Ent} {p : Int} (hl : zCd l) (hl' : zCd l') (hr : zCd r) (hr' : zCd r') (hm : ∀ e, e ∈ l ↔ e ∈ m ∨ e ∈ r) (hm' : ∀ e, e ∈ l' ↔ e ∈ m ∨ e ∈ r') (hb : ∀ e ∈ m, ∀ x ∈ r, x.seq < e.seq) (hb' : ∀ e ∈ m, ∀ x ∈ r', x.seq < e.seq) (hv : visF r' p = visF r p) : visF l' p = visF l p := by
 refine zGz (zC8 hl') (zC8 hl) (fun x => ?_)
 have h2 : (∃ e, zCo r' x.user p e ∧ e.kind ≠ 0 ∧ e.value = x.value) ↔ (∃ e, zCo r x.user p e ∧ e.kind ≠ 0 ∧ e.value = x.value) := by rw [← zDb hr', ← zDb hr, hv]
 rw [zDb hl', zDb hl]
 constructor
 ·
  rintro ⟨e, he, hk⟩
  rcases (zEh hm' hb' x.user p e).1 he with q | ⟨q1, q2⟩
  · exact ⟨e, (zEh hm hb x.user p e).2 (.inl q), hk⟩
  ·
   obtain ⟨e2, q3, q4⟩ := h2.1 ⟨e, q2, hk⟩
   exact ⟨e2, (zEh hm hb x.user p e2).2 (.inr ⟨q1, q3⟩), q4⟩
 ·
  rintro ⟨e, he, hk⟩
  rcases (zEh hm hb x.user p e).1 he with q | ⟨q1, q2⟩
  · exact ⟨e, (zEh hm' hb' x.user p e).2 (.inl q), hk⟩
  ·
   obtain ⟨e2, q3, q4⟩ := h2.2 ⟨e, q2, hk⟩
   exact ⟨e2, (zEh hm' hb' x.user p e2).2 (.inr ⟨q1, q3⟩), q4⟩
theorem zOV {l : List Ent} {p q : Int} (hp : ∀ e ∈ l, e.seq ≤ p) (hq : p ≤ q) (u : ByteArray) (e : Ent) : zCo l u q e ↔ zCo l u p e := by
 have key : ∀ x ∈ l, (asOf u q x = true ↔ asOf u p x = true) := fun x hx => by
  rw [zLY, zLY]
  have := hp x hx
  exact ⟨fun h => ⟨h.1, this⟩, fun h => ⟨h.1, by omega⟩⟩
 constructor
 ·
  rintro ⟨h1, h2, h3⟩
  exact ⟨h1, (key e h1).1 h2, fun x hx hy => h3 x hx ((key x hx).2 hy)⟩
 ·
  rintro ⟨h1, h2, h3⟩
  exact ⟨h1, (key e h1).2 h2, fun x hx hy => h3 x hx ((key x hx).1 hy)⟩
theorem zLk {l : List Ent} {p q : Int} (hl : zCd l) (hp : ∀ e ∈ l, e.seq ≤ p) (hq : p ≤ q) : visF l q = visF l p := by
 refine zGz (zC8 hl) (zC8 hl) (fun x => ?_)
 rw [zDb hl, zDb hl]
 simp only [zOV hp hq]
theorem zKJ (h : OkD d) : zCd (zCX (rowI d) d.snaps) := by
 have := (zFj (b := true) (zGv h) (zCZ h)).2.1
 rw [zOy h]
 exact zD9 this
theorem zGu (h : OkD d) : zCd (rowI d) := zD9 (zGv h)
theorem zGV {e : Ent} : e ∈ rowI d ↔ e ∈ ents (tagT d.runs) := (zBX _).mem_iff
theorem zEM (l : List Ent) : ents (tagT (zDI l)) = l := by
 rw [zCO]
 unfold zDI
 split
 · simp [zBt]
 ·
  have : l.length = 0 := by omega
  simp [zBt, List.length_eq_zero_iff.1 this]
theorem zG5 (l : List Ent) : (zDI l).length ≤ 1 := by
 unfold zDI
 split <;> simp
theorem zLO (h : OkD d) : OkD (zBg d).1 ∧ (zBg d).1.seq = d.seq ∧ (zBg d).1.snaps = d.snaps ∧ (zBg d).1.runs.length ≤ 1 ∧ ((zBg d).2 = 0 ∨ (zBg d).2 = 4) ∧ ∀ p, p ∈ d.snaps ∨ p = d.seq → visF (allI (zBg d).1) p = visF (allI d) p := by
 by_cases h1 : d.runs.length = 0
 ·
  rw [zOx h h1]
  exact ⟨h, rfl, rfl, by show d.runs.length ≤ 1; omega, .inr rfl, fun _ _ => rfl⟩
 ·
  rw [zOw h h1]
  obtain ⟨hvis, hok, _⟩ := zFj (b := true) (zGv h) (zCZ h)
  rw [← zOy h] at hvis hok
  have hsub0 : ∀ e ∈ zCX (rowI d) d.snaps, e ∈ rowI d := fun e he => zKK he
  have hlen0 := zKL (rowI d) d.snaps
  have hcs := zKJ h
  generalize zCX (rowI d) d.snaps = c at hvis hok hsub0 hlen0 hcs ⊢
  have hsub : ∀ e ∈ c, e ∈ ents (tagT d.runs) := fun e he => zGV.1 (hsub0 e he)
  have hlen : c.length ≤ (ents (tagT d.runs)).length := by
   have := zL1 d
   omega
  have hbel := zJM h
  have hpw' := List.pairwise_append.1 (zPk h)
  have hpc : c.Pairwise (fun x y => x.seq ≠ y.seq) := List.pairwise_iff_getElem.2 fun i j hi hj hij => by
   have hlt := hcs i j _ _ hij (List.getElem?_eq_getElem hi) (List.getElem?_eq_getElem hj)
   obtain ⟨x, hx⟩ := List.getElem?_of_mem (hsub _ (List.getElem_mem hi))
   obtain ⟨y, hy⟩ := List.getElem?_of_mem (hsub _ (List.getElem_mem hj))
   obtain ⟨hx1, hx2⟩ := List.getElem?_eq_some_iff.1 hx
   obtain ⟨hy1, hy2⟩ := List.getElem?_eq_some_iff.1 hy
   have hxy : x ≠ y := fun q => by
    subst q
    rw [hx2] at hy2
    rw [← hy2] at hlt
    exact hlt.irrefl
   rw [← hx2, ← hy2]
   rcases Nat.lt_or_gt_of_ne hxy with q | q
   · exact List.pairwise_iff_getElem.1 hpw'.2.1 x y hx1 hy1 q
   · exact (List.pairwise_iff_getElem.1 hpw'.2.1 y x hy1 hx1 q).symm
  obtain ⟨b, hb⟩ : ∃ b : Eng, b = ⟨d.seq, d.mem, zDI c, d.snaps⟩ := ⟨_, rfl⟩
  have hb1 : b.seq = d.seq := by rw [hb]
  have hb2 : b.mem = d.mem := by rw [hb]
  have hb3 : b.runs = zDI c := by rw [hb]
  have hb4 : b.snaps = d.snaps := by rw [hb]
  have htot : totI b = d.mem ++ c := by rw [totI, hb2, hb3, zEM]
  have hokd : OkD b := by
   refine zP3 (by rw [hb1]; exact zKq h) (by rw [hb2]; exact (zDX h).2.1) (by
    rw [hb3]
    refine zHw (Nat.le_trans (zG5 _) (by decide)) (fun l hl => ?_) (by rw [zEM]; have := (zGB (zDX h).2.2).2.2; omega)
    unfold zDI at hl
    split at hl
    · rw [List.mem_singleton] at hl; subst hl; exact hok
    · cases hl) (by rw [hb4]; exact zCZ h) ?_ ?_ (fun e he => ?_) (fun e he x hx => ?_) (by rw [hb4, hb1]; exact zGr h)
   ·
    rw [htot, List.length_append]
    have := zMf h
    rw [totI, List.length_append] at this
    omega
   ·
    rw [htot]
    exact List.pairwise_append.2 ⟨hpw'.1, hpc, fun x hx y hy => hpw'.2.2 x hx y (hsub y hy)⟩
   ·
    rw [htot] at he
    rw [hb1]
    rcases List.mem_append.1 he with q | q
    · exact zNJ h e (List.mem_append_left _ q)
    · exact zNJ h e (List.mem_append_right _ (hsub e q))
   ·
    rw [hb3, zEM] at hx
    rw [hb2] at he
    exact hbel e he x (hsub x hx)
  rw [← hb]
  refine ⟨hokd, hb1, hb4, by show b.runs.length ≤ 1; rw [hb3]; exact zG5 _, .inl rfl, fun p hp => ?_⟩
  show visF (allI b) p = visF (allI d) p
  refine vis_two (m := d.mem) (r := rowI d) (r' := c) (zEl h) (zEl hokd) (zGu h) hcs (fun e => ?_) (fun e => ?_) (fun e he x hx => hbel e he x (zGV.1 hx)) (fun e he x hx => hbel e he x (hsub x hx)) ?_
  · rw [allI, (zBX _).mem_iff, totI, List.mem_append, zGV]
  · rw [allI, (zBX _).mem_iff, htot, List.mem_append]
  ·
   rcases hp with hp | rfl
   · exact hvis p (List.mem_append_left _ hp)
   ·
    have h2 := zKq h
    have h3 := hvis 1000000000000 (List.mem_append_right _ (by simp))
    have h4 : ∀ e ∈ rowI d, e.seq ≤ d.seq := fun e he => zNJ h e (List.mem_append_right _ (zGV.1 he))
    rw [zLk hcs (fun e he => h4 e (hsub0 e he)) h2.2, zLk (zGu h) h4 h2.2] at h3
    exact h3
end Go.Rl
namespace Go.Rl
variable {d : Eng} {a p : Int} {ops : List Bop}
theorem zMU (h : OkD d) : zDN d.snaps d.seq ↔ d.seq ∈ d.snaps := by
 constructor
 · intro q; exact List.mem_of_getElem? q
 ·
  intro q
  obtain ⟨j, hj⟩ := List.getElem?_of_mem q
  have hlt := (List.getElem?_eq_some_iff.1 hj).1
  by_cases e : j = d.snaps.length - 1
  · unfold zDN; rw [← e]; exact hj
  ·
   exfalso
   obtain ⟨z, hz⟩ : ∃ z, d.snaps[d.snaps.length - 1]? = some z := ⟨_, List.getElem?_eq_getElem (by omega)⟩
   have h1 := zEa (zCZ h) hj (d.snaps.length - 1) (by omega) hz
   have h2 := (zC1 h).2.last z hz
   omega
theorem zJf (hR : ER d) : (zCp d).2.2 = (zCA d).2.2 := by
 have hs := ok_same hR
 cases ho : zBV d.seq d.mem (tagT d.runs) d.snaps with
 | false => rw [ho] at hs; rw [zKl hs, zQj ho]
 | true =>
  rw [ho] at hs
  have hl := (zBr hs).snaps
  cases h1 : atI d.snaps d.seq with
  | true => rw [zKm hs h1, zQk ho ((zMU hs).2 (zHb.1 h1))]
  | false =>
   have h2 : ¬ zDN d.snaps d.seq := fun q => by rw [zHb.2 ((zMU hs).1 q)] at h1; cases h1
   by_cases h3 : d.snaps.length = 20
   · rw [zKn hs h1 h3, zNx ho h2 (by omega)]
   · rw [zKk hs h1 h3, zNw ho h2 (by omega)]
theorem zPd (hc : (zCp d).2.2 = 0) : OkD d ∧ OkD (zCp d).1 ∧ (zCp d).2.1 = d.seq ∧ (zCp d).1.seq = d.seq ∧ d.seq ∈ (zCp d).1.snaps ∧ totI (zCp d).1 = totI d := by
 cases ho : okB d.seq d.mem (tagT d.runs) d.snaps with
 | false => rw [zKl ho] at hc; cases hc
 | true =>
  cases h1 : atI d.snaps d.seq with
  | true => rw [zKm ho h1]; exact ⟨ho, ho, rfl, rfl, zHb.1 h1, rfl⟩
  | false =>
   by_cases h3 : d.snaps.length = 20
   · rw [zKn ho h1 h3] at hc; cases hc
   ·
    rw [zKk ho h1 h3]
    have hn : d.seq ∉ d.snaps := fun q => by rw [zHb.2 q] at h1; cases h1
    obtain ⟨b, hb⟩ : ∃ b : Eng, b = ⟨d.seq, d.mem, d.runs, d.snaps ++ [d.seq]⟩ := ⟨_, rfl⟩
    have hb1 : b.seq = d.seq := by rw [hb]
    have hb2 : b.mem = d.mem := by rw [hb]
    have hb3 : b.runs = d.runs := by rw [hb]
    have hb4 : b.snaps = d.snaps ++ [d.seq] := by rw [hb]
    have ht : totI b = totI d := by rw [totI, totI, hb2, hb3]
    have hl := (zBr ho).snaps
    rw [← hb]
    refine ⟨ho, zP3 (by rw [hb1]; exact zKq ho) (by rw [hb2]; exact (zDX ho).2.1) (by rw [hb3]; exact (zDX ho).2.2) ?_ (by rw [ht]; exact zMf ho) (by rw [ht]; exact zPk ho) (by rw [ht, hb1]; exact zNJ ho) (by rw [hb2, hb3]; exact zJM ho) ?_, rfl, hb1, by show d.seq ∈ b.snaps; rw [hb4]; simp, ht⟩
    ·
     rw [hb4]
     refine zLx (by simp only [List.length_append, List.length_cons, List.length_nil]; omega) (fun x hx => ?_) (List.pairwise_append.2 ⟨zLw (zCZ ho), List.pairwise_singleton _ _, fun x hx y hy => ?_⟩)
     ·
      rcases List.mem_append.1 hx with q | q
      · exact zNy ho x q
      · rw [List.mem_singleton] at q; rw [q]; exact zKq ho
     ·
      rw [List.mem_singleton] at hy
      rw [hy]
      have h4 := zGr ho x hx
      have h5 : x ≠ d.seq := fun q => hn (q ▸ hx)
      omega
    ·
     rw [hb4, hb1]
     intro x hx
     rcases List.mem_append.1 hx with q | q
     · exact zGr ho x q
     · rw [List.mem_singleton] at q; rw [q]; exact Int.le_refl _
theorem zQJ (h : OkD d) (ha : a ∈ d.snaps) : ∃ x, zGQ d a = (x, 0) ∧ OkD x ∧ a ∉ x.snaps := by
 have hat := zHb.2 ha
 unfold atI at hat
 rw [decide_eq_true_eq] at hat
 have hn : ¬ idxI d.snaps a < 0 := by unfold idxI; omega
 obtain ⟨k, hk1, hk2, _, x0, hx0, hp0⟩ := zFc (p := fun x => decide (a = x)) (l := d.snaps) (by unfold idxI at hn; omega)
 have hx0 : d.snaps[k]? = some a := by rw [hx0, of_decide_eq_true hp0]
 have hke : (idxI d.snaps a).toNat = k := by unfold idxI; rw [hk1]; rfl
 obtain ⟨b, hb⟩ : ∃ b : Eng, b = ⟨d.seq, d.mem, d.runs, d.snaps.eraseIdx k⟩ := ⟨_, rfl⟩
 have hb1 : b.seq = d.seq := by rw [hb]
 have hb2 : b.mem = d.mem := by rw [hb]
 have hb3 : b.runs = d.runs := by rw [hb]
 have hb4 : b.snaps = d.snaps.eraseIdx k := by rw [hb]
 have ht : totI b = totI d := by rw [totI, totI, hb2, hb3]
 have hsub : (d.snaps.eraseIdx k).Sublist d.snaps := List.eraseIdx_sublist _ _
 have hpw := zLw (zCZ h)
 refine ⟨b, by rw [zOe h hn, hke, hb], zP3 (by rw [hb1]; exact zKq h) (by rw [hb2]; exact (zDX h).2.1) (by rw [hb3]; exact (zDX h).2.2) ?_ (by rw [ht]; exact zMf h) (by rw [ht]; exact zPk h) (by rw [ht, hb1]; exact zNJ h) (by rw [hb2, hb3]; exact zJM h) ?_, ?_⟩
 ·
  rw [hb4]
  exact zLx (Nat.le_trans hsub.length_le (zBr h).snaps) (fun x hx => zNy h x (hsub.mem hx)) (hpw.sublist hsub)
 ·
  rw [hb4, hb1]
  exact fun x hx => zGr h x (hsub.mem hx)
 ·
  rw [hb4]
  intro q
  obtain ⟨j, hj⟩ := List.getElem?_of_mem q
  rw [List.getElem?_eraseIdx] at hj
  split at hj
  ·
   have := zEa (zCZ h) hj k (by omega) hx0
   omega
  ·
   have := zEa (zCZ h) hx0 (j + 1) (by omega) hj
   omega
theorem zN0 (h : OkD d) (h1 : a ≠ -1) (h2 : a ∉ d.snaps) (f t : ByteArray) : zBn d a f t = ([], 4) := by
 refine zQm h ?_
 have h3 : atI d.snaps a = false := by
  cases q : atI d.snaps a with
  | false => rfl
  | true => exact absurd (zHb.1 q) h2
 simp [zFE, h1, h3]
theorem scan_at (h : OkD d) (ha : a ∈ d.snaps) : zBn d a ⟨#[]⟩ ⟨#[]⟩ = (visF (allI d) a, 0) := by
 have h1 := zNy h a ha
 have h2 : ¬ a = -1 := by omega
 rw [zNz h (by simp [zFE, zHb.2 ha]), zKQ]
 simp [askI, h2]
theorem zQA {l l' m : List Ent} (hm : ∀ e, e ∈ l' ↔ e ∈ l ∨ e ∈ m) (hs : ∀ e ∈ m, p < e.seq) (u : ByteArray) (e : Ent) : zCo l' u p e ↔ zCo l u p e := by
 have key : ∀ x ∈ l', asOf u p x = true → x ∈ l := fun x hx hp => ((hm x).1 hx).resolve_right (fun q => by
  have := hs x q
  have := (zLY.1 hp).2
  omega)
 constructor
 ·
  rintro ⟨h1, h2, h3⟩
  exact ⟨key e h1 h2, h2, fun x hx hp => h3 x ((hm x).2 (.inl hx)) hp⟩
 ·
  rintro ⟨h1, h2, h3⟩
  exact ⟨(hm e).2 (.inl h1), h2, fun x hx hp => h3 x (key x hx hp) hp⟩
theorem vis_old {l l' m : List Ent} (hl : zCd l) (hl' : zCd l') (hm : ∀ e, e ∈ l' ↔ e ∈ l ∨ e ∈ m) (hs : ∀ e ∈ m, p < e.seq) : visF l' p = visF l p := by
 refine zGz (zC8 hl') (zC8 hl) (fun x => ?_)
 rw [zDb hl', zDb hl]
 simp only [zQA hm hs]
theorem zMt (h : OkD d) (hw : (zCy d ops).2 = 0) : zCy d ops = (zEm d ops, 0) ∧ OkD (zEm d ops) := by
 cases hb : zA7 (d.seq + 1) ops with
 | false => rw [zLh h hb] at hw; cases hw
 | true =>
  by_cases hn : 400 < (totI d).length + ops.length
  · rw [zLg h hb hn] at hw; cases hw
  · exact ⟨zLf h hb hn, zPJ h hb (by omega)⟩
theorem zNe (h : OkD d) (hw : OkD (zEm d ops)) (hp : p ≤ d.seq) : visF (allI (zEm d ops)) p = visF (allI d) p := by
 refine vis_old (m := zAq (d.seq + 1) ops) (zEl h) (zEl hw) (fun e => ?_) (fun e he => by have := zEk he; omega)
 rw [allI, allI, (zBX _).mem_iff, (zBX _).mem_iff, (zHl d ops).mem_iff, List.mem_append]
structure UnS (d a b : Eng) : Prop where
 ok : OkD d
 oka : OkD a
 okb : OkD b
 one : b.runs.length ≤ 1
 sa : ∀ p, p ∈ d.snaps ∨ p = -1 → ∃ l, zBn d p ⟨#[]⟩ ⟨#[]⟩ = (l, 0) ∧ zBn a p ⟨#[]⟩ ⟨#[]⟩ = (l, 0) ∧ zBn b p ⟨#[]⟩ ⟨#[]⟩ = (l, 0)
structure SnS (d X : Eng) (f g x : Eng) (cf cg : Int) (l : List Pr) : Prop where
 okX : OkD X
 fl : zCH X = (f, cf)
 okf : OkD f
 cm : zBg f = (g, cg)
 okg : OkD g
 sc : zBn g d.seq ⟨#[]⟩ ⟨#[]⟩ = ((zBn d (-1) ⟨#[]⟩ ⟨#[]⟩).1, 0)
 fr : zGQ g d.seq = (x, 0)
 okx : OkD x
 no : zBn x d.seq ⟨#[]⟩ ⟨#[]⟩ = (l, 4)
theorem zQh {X : Eng} (hd : OkD d) (hX : OkD X) (hin : d.seq ∈ X.snaps) (hv : visF (allI X) d.seq = visF (allI d) d.seq) : ∃ f g x cf cg l, SnS d X f g x cf cg l := by
 obtain ⟨f1, _, f3, f4⟩ := zOh hX
 obtain ⟨c1, _, c3, _, _, c6⟩ := zLO f1
 have hin2 : d.seq ∈ (zBg (zCH X).1).1.snaps := by rw [c3, f3]; exact hin
 obtain ⟨x, x1, x2, x3⟩ := zQJ c1 hin2
 have h0 := zKq hd
 refine ⟨(zCH X).1, (zBg (zCH X).1).1, x, (zCH X).2, (zBg (zCH X).1).2, [], hX, rfl, f1, rfl, c1, ?_, x1, x2, zN0 x2 (by omega) x3 _ _⟩
 have hall : allI (zCH X).1 = allI X := by rw [allI, f4, allI]
 rw [scan_at c1 hin2, zPh hd, c6 _ (.inl (by rw [f3]; exact hin)), hall, hv]
theorem zKj (hR : ER d) (ops : List Bop) :
  (∃ s z c, zCp d = (s, z, c) ∧ (zCA d).2.2 = c ∧ c ≠ 0) ∨
  (∃ s, zCp d = (s, d.seq, 0) ∧ (zCA d).2.2 = 0 ∧ OkD d ∧ OkD s ∧
   ((∃ b f g x cf cg l, zCy s ops = (b, 0) ∧ SnS d b f g x cf cg l) ∨ (∃ b e f g x cf cg l, zCy s ops = (b, e) ∧ e ≠ 0 ∧ SnS d s f g x cf cg l))) := by
 by_cases hc : (zCp d).2.2 = 0
 ·
  refine .inr ?_
  obtain ⟨h1, h2, h3, h4, h5, h6⟩ := zPd hc
  have hsn : zCp d = ((zCp d).1, d.seq, 0) := by rw [← h3, ← hc]
  refine ⟨(zCp d).1, hsn, by rw [← zJf hR]; exact hc, h1, h2, ?_⟩
  have hall : allI (zCp d).1 = allI d := by rw [allI, h6, allI]
  generalize (zCp d).1 = s at h2 h4 h5 hall
  by_cases he : (zCy s ops).2 = 0
  ·
   obtain ⟨w1, w2⟩ := zMt h2 he
   obtain ⟨f, g, x, cf, cg, l, q⟩ := zQh (X := zEm s ops) h1 w2 h5 (by rw [zNe h2 w2 (by omega), hall])
   exact .inl ⟨_, f, g, x, cf, cg, l, w1, q⟩
  ·
   obtain ⟨f, g, x, cf, cg, l, q⟩ := zQh (X := s) h1 h2 h5 (by rw [hall])
   exact .inr ⟨_, _, f, g, x, cf, cg, l, rfl, he, q⟩
 · exact .inl ⟨_, _, _, rfl, (zJf hR).symm, hc⟩
end Go.Rl
namespace Go.Rl
open Go.RowKit
theorem zQP : ∀ {xs : List (List PV)}, (∀ es ∈ xs, es.length = 1) → xs.flatten.length = xs.length := fun h => by rw [zB8 h, Nat.mul_one]
theorem zL5 {w w' : World} {p : PV} {xs : List (List PV)} {k c : Nat} {N : Array Value} {ty : TypeId} {u u' : Nat → Value} {n n' : Nat → List Nat} {Z Z' : Nat → Prop} (hlen : ∀ es ∈ xs, es.length = 1) (hk : w'.heap[k]? = some (.cells N ty (0, 0))) (hsz : N.size = c * 1) (hc : xs.length + 1 ≤ c) (hm : c ≤ maxLen)
  (h0 : N[0]? = some (u' 0)) (hj : ∀ j, j < xs.flatten.length → N[j + 1]? = some (u j)) (hp0 : PVO Z' w p (u' 0) (n' 0)) (hpj : ∀ j q, xs.flatten[j]? = some q → PVO Z w q (u j) (n j)) (hcl0 : Clean p) (hclj : ∀ es ∈ xs, ∀ q ∈ es, Clean q)
  (hw0 : ∀ b ∈ n' 0, w'.heap[b]? = w.heap[b]?) (hwj : ∀ j, j < xs.flatten.length → ∀ b ∈ n j, w'.heap[b]? = w.heap[b]?) :
  PVO no w' (.sl true 1 ([p] :: xs)) (.slice (some ⟨k, 0, none⟩) (xs.length + 1) c) (k :: (n' 0 ++ (List.range xs.flatten.length).flatMap n)) := by
 have hfl : ([p] :: xs).flatten.length = xs.flatten.length + 1 := by simp
 have := PVO.own (Z := no) (w := w') 1 ([p] :: xs) k c N ty (fun es he => by
  rcases List.mem_cons.1 he with rfl | he
  · rfl
  · exact hlen es he) hk hsz ⟨by simpa using hc, by omega⟩ hm (fun j => match j with | 0 => u' 0 | j + 1 => u j) (fun j => match j with | 0 => n' 0 | j + 1 => n j) (fun j hlt => by
  cases j with
  | zero => exact h0
  | succ j => exact hj j (by omega)) (fun j q hq => by
  cases j with
  | zero =>
   have : q = p := by simpa using hq.symm
   subst this
   exact (hp0.clean hcl0).mono (fun _ h => h.elim) hw0 (fun _ h => h)
  | succ j =>
   have hq : xs.flatten[j]? = some q := by simpa using hq
   have hlt := (List.getElem?_eq_some_iff.1 hq).1
   have hcl : Clean q := by
    obtain ⟨es, h1, h2⟩ := List.mem_flatten.1 (List.mem_of_getElem? hq)
    exact hclj es h1 q h2
   exact ((hpj j q hq).clean hcl).mono (fun _ h => h.elim) (hwj j hlt) (fun _ h => h))
 have e : (List.range ([p] :: xs).flatten.length).flatMap (fun j => match j with | 0 => n' 0 | j + 1 => n j) = n' 0 ++ (List.range xs.flatten.length).flatMap n := by
  rw [hfl, List.range_succ_eq_map, List.flatMap_cons, List.flatMap_map]
 rw [e] at this
 simpa using this
theorem zLM {P : Program} {f : FuncId} {E : TypeId}
  (shift : ∀ (k c n i vb vc : Nat) (cur vcur : Array Value) (ty vty : TypeId) (vs : List Value) (w : World), i < n → n + 1 ≤ c → c ≤ 9223372036854775807 → vb ≠ k → w.heap[k]? = some (.cells cur ty (0, 0)) → cur.size = c → w.heap[vb]? = some (.cells vcur vty (0, 0)) → vcur.size ≠ 0 → vs.length = 1 →
   (∀ (j : Nat) (v : Value), vs[j]? = some v → vcur[j]? = some v) → (∀ (j : Nat) (v : Value), j < n → cur[j]? = some v → v.oneCell' = true) → (∀ v ∈ vs, v.oneCell' = true) →
   Calls P f #[.slice (some ⟨k, 0, none⟩) n c, .int .i64 i, .slice (some ⟨vb, 0, none⟩) 1 vc] w fun e w' =>
    e = .returned (.slice (some ⟨k, 0, none⟩) (n + 1) c) ∧ w' = w.drew.setRow k (over (over cur.toList (i + 1) ((cur.toList.take n).drop i)) i vs).toArray)
  (grow : ∀ (k c n i vb vc : Nat) (cur vcur : Array Value) (ty vty : TypeId) (vs : List Value) (w : World), i < n → n ≤ c → c < n + 1 → n ≤ 1000000000 → vb ≠ k → w.heap[k]? = some (.cells cur ty (0, 0)) → cur.size = c → w.heap[vb]? = some (.cells vcur vty (0, 0)) → vs.length = 1 →
   (∀ (j : Nat) (v : Value), vs[j]? = some v → vcur[j]? = some v) → (∀ (j : Nat) (v : Value), j < n → cur[j]? = some v → v.oneCell' = true) → (∀ v ∈ vs, v.oneCell' = true) →
   Calls P f #[.slice (some ⟨k, 0, none⟩) n c, .int .i64 i, .slice (some ⟨vb, 0, none⟩) 1 vc] w fun e w' =>
    ∃ (G : Nat) (zs : List Value) (N : Array Value) (W : World), e = .returned (.slice (some ⟨w.heap.size, 0, none⟩) (n + 1) G) ∧ n + 1 ≤ G ∧ G ≤ maxLen ∧ zs.length = (G - n - 1) ∧
     N = (cur.toList.take i ++ vs ++ ((cur.toList.take n).drop i) ++ zs).toArray ∧ w' = W ∧ W.heap[w.heap.size]? = some (.cells N E (0, 0)) ∧ Same [] w W)
  (xs : List (List PV)) (p : PV) (hi : 0 < xs.length) (hl : xs.length ≤ 1000000000) (hx : ∀ es ∈ xs, ∀ q ∈ es, Clean q) (hp : Clean p) :
  Con P f [.one (.sl true 1 xs), .one (.v (.int .i64 ((0 : Nat) : Int))), .one (.sl true 1 [[p]])] [none, none] [.one (.sl true 1 ([p] :: xs))] := by
 intro Z w vs E' _ ha hZ hnd hlt
 cases ha with
 | cons h1 t1 => cases t1 with
 | cons h2 t2 => cases t2 with
 | cons h3 t3 =>
 cases t3
 cases h1 with
 | one h1 =>
 cases h2 with
 | one h2 =>
 cases h3 with
 | one h3 =>
 cases h1 with
 | nf hn => simp [PV.nf] at hn
 | own h1 =>
 cases h3 with
 | nf hn => simp [PV.nf] at hn
 | own h3 =>
 cases h2 with
 | nf _ h2 =>
 cases h2
 cases h1 with
 | nil => simp at hi
 | own _ _ k c cur ty hlen hk hcz hnc hm u n hcell hpp =>
 cases h3 with
 | own _ _ vb vc vcur vty hvlen hv hvz hvc hvm u' n' hvcell hvp =>
 have hml : maxLen ≤ 9223372036854775807 := by decide
 have hfl := zQP hlen
 have hnd' : (k :: ((List.range xs.flatten.length).flatMap n ++ vb :: n' 0)).Nodup := by
  have : (Leaf.all _).Nodup := hnd
  simpa [Leaf.all] using this
 have hp0 : PVO Z w p (u' 0) (n' 0) := hvp 0 p (by simp)
 have hv0 : vcur[0]? = some (u' 0) := hvcell 0 (by simp)
 rw [List.nodup_cons] at hnd'
 obtain ⟨hkn, hnd2⟩ := hnd'
 have hvb : vb ≠ k := fun e => hkn (by subst e; simp)
 have hnd3 := List.nodup_append.1 hnd2
 have hnd4 := List.nodup_cons.1 hnd3.2.1
 have hvz0 : vcur.size ≠ 0 := by
  have := (Array.getElem?_eq_some_iff.1 hv0).1
  omega
 have hkj : ∀ j, j < xs.flatten.length → ∀ b ∈ n j, b ≠ k := fun j hj b hb e => hkn (by
  subst e
  exact List.mem_append_left _ (List.mem_flatMap.2 ⟨j, List.mem_range.2 hj, hb⟩))
 have hk0 : ∀ b ∈ n' 0, b ≠ k := fun b hb e => hkn (by subst e; simp [hb])
 have hCg : ∀ (j : Nat) (v : Value), j < xs.length → cur[j]? = some v → v.oneCell' = true := fun j v hj h => by
  rw [hcell j (by omega)] at h
  cases h
  exact (hpp j _ (List.getElem?_eq_getElem (by omega))).one
 have hDg : ∀ (j : Nat) (v : Value), [u' 0][j]? = some v → vcur[j]? = some v := fun j v h => by
  cases j with
  | zero => simpa using hv0.trans h
  | succ j => simp at h
 have hD1 : ∀ v ∈ [u' 0], v.oneCell' = true := fun v h => by rw [List.mem_singleton] at h; subst h; exact hp0.one
 have hcl : cur.toList.length = c := by rw [Array.length_toList]; omega
 have hcs : ∀ j, j < xs.flatten.length → (cur.toList.take xs.length)[j]? = some (u j) := fun j hj => by
  rw [List.getElem?_take, if_pos (by omega)]
  simpa using hcell j hj
 have hcsl : (cur.toList.take xs.length).length = xs.length := by rw [List.length_take, hcl]; omega
 have hnodup : (k :: (n' 0 ++ (List.range xs.flatten.length).flatMap n)).Nodup := by
  refine List.nodup_cons.2 ⟨fun h => hkn ?_, List.nodup_append.2 ⟨hnd4.2, hnd3.1, fun a ha b hb e => hnd3.2.2 b hb a (by simp [ha]) e.symm⟩⟩
  rcases List.mem_append.1 h with h | h
  · simp [h]
  · exact List.mem_append_left _ h
 by_cases hroom : xs.length + 1 ≤ c
 ·
  refine (shift k c xs.length 0 vb vc cur vcur ty vty [u' 0] w hi hroom (Nat.le_trans hm hml) hvb hk (by omega) hv hvz0 rfl hDg hCg hD1).mono ?_
  rintro e w' ⟨rfl, rfl⟩
  have hb1 : (0 + 1) + ((cur.toList.take xs.length).drop 0).length ≤ cur.toList.length := by
   rw [List.length_drop, hcsl, hcl]; omega
  have hb2 : 0 + [u' 0].length ≤ (over cur.toList (0 + 1) ((cur.toList.take xs.length).drop 0)).length := by
   rw [zCY hb1, hcl]; simp; omega
  obtain ⟨N, hN⟩ : ∃ N, N = (over (over cur.toList (0 + 1) ((cur.toList.take xs.length).drop 0)) 0 [u' 0]).toArray := ⟨_, rfl⟩
  rw [← hN]
  have hNs : N.size = c := by rw [hN, List.size_toArray, zCY hb2, zCY hb1, hcl]
  have hkN := setRow_heap w.drew k cur N ty (0, 0) hk
  have hN0 : N[0]? = some (u' 0) := by rw [hN, List.getElem?_toArray, zCM hb2]; simp
  have hNj : ∀ j, j < xs.flatten.length → N[j + 1]? = some (u j) := fun j hj => by
   rw [hN, List.getElem?_toArray, zCM hb2, zCM hb1, if_neg (by simp), if_pos (by rw [List.length_drop, hcsl]; omega)]
   simpa using hcs j hj
  have hres := zL5 (w := w) (w' := w.drew.setRow k N) (Z := Z) (Z' := Z) hlen hkN (by omega) hroom hm hN0 hNj hp0 hpp hp hx (fun b hb => setRow_other _ _ _ _ (hk0 b hb)) (fun j hj b hb => setRow_other _ _ _ _ (hkj j hj b hb))
  refine ⟨_, [⟨.slice (some ⟨k, 0, none⟩) (xs.length + 1) c, k :: (n' 0 ++ (List.range xs.flatten.length).flatMap n), 1⟩], rfl, ⟨rfl, rfl, rfl, by rw [setRow_size]; exact Nat.le_refl _, fun q hq hnq => ?_⟩, fun j lf xs' _ h => ?_, .one (.one (.own hres)), by simpa [Leaf.all] using hnodup, fun q hq => ?_⟩
  ·
   refine setRow_other _ _ _ _ (fun e => hnq ?_)
   subst e
   simp [Leaf.all]
  · rcases j with _ | _ | j <;> simp at h
  ·
   have hq : q ∈ k :: (n' 0 ++ (List.range xs.flatten.length).flatMap n) := by simpa [Leaf.all] using hq
   rcases List.mem_cons.1 hq with rfl | hq
   · exact .inr ⟨0, _, rfl, by simp, fun xs' h => by simp at h⟩
   ·
    rcases List.mem_append.1 hq with hq | hq
    · exact .inr ⟨1, _, rfl, by simp [hq], fun xs' h => by simp at h⟩
    · exact .inr ⟨0, _, rfl, List.mem_cons_of_mem _ hq, fun xs' h => by simp at h⟩
 ·
  refine (grow k c xs.length 0 vb vc cur vcur ty vty [u' 0] w hi hnc.1 (by omega) hl hvb hk (by omega) hv rfl hDg hCg hD1).mono ?_
  rintro e w' ⟨G, zs, N, W, rfl, hG1, hG2, hzs, hN, rfl, hWN, hsame⟩
  have hNs : N.size = G := by
   rw [hN]
   simp only [List.size_toArray, List.length_append, List.length_drop, hcsl, hzs, List.length_take, List.length_cons, List.length_nil]
   omega
  have hN0 : N[0]? = some (u' 0) := by rw [hN, List.getElem?_toArray]; simp
  have hNj : ∀ j, j < xs.flatten.length → N[j + 1]? = some (u j) := fun j hj => by
   have h1 := hcs j hj
   rw [hN, List.getElem?_toArray]
   simp only [Nat.zero_mul, List.take_zero, List.nil_append, List.drop_zero, List.cons_append, List.getElem?_cons_succ]
   rw [List.getElem?_append_left (by rw [hcsl]; omega)]
   exact h1
  have hlt0 : ∀ b ∈ n' 0, b < w.heap.size := hp0.lt
  have hltj : ∀ j, j < xs.flatten.length → ∀ b ∈ n j, b < w.heap.size := fun j hj => (hpp j _ (List.getElem?_eq_getElem hj)).lt
  have hres := zL5 (w := w) (w' := w') (Z := Z) (Z' := Z) hlen hWN (by omega) hG1 hG2 hN0 hNj hp0 hpp hp hx (fun b hb => hsame.block b (hlt0 b hb) (by simp)) (fun j hj b hb => hsame.block b (hltj j hj b hb) (by simp))
  have hnodup2 : (w.heap.size :: (n' 0 ++ (List.range xs.flatten.length).flatMap n)).Nodup := by
   refine List.nodup_cons.2 ⟨fun h => ?_, (List.nodup_cons.1 hnodup).2⟩
   rcases List.mem_append.1 h with h | h
   · exact Nat.lt_irrefl _ (hlt0 _ h)
   ·
    obtain ⟨j, hj, hb⟩ := List.mem_flatMap.1 h
    exact Nat.lt_irrefl _ (hltj j (List.mem_range.1 hj) _ hb)
  refine ⟨_, [⟨.slice (some ⟨w.heap.size, 0, none⟩) (xs.length + 1) G, w.heap.size :: (n' 0 ++ (List.range xs.flatten.length).flatMap n), 1⟩], rfl, ⟨hsame.os, hsame.tape, hsame.output, hsame.size, fun q hq _ => hsame.block q hq (by simp)⟩, fun j lf xs' _ h => ?_, .one (.one (.own hres)), by simpa [Leaf.all] using hnodup2, fun q hq => ?_⟩
  · rcases j with _ | _ | j <;> simp at h
  ·
   have hq : q ∈ w.heap.size :: (n' 0 ++ (List.range xs.flatten.length).flatMap n) := by simpa [Leaf.all] using hq
   rcases List.mem_cons.1 hq with rfl | hq
   · exact .inl (Nat.le_refl _)
   ·
    rcases List.mem_append.1 hq with hq | hq
    · exact .inr ⟨1, _, rfl, by simp [hq], fun xs' h => by simp at h⟩
    · exact .inr ⟨0, _, rfl, List.mem_cons_of_mem _ hq, fun xs' h => by simp at h⟩
end Go.Rl

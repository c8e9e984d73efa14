/- R, part X: laws for slices.Insert at elements of any size. -/
import Derived.Test.YtmjfdldfaeaolaaRlW
import Derived.Shelf.Spec.SlicesInsert
import Derived.Lib.AppendZerosOnto
import Derived.Laws.NewBlocks
import Derived.Laws.CopyRow
namespace Go.Rl
open Go.RowKit

/-- What 'copy' does at elements of any size. -/
theorem run_copy_N {P : Program} (w : World) (dT sT ty elem : TypeId) (g o dLen dCap : Nat) (a : Addr) (sLen sCap sz : Nat) (cur : Array Value) (t : TypeId) (cs : List Value)
    (hu : P.underlying dT = some (.slice elem)) (hs : (P.info? elem).map (·.size) = some sz) (hg : w.heap[g]? = some (.cells cur t (0, 0))) (hn : cs.length = Nat.min sLen dLen * sz)
    (hsrc : ∀ j v, cs[j]? = some v → w.cell? (a.add j) = some v) (hfit : o + cs.length ≤ cur.size) (h1 : ∀ v ∈ cs, v.oneCell' = true) :
    (Builtin.copy_ #[dT, sT] ty #[.slice (some ⟨g, o, none⟩) dLen dCap, .slice (some a) sLen sCap]).run P w =
      .ok (goInt (Nat.min sLen dLen)) (w.setRow g (over cur.toList o cs).toArray) := by
  have hl := run_loadCells_list (P := P) w a cs hsrc
  have hst := run_storeCells_at P g o t cs 0 cur w hg (by simpa using hfit) h1
  cases hq : P.info? elem with
  | none => simp [hq] at hs
  | some i =>
    have hi : i.size = sz := by simpa [hq] using hs
    simp [Builtin.copy_, run_underlying hu, Builtin.lenOf, Builtin.firstCells, sizeOf, typeInfo, hq, hi, ← hn, hl, hst, over]
theorem cell_row {w : World} {k : Nat} {cur : Array Value} {ty : TypeId} (h : w.heap[k]? = some (.cells cur ty (0, 0))) (j : Nat) : w.cell? ⟨k, j, none⟩ = cur[j]? := by simp [World.cell?, h]
theorem flat_vals : ∀ {ps : List PV}, (∀ p ∈ ps, PV.isV p = true) → ∃ C : List Value, ps = C.map PV.v
  | [], _ => ⟨[], rfl⟩
  | p :: ps, h => by
    obtain ⟨C, rfl⟩ := flat_vals (ps := ps) (fun q hq => h q (by simp [hq]))
    have := h p (by simp)
    cases p with
    | v x => exact ⟨x :: C, rfl⟩
    | _ => cases this
theorem pvo_flat {Z : Nat → Prop} {w : World} {k c sz : Nat} {cur : Array Value} {ty : TypeId} {ys : List (List PV)} (C : List Value) (hC : ys.flatten = C.map PV.v) (hlen : ∀ es ∈ ys, es.length = sz) (hk : w.heap[k]? = some (.cells cur ty (0, 0))) (hsz : cur.size = c * sz) (hc : ys.length ≤ c ∧ 0 < c) (hm : c ≤ maxLen)
    (hcur : ∀ (j : Nat) (v : Value), C[j]? = some v → cur[j]? = some v) (h1 : ∀ v ∈ C, v.oneCell' = true) : PVO Z w (.sl true sz ys) (.slice (some ⟨k, 0, none⟩) ys.length c) [k] := by
  have hl : ys.flatten.length = C.length := by rw [hC, List.length_map]
  have key : ∀ (j : Nat) (p : PV), ys.flatten[j]? = some p → ∃ v, C[j]? = some v ∧ p = .v v := fun j p hj => by
    rw [hC, List.getElem?_map] at hj
    obtain ⟨v, hv, e⟩ := Option.map_eq_some_iff.1 hj
    exact ⟨v, hv, e.symm⟩
  have := PVO.own (Z := Z) (w := w) sz ys k c cur ty hlen hk hsz hc hm (fun j => (cur[j]?).getD undef) (fun _ => []) (fun j hj => by
    obtain ⟨v, hv, _⟩ := key j _ (List.getElem?_eq_getElem hj)
    rw [hcur j v hv]; rfl) (fun j p hj => by
    obtain ⟨v, hv, rfl⟩ := key j p hj
    rw [hcur j v hv]
    exact .v v (h1 v (List.mem_of_getElem? hv)))
  rwa [flatMap_no] at this
theorem pvo_flat_inv {Z : Nat → Prop} {w : World} {sz : Nat} {xs : List (List PV)} {v : Value} {N : List Nat} (h : PVO Z w (.sl true sz xs) v N) (hf : FlatP xs) (hne : xs ≠ []) :
    ∃ (k c : Nat) (cur : Array Value) (ty : TypeId) (C : List Value), v = .slice (some ⟨k, 0, none⟩) xs.length c ∧ N = [k] ∧ w.heap[k]? = some (.cells cur ty (0, 0)) ∧ cur.size = c * sz ∧ xs.length ≤ c ∧ c ≤ maxLen ∧ xs.flatten = C.map PV.v ∧ C = cur.toList.take (xs.length * sz) ∧ (∀ v ∈ C, v.oneCell' = true) ∧ ∀ es ∈ xs, es.length = sz := by
  cases h with
  | nil => exact absurd rfl hne
  | own _ _ k c cur ty hlen hk hsz hc hm u n hcell hp =>
    obtain ⟨C, hC⟩ := flat_vals (ps := xs.flatten) (fun p hp' => by
      obtain ⟨es, h1, h2⟩ := List.mem_flatten.1 hp'
      exact hf es h1 p h2)
    have hl : xs.flatten.length = C.length := by rw [hC, List.length_map]
    have hfl : xs.flatten.length = xs.length * sz := flat_len hlen
    have key : ∀ (j : Nat) (v : Value), C[j]? = some v → cur[j]? = some v ∧ v.oneCell' = true ∧ n j = [] := fun j v hj => by
      have hlt := (List.getElem?_eq_some_iff.1 hj).1
      have h1 := hp j (.v v) (by rw [hC, List.getElem?_map, hj]; rfl)
      have h2 := hcell j (by omega)
      generalize n j = M at h1
      generalize u j = x at h1 h2
      cases h1
      exact ⟨h2, ‹_›, rfl⟩
    refine ⟨k, c, cur, ty, C, rfl, ?_, hk, hsz, hc.1, hm, hC, ?_, fun v hv => ?_, hlen⟩
    · rw [flatMap_eq (g := fun _ => []) (fun j hj => ?_), flatMap_no]
      have hj' := List.mem_range.1 hj
      exact (key j _ (List.getElem?_eq_getElem (by omega))).2.2
    · apply List.ext_getElem?
      intro j
      rw [List.getElem?_take]
      split
      · have := (key j _ (List.getElem?_eq_getElem (by omega : j < C.length))).1
        rw [List.getElem?_eq_getElem (by omega)]
        simpa using this.symm
      · rw [List.getElem?_eq_none (by omega)]
    · obtain ⟨j, hj⟩ := List.getElem?_of_mem hv
      exact (key j v hj).2.1
/-- The promise of slices.Insert of one element ahead of another one, out of its two roads. -/
theorem con_insert {P : Program} {f : FuncId} {sz : Nat} {E : TypeId} (hz : 0 < sz)
    (shift : ∀ (k c n i vb vc : Nat) (cur vcur : Array Value) (ty vty : TypeId) (vs : List Value) (w : World), i < n → n + 1 ≤ c → c ≤ 9223372036854775807 → vb ≠ k → w.heap[k]? = some (.cells cur ty (0, 0)) → cur.size = c * sz → w.heap[vb]? = some (.cells vcur vty (0, 0)) → vcur.size ≠ 0 → vs.length = sz →
      (∀ (j : Nat) (v : Value), vs[j]? = some v → vcur[j]? = some v) → (∀ (j : Nat) (v : Value), j < n * sz → cur[j]? = some v → v.oneCell' = true) → (∀ v ∈ vs, v.oneCell' = true) →
      Calls P f #[.slice (some ⟨k, 0, none⟩) n c, .int .i64 i, .slice (some ⟨vb, 0, none⟩) 1 vc] w fun e w' =>
        e = .returned (.slice (some ⟨k, 0, none⟩) (n + 1) c) ∧ w' = w.drew.setRow k (over (over cur.toList ((i + 1) * sz) ((cur.toList.take (n * sz)).drop (i * sz))) (i * sz) vs).toArray)
    (grow : ∀ (k c n i vb vc : Nat) (cur vcur : Array Value) (ty vty : TypeId) (vs : List Value) (w : World), i < n → n ≤ c → c < n + 1 → n ≤ 1000000000 → vb ≠ k → w.heap[k]? = some (.cells cur ty (0, 0)) → cur.size = c * sz → w.heap[vb]? = some (.cells vcur vty (0, 0)) → vs.length = sz →
      (∀ (j : Nat) (v : Value), vs[j]? = some v → vcur[j]? = some v) → (∀ (j : Nat) (v : Value), j < n * sz → cur[j]? = some v → v.oneCell' = true) → (∀ v ∈ vs, v.oneCell' = true) →
      Calls P f #[.slice (some ⟨k, 0, none⟩) n c, .int .i64 i, .slice (some ⟨vb, 0, none⟩) 1 vc] w fun e w' =>
        ∃ (G : Nat) (zs : List Value) (N : Array Value) (W : World), e = .returned (.slice (some ⟨w.heap.size, 0, none⟩) (n + 1) G) ∧ n + 1 ≤ G ∧ G ≤ maxLen ∧ zs.length = (G - n - 1) * sz ∧
          N = (cur.toList.take (i * sz) ++ vs ++ ((cur.toList.take (n * sz)).drop (i * sz)) ++ zs).toArray ∧ w' = W ∧ W.heap[w.heap.size]? = some (.cells N E (0, 0)) ∧ Same [] w W)
    (xs : List (List PV)) (es : List PV) (i : Nat) (hi : i < xs.length) (hl : xs.length ≤ 1000000000) (hx : FlatP xs) (he : FlatP [es]) :
    Con P f [.one (.sl true sz xs), .one (.v (.int .i64 i)), .one (.sl true sz [es])] [none, none] [.one (.sl true sz (xs.take i ++ es :: xs.drop i))] := by
  intro Z w vs E' _ ha hZ hnd hlt
  cases ha with
  | cons h1 t1 => cases t1 with
  | cons h2 t2 => cases t2 with
  | cons h3 t3 =>
  cases t3
  cases h1 with
  | one h1 =>
  cases h2 with
  | one h2 =>
  cases h3 with
  | one h3 =>
  cases h1 with
  | nf hn => simp [PV.nf] at hn
  | own h1 =>
  cases h3 with
  | nf hn => simp [PV.nf] at hn
  | own h3 =>
  cases h2 with
  | nf _ h2 =>
  cases h2
  obtain ⟨k, c, cur, ty, C, rfl, rfl, hk, hcz, hnc, hm, hC, hCt, hC1, hlen⟩ := pvo_flat_inv h1 hx (fun e => by subst e; simp at hi)
  obtain ⟨vb, vc, vcur, vty, D, rfl, rfl, hv, hvz, hvc, hvm, hD, hDt, hD1, hvlen⟩ := pvo_flat_inv h3 he (by simp)
  have hDl : D.length = sz := by
    have := flat_len hvlen
    rw [hD, List.length_map] at this
    simpa using this
  have hCl : C.length = xs.length * sz := by
    have := flat_len hlen
    rwa [hC, List.length_map] at this
  have hml : maxLen ≤ 9223372036854775807 := by decide
  have hvb : vb ≠ k := fun e => by
    subst e
    simp [Leaf.all] at hnd
  have hvz0 : vcur.size ≠ 0 := by
    rw [hvz]
    have h1 : 1 ≤ vc := hvc
    exact Nat.mul_ne_zero (by omega) (by omega)
  have hDg : ∀ (j : Nat) (v : Value), D[j]? = some v → vcur[j]? = some v := fun j v h => by
    rw [hDt, List.getElem?_take] at h
    split at h
    · simpa using h
    · cases h
  have hCg : ∀ (j : Nat) (v : Value), j < xs.length * sz → cur[j]? = some v → v.oneCell' = true := fun j v hj h => by
    refine hC1 v (List.mem_of_getElem? (i := j) ?_)
    rw [hCt, List.getElem?_take, if_pos hj]
    simpa using h
  -- what the new row holds
  have hyl : (xs.take i ++ es :: xs.drop i).length = xs.length + 1 := by simp; omega
  have hylen : ∀ q ∈ xs.take i ++ es :: xs.drop i, q.length = sz := fun q hq => by
    rcases List.mem_append.1 hq with hq | hq
    · exact hlen q (List.mem_of_mem_take hq)
    · rcases List.mem_cons.1 hq with rfl | hq
      · exact hvlen _ (by simp)
      · exact hlen q (List.mem_of_mem_drop hq)
  have hes : es = D.map PV.v := by simpa using hD
  have hye : (xs.take i ++ es :: xs.drop i).flatten = (C.take (i * sz) ++ D ++ C.drop (i * sz)).map PV.v := by
    rw [List.flatten_append, List.flatten_cons, flat_take hlen, flat_drop hlen, hC, hes]
    simp [List.map_take, List.map_drop]
  have hCD1 : ∀ v ∈ C.take (i * sz) ++ D ++ C.drop (i * sz), v.oneCell' = true := fun v hv' => by
    simp only [List.mem_append] at hv'
    rcases hv' with (h | h) | h
    · exact hC1 v (List.mem_of_mem_take h)
    · exact hD1 v h
    · exact hC1 v (List.mem_of_mem_drop h)
  have hin : i * sz ≤ C.length := by rw [hCl]; exact Nat.mul_le_mul_right _ (by omega)
  by_cases hroom : xs.length + 1 ≤ c
  · refine (shift k c xs.length i vb vc cur vcur ty vty D w hi hroom (Nat.le_trans hm hml) hvb hk hcz hv hvz0 hDl hDg hCg hD1).mono ?_
    rintro e w' ⟨rfl, rfl⟩
    have hcl : cur.toList.length = c * sz := by simpa using hcz
    rw [← hCt]
    have hdl : (C.drop (i * sz)).length = (xs.length - i) * sz := by rw [List.length_drop, hCl, Nat.sub_mul]
    have hb1 : (i + 1) * sz + (C.drop (i * sz)).length ≤ cur.toList.length := by
      rw [hdl, hcl, ← Nat.add_mul]
      exact Nat.mul_le_mul_right _ (by omega)
    have hb2 : i * sz + D.length ≤ (over cur.toList ((i + 1) * sz) (C.drop (i * sz))).length := by
      rw [over_len hb1, hDl, hcl, ← Nat.succ_mul]
      exact Nat.mul_le_mul_right _ (by omega)
    obtain ⟨N, hN⟩ : ∃ N, N = (over (over cur.toList ((i + 1) * sz) (C.drop (i * sz))) (i * sz) D).toArray := ⟨_, rfl⟩
    rw [← hN]
    have hNs : N.size = c * sz := by rw [hN, List.size_toArray, over_len hb2, over_len hb1, hcl]
    have hkN := setRow_heap w.drew k cur N ty (0, 0) hk
    have hget : ∀ (j : Nat) (v : Value), (C.take (i * sz) ++ D ++ C.drop (i * sz))[j]? = some v → N[j]? = some v := fun j v hj => by
      rw [hN, List.getElem?_toArray, over_get hb2, over_get hb1]
      have htl : (C.take (i * sz)).length = i * sz := by rw [List.length_take]; omega
      have htd : (C.take (i * sz) ++ D).length = (i + 1) * sz := by rw [List.length_append, htl, hDl, Nat.succ_mul]
      have hs : (i + 1) * sz = i * sz + sz := Nat.succ_mul _ _
      by_cases h1 : j < i * sz
      · rw [if_neg (by omega), if_neg (by omega)]
        rw [List.getElem?_append_left (by omega), List.getElem?_append_left (by omega), List.getElem?_take, if_pos h1, hCt, List.getElem?_take] at hj
        split at hj
        · exact hj
        · cases hj
      · by_cases h2 : j < (i + 1) * sz
        · rw [if_pos (by omega)]
          rw [List.getElem?_append_left (by omega), List.getElem?_append_right (by omega), htl] at hj
          exact hj
        · rw [List.getElem?_append_right (by omega), htd] at hj
          have h3 := (List.getElem?_eq_some_iff.1 hj).1
          rw [if_neg (by omega), if_pos (by omega)]
          exact hj
    refine ⟨_, [⟨.slice (some ⟨k, 0, none⟩) (xs.length + 1) c, [k], sz⟩], rfl, ⟨rfl, rfl, rfl, by rw [setRow_size]; exact Nat.le_refl _, fun q hq hnq => ?_⟩, fun j lf xs' _ h => ?_, .one (.one (.own ?_)), by simp [Leaf.all], fun q hq => ?_⟩
    · refine setRow_other _ _ _ _ (fun e => hnq ?_)
      subst e
      simp [Leaf.all]
    · rcases j with _ | _ | j <;> simp at h
    · have := pvo_flat (Z := no) (w := w.drew.setRow k N) (C.take (i * sz) ++ D ++ C.drop (i * sz)) hye hylen hkN hNs ⟨by omega, by omega⟩ hm hget hCD1
      rwa [hyl] at this
    · simp [Leaf.all] at hq
      subst hq
      exact .inr ⟨0, _, rfl, by simp, fun xs' h => by simp at h⟩
  · refine (grow k c xs.length i vb vc cur vcur ty vty D w hi hnc (by omega) hl hvb hk hcz hv hDl hDg hCg hD1).mono ?_
    rintro e w' ⟨G, zs, N, W, rfl, hG1, hG2, hzs, hN, rfl, hWN, hsame⟩
    rw [← hCt] at hN
    have hct : cur.toList.take (i * sz) = C.take (i * sz) := by rw [hCt, List.take_take]; congr 1; rw [hCl] at hin; omega
    rw [hct] at hN
    have hNs : N.size = G * sz := by
      rw [hN]
      simp only [List.size_toArray, List.length_append, List.length_take, List.length_drop, hzs, hDl, hCl]
      have h1 : (G - xs.length - 1) * sz = G * sz - xs.length * sz - sz := by rw [Nat.sub_mul, Nat.sub_mul, Nat.one_mul]
      have h2 : (xs.length + 1) * sz ≤ G * sz := Nat.mul_le_mul_right _ hG1
      rw [Nat.succ_mul] at h2
      have h3 : i * sz ≤ xs.length * sz := Nat.mul_le_mul_right _ (by omega)
      omega
    refine ⟨_, [⟨.slice (some ⟨w.heap.size, 0, none⟩) (xs.length + 1) G, [w.heap.size], sz⟩], rfl, ⟨hsame.os, hsame.tape, hsame.output, hsame.size, fun q hq _ => hsame.block q hq (by simp)⟩, fun j lf xs' _ h => ?_, .one (.one (.own ?_)), by simp [Leaf.all], fun q hq => ?_⟩
    · rcases j with _ | _ | j <;> simp at h
    · have := pvo_flat (Z := no) (w := w') (C.take (i * sz) ++ D ++ C.drop (i * sz)) hye hylen hWN hNs ⟨by omega, by omega⟩ hG2 (fun j v hj => by
        rw [hN, List.getElem?_toArray, List.getElem?_append_left (List.getElem?_eq_some_iff.1 hj).1]
        exact hj) hCD1
      rwa [hyl] at this
    · simp [Leaf.all] at hq
      subst hq
      exact .inl (Nat.le_refl _)
end Go.Rl

/- Promises of functions, proved by walks over their operations; no conditions beyond those that each theorem states. -/
import Derived.Test.YtgdfpjpfomcilaaGreatRgB
import Derived.Test.YtgdfpjpfomcilaaGreatRlT
set_option linter.unusedSimpArgs false
set_option linter.unusedVariables false
namespace Go.Rl
open Go.RowKit
section
variable {γ : Gho} {P : Program} {n : Nat} {k e : TypeId} {w0 : World} {I : Fr} {Qm : Exit → Act → World → Prop} {ops : Array Oper}
theorem run_wpK (hG : Gh γ w0 I.I) (hdst : zEp n ops = true) {s' : St} {rest : List Nat} : ∀ {Fs : List Fp} {l : List Oper} {s : St} (_ : Run γ P n ops Fs l s s') (_ : ∀ L a w, Rel w0 I n L s' a w → wpOps P ops Qm rest a w) (k : Nat), (∀ j o, l[j]? = some o → ops[k + j]? = some o) → ∀ {L : Pl} {a : Act} {w : World}, Rel w0 I n L s a w → wpOps P ops Qm (List.range' k l.length ++ rest) a w := by
 intro Fs l s h
 induction h with
 | nil => intro hQ k _ L a w hr; exact hQ _ _ _ hr
 | run M B hg h _ ih =>
  rename_i o l s s' δ hrun
  intro hQ k hl L a w hr
  have h0 : ops[k]? = some o := by simpa using hl 0 o rfl
  rw [List.length_cons, List.range'_succ, List.cons_append, wpOps_cons]
  exact zHK hG h0 (zCP hdst h0) (.run M B hg h (zQL ..) (zJB ..)) hr (fun L' a' w' hr' => ih hQ (k + 1) (fun j o hj => by have := hl (j + 1) o (by simpa using hj); simpa [Nat.add_assoc, Nat.add_comm 1 j] using this) hr')
 | not hg _ ih =>
  rename_i o l s s' hrun
  intro hQ k hl L a w hr
  have h0 : ops[k]? = some o := by simpa using hl 0 o rfl
  rw [List.length_cons, List.range'_succ, List.cons_append, wpOps_cons]
  exact zHK (F := default) hG h0 (zCP hdst h0) (.not hg) hr (fun L' a' w' hr' => ih hQ (k + 1) (fun j o hj => by have := hl (j + 1) o (by simpa using hj); simpa [Nat.add_assoc, Nat.add_comm 1 j] using this) hr')
variable {b : Nat} {ks : List Int}
theorem runM (hdst : zEp n ops = true) {s s' : St} {rest : List Nat} {Fs : List Fp} {l : List Oper} (h : ∀ o : Obj, (∀ w : World, w.heap[b]? = some o → MapAt P k e w b ks) → Run (some (b, o)) P n ops Fs l s s')
  (kk : Nat) (hl : ∀ j o, l[j]? = some o → ops[kk + j]? = some o) {L : Pl} {a : Act} {w : World} (hr : Rel w0 I n L s a w) (hm : MapAt P k e w b ks)
  (hQ : ∀ L a w, Rel w0 I n L s' a w → MapAt P k e w b ks → wpOps P ops Qm rest a w) : wpOps P ops Qm (List.range' kk l.length ++ rest) a w := by
 obtain ⟨es, clock, ho, hall⟩ := hm.obj
 have hni : b ∉ (I.root L w).I := fun hx => by
  obtain ⟨l, _, c, t, z, hc⟩ := zDU hx
  rw [ho] at hc
  cases hc
 have hlt := (Array.getElem?_eq_some_iff.1 ho).1
 refine run_wpK (w0 := w) (I := I.root L w) (fun k' o' e' => by cases e'; exact ⟨ho, hni⟩) hdst (h _ hall) (fun L' a' w' hr' => hQ L' a' w' (hr.unroot hr') (hall w' ((hr'.same.block b hlt hni).trans ho))) kk hl hr.root
variable {s : St} {Q : Exit → St → List Int → Prop}
theorem zBW {id : Nat} {ops : List Oper} {Fs : List Fp} {s' : St} (hd : zEp n ops.toArray = true) (h : ∀ o : Obj, (∀ w : World, w.heap[b]? = some o → MapAt P k e w b ks) → Run (some (b, o)) P n ops.toArray Fs ops s s') (hq : Q .normal s' ks) : TrM γ P k e n b (.region id ops.toArray false) s ks Q :=
 zQe fun o ho => zAA hd (h o ho) hq
theorem zEz {id : Nat} {ops : List Oper} {Fs : List Fp} {s' : St} (hm : P.follows .mixedOrders = true) (hd : zEp n ops.toArray = true) (h : ∀ o : Obj, (∀ w : World, w.heap[b]? = some o → MapAt P k e w b ks) → Run (some (b, o)) P n ops.toArray Fs ops s s') (hl : lexF ops.toArray Fs ops.length 0 (Array.replicate ops.length false) = true) (hq : Q .normal s' ks) : TrM γ P k e n b (.region id ops.toArray true) s ks Q :=
 zQe fun o ho => zAc hm hd (h o ho) hl hq
theorem zJb {ob : Obj} (hall : ∀ w : World, w.heap[b]? = some ob → MapAt P k e w b ks) {o : Oper} {M B : List Nat} {t : TypeId} {xm xk : Operand} (ho : o.op = .lookup t xm xk false) (hk : P.underlying k = some (.int .i64)) (he : P.underlying e = some .bool) (ht : P.underlying t = some (.map k e))
  (hz : ∀ w, (zeroValue e).run P w = .ok (.bool false) w) {d1 d2 : Option Nat} {x : Int} (hm : s.ev xm = .p d1 (.v (.map (some b)))) (hx : s.ev xk = .p d2 (.v (.int .i64 x))) (hw : (Lit.int .i64 x).wf = true) : StepD (some (b, ob)) P n o M B s { put := .p none (.v (.bool (decide (x ∈ ks)))) } := by
 intro s' ag hd w0 I L a w hG hr K Q hK
 have h1 := hr.evv ((ag.ev1 ho (by simp [Op.operands])).trans hm)
 have h2 := hr.evv ((ag.ev1 ho (by simp [Op.operands])).trans hx)
 obtain ⟨g1, g2⟩ := hG b _ rfl
 have hlt := (Array.getElem?_eq_some_iff.1 g1).1
 have hb : w.heap[b]? = some ob := (hr.same.block b hlt g2).trans g1
 have he' : (execOp a.eval o).run P w = .ok (.value (.bool (decide (x ∈ ks)))) w := by
  simp only [execOp, ho, h1, h2, Sem.run_bind, (hall w hb).look hk he ht (hz w) hw]
  rfl
 unfold Oper.wp
 rw [he', Oper.upon_value]
 exact hK L _ w (by
  have := hr.put hd (av := .p none (.v (.bool (decide (x ∈ ks))))) (v := .bool (decide (x ∈ ks))) (by simp only [AVR]; exact ⟨.v _ rfl, fun _ h => by cases h⟩)
  rw [zLa]
  exact this)
theorem zKf {id : Nat} {ops : List Oper} (m : Nat) {o : Oper} {Fs : List Fp} {s' : St} {t : TypeId} {xm xk xv : Operand} {d1 d2 d3 : Option Nat} {x : Int} (hd : zEp n ops.toArray = true)
  (h : ∀ o : Obj, (∀ w : World, w.heap[b]? = some o → MapAt P k e w b ks) → Run (some (b, o)) P n ops.toArray Fs (ops.take m) s s') (hlen : ops.length = m + 1) (hlast : ops[m]? = some o)
  (ho : o.op = .mapUpdate t xm xk xv) (hg : o.guard = none) (hdst : o.dst = none) (hm : s'.ev xm = .p d1 (.v (.map (some b)))) (hx : s'.ev xk = .p d2 (.v (.int .i64 x))) (hv : s'.ev xv = .p d3 (.v (.bool true)))
  (hk : P.underlying k = some (.int .i64)) (he : P.underlying e = some .bool) (ht : P.underlying t = some (.map k e)) (hw : (Lit.int .i64 x).wf = true) (hn : ks.length < maxLen) (hq : Q .normal s' (ks ++ [x])) : TrM γ P k e n b (.region id ops.toArray false) s ks Q := by
 intro w0 I L a w hG hr hb hz hma
 refine wp_region ?_
 have key := runM (rest := [m]) (Qm := fun ex a' w' => ∃ s' L' ks', Q ex s' ks' ∧ Rel w0 I n L' s' a' w' ∧ MapAt P k e w' b ks') hd h 0 (fun j oj hj => by
   rw [List.getElem?_take] at hj
   split at hj
   · simpa using hj
   · cases hj) hr hma (fun L' a' w' hr' hma' => by
  have h1 := hr'.evv hm
  have h2 := hr'.evv hx
  have h3 := hr'.evv hv
  obtain ⟨w2, hrun, hma2, hgrow, ob, hob, hoc⟩ := hma'.upd hk he ht hw hn
  have he' : (execOp a'.eval o).run P w' = .ok .skip w2 := by
   simp only [execOp, ho, h1, h2, h3, Sem.run_bind, hrun]
   rfl
  rw [wpOps_cons]
  unfold wpOp
  have hlast' : ops.toArray[m]? = some o := by simpa using hlast
  simp only [hlast', Region.wanted, hg, if_true]
  refine .inl ?_
  unfold Oper.wp
  rw [he', Oper.upon_skip, hdst]
  exact ⟨s', L', _, hq, hr'.grown (B := b) hb (fun x hx => Nat.lt_of_lt_of_le (hz x hx) hb) hgrow (fun r hr2 => by cases hr2; exact ⟨Nat.le_refl _, ob, hob, hoc⟩), hma2⟩)
 have e1 : List.range' 0 (ops.take m).length ++ [m] = List.range ops.length := by
  rw [List.length_take, hlen, Nat.min_eq_left (by omega), List.range_eq_range', List.range'_concat]
  simp
 rw [e1] at key
 simpa using key
end
section
variable {γ : Gho} {P : Program} {n : Nat} {k e : TypeId} {s : St}
theorem tr_made {Q : Exit → St → Prop} {id : Nat} {o : Oper} {ops : List Oper} {d : Nat} {t : TypeId} {c : Code} (ho : o.op = .makeMap t none) (hdst : o.dst = some d) (hg : o.guard = none) (hd : zEp n (o :: ops).toArray = true)
  (h : ∀ b : Nat, ∃ Fs s', (∀ ob : Obj, (∀ w : World, w.heap[b]? = some ob → MapAt P k e w b []) → Run (some (b, ob)) P n (o :: ops).toArray Fs ops (s.put (some d) (.p none (.v (.map (some b))))) s') ∧ TrM none P k e n b c s' [] (fun ex s1 _ => Q ex s1)) : Tr γ P n (.seq (.region id (o :: ops).toArray false) c) s Q := by
 intro w0 I L a w hG hr
 obtain ⟨Fs, s', hrun, hc⟩ := h w.heap.size
 have hdn : d < n := zCP hd (i := 0) (o := o) (by simp) d hdst
 refine wp_seq (wp_region ?_)
 have hr1 : Rel w (I.root L w) n (L.trim w) (s.put (some d) (.p none (.v (.map (some w.heap.size))))) (a.put (some d) (.map (some w.heap.size))) (w.alloc (.map #[] 0)) :=
  (hr.root.grown (B := w.heap.size) (Nat.le_refl _) (fun x hx => (hr.zlt x hx).1) (World.grownBy_alloc w _ none) (fun r hr2 => by cases hr2)).put (by intro x hx; cases hx; exact hdn) (by simp only [AVR]; exact ⟨.v _ rfl, fun _ h => by cases h⟩)
 have key : wpOps P (o :: ops).toArray (Exit.then (c.wp P (fun e a' w' => ∃ s' L', Q e s' ∧ Rel w0 I n L' s' a' w')) (fun e a' w' => ∃ s' L', Q e s' ∧ Rel w0 I n L' s' a' w')) (List.range' 1 ops.length ++ []) (a.put (some d) (.map (some w.heap.size))) (w.alloc (.map #[] 0)) :=
  runM hd hrun 1 (fun j oj hj => by simpa [Nat.add_comm 1 j] using hj) hr1 (MapAt.made w) (fun L' a' w' hr' hma' => by
   refine wp_mono (hc w (I.root L w) L' a' w' (fun _ _ q => nomatch q) hr' (Nat.le_refl _) (fun x hx => (hr.zlt x hx).1) hma') (fun ex a2 w2 ⟨s2, L2, ks2, hq, hr2, _⟩ => ⟨s2, L2, hq, hr.unroot hr2⟩))
 rw [List.append_nil] at key
 have e1 : List.range (o :: ops).toArray.size = 0 :: List.range' 1 ops.length := by
  rw [List.range_eq_range']
  simp [List.range'_succ]
 rw [e1, wpOps_cons]
 unfold wpOp
 have h0 : (o :: ops).toArray[0]? = some o := by simp
 simp only [h0, Region.wanted, hg, if_true]
 refine .inl ?_
 unfold Oper.wp
 have he' : (execOp a.eval o).run P w = .ok (.value (.map (some w.heap.size))) (w.alloc (.map #[] 0)) := by
  simp only [execOp, ho, Option.map_none, Sem.run_bind, run_makeMap]
  rfl
 rw [he', Oper.upon_value, hdst]
 exact key
theorem zJU {b : Nat} {ks : List Int} {Q : Exit → St → List Int → Prop} {c : Code} {σ : Type} (KS : σ → List Int) (S : σ → St) (G : σ → Prop) (μ : σ → Nat) (x0 : σ) (h0 : G x0) (hw : Wk n s (S x0)) (hk : ks = KS x0) (round : ∀ x, G x → TrM γ P k e n b c (S x) (KS x) (thnM (fun s' ks' => ∃ x', G x' ∧ μ x' < μ x ∧ Wk n s' (S x') ∧ ks' = KS x') Q)) : TrM γ P k e n b (.loop c) s ks Q := by
 refine zPW (fun q s ks => ∃ x, G x ∧ μ x = q ∧ Wk n s (S x) ∧ ks = KS x) (μ x0) ⟨x0, h0, rfl, hw, hk⟩ (fun q s ks hI => ?_)
 obtain ⟨x, hG, rfl, hW, rfl⟩ := hI
 intro w0 I L a w hG2 hr hb hz hm
 refine wp_mono (zFI hW (round x hG) w0 I L a w hG2 hr hb hz hm) (fun ex a' w' ⟨s', L', ks', hq, h2⟩ => ⟨s', L', ks', ?_, h2⟩)
 cases ex with
 | normal =>
  obtain ⟨x', h1, h2, h3, h4⟩ := hq
  exact ⟨μ x', h2, x', h1, rfl, h3, h4⟩
 | _ => exact hq
theorem nxtM {σ : Type} {KS : σ → List Int} {S : σ → St} {G : σ → Prop} {μ : σ → Nat} {z : σ} {ks : List Int} {Q : Exit → St → List Int → Prop} (z' : σ) (hk : ks = KS z') (h1 : G z') (h2 : μ z' < μ z) (h3 : Wk n s (S z')) : thnM (fun s' ks' => ∃ x', G x' ∧ μ x' < μ z ∧ Wk n s' (S x') ∧ ks' = KS x') Q .normal s ks := ⟨z', h1, h2, h3, hk⟩
end
end Go.Rl
namespace Go.Rl
open Go.Proofs Go.Proofs.Tryz
set_option maxRecDepth 1000000
set_option maxHeartbeats 2000000
theorem en28 : En Tryz.prog 28 := zAm func28 (by decide) rfl
theorem en23 : En Tryz.prog 23 := zAm func23 (by decide) rfl
theorem en24 : En Tryz.prog 24 := zAm func24 (by decide) rfl
theorem zb4 : ∀ w, (zeroValue 4).run Tryz.prog w = .ok (.bool false) w := fun w => by
 obtain ⟨i, h1, h2, _, _⟩ := zD5 inf4
 simp [zeroValue, typeInfo, h1, h2]
theorem zOq (e : Ent) (b : Int) : Con Tryz.prog 28 [.agg [PV.v (.string e.user), PV.v (.int .i64 e.seq), PV.v (.int .i64 e.kind), PV.v (.string e.value)], .fbox [PV.v (.int .i64 b)]] [] [.one (.v (.bool (zED b e)))] := by
 refine zAQ func28 rfl rfl rfl rfl ?_
 refine zAB (zAA rfl (.run [] [2] rfl (zBO rfl 2 rfl rfl (by decide) rfl (by decide)) (.a rfl rfl .nil)) ?_)
 refine zAB (zAA rfl (.r rfl (zAC rfl rfl underlying56 rfl sizeOf54 (by decide)) (.r rfl (zAC rfl rfl underlying54 rfl sizeOf2 (by decide)) (.r rfl (zAD rfl rfl rfl isAgg2 rfl) (.r rfl (zAg rfl rfl isAgg2 rfl) (.r rfl (zB5 rfl rfl rfl) (.a rfl rfl .nil)))))) ?_)
 refine zAO ?_
 exact ends [_] [] (.cons (.tmp rfl) .nil) (.cons (.one .v (.v _)) .nil) (by decide) trivial
theorem zJl (sq : Int) (mem : List Ent) (rs : RunL) (sn : List Int) (hm : mem.length ≤ 2000000) (hl : rs.length ≤ 1000000) (hb : ∀ r ∈ rs, r.2.length ≤ 2000000) (hsn : sn.length ≤ 1000000) : Con Tryz.prog 7 [.agg [PV.v (.int .i64 sq), PV.sl false 4 (pvE mem), PV.sl false 1 (pvR rs), PV.sl false 1 (pvI sn)]] [] [.one (.v (.bool (okB sq mem rs sn)))] := by
 refine zAQ func7 rfl rfl rfl rfl ?_
 have hle := zAi rs
 have hlm := zAF mem
 have hls := zAT sn
 refine zAB (zAA rfl (.run [] [1] rfl (zBO rfl 1 rfl rfl (by decide) rfl (by decide)) (.a rfl rfl .nil)) ?_)
 refine zAB ?_
 refine zAB ?_
 refine zAY (s' := mk [(1, .ptr 1 0)] [(1, [.vi sq, .p none (.sl false 4 (pvE mem)), .p none (.sl false 1 (pvR rs)), .p none (.sl false 1 (pvI sn))])] []) ?_ ?_
 · exact zAJ ⟨rfl, trivial⟩ ⟨rfl, trivial⟩ trivial rfl
 rcases bfc (!(zAs sq 0 1000000000000)) with h1 | h1
 ·
  have h1' := h1
  replace h1' : (zAs sq 0 1000000000000) = true := zBG h1'
  rcases bfc (!(zAr mem)) with h2 | h2
  ·
   have h2' := h2
   replace h2' : (zAr mem) = true := zBG h2'
   rcases bfc (!(zBQ rs)) with h3 | h3
   ·
    have h3' := h3
    replace h3' : (zBQ rs) = true := zBG h3'
    refine zAA rfl (.r rfl (zAC rfl rfl underlying28 rfl sizeOf2 (by decide)) (.r rfl (zAD rfl rfl rfl isAgg2 rfl) (.run [1200] [] rfl (zAK rfl 1200 (X := []) en21 rfl (.val nod) (.cons (.one (.bor .v)) (.cons (.one (.bor .v)) (.cons (.one (.bor .v)) .nil))) (by decide) all_nil .nil (zBf sq 0 1000000000000) rfl rfl (nle rfl)) (.r rfl (zAW (zA5 (b := zAs sq 0 1000000000000) rfl rfl) (zAN h1)) (.m rfl rfl (.r rfl (zAC rfl rfl underlying28 rfl sizeOf24 (by decide)) (.r rfl (zAD rfl rfl rfl isAgg24 rfl) (.run [1700] [] rfl (zAK rfl 1700 (X := []) en22 rfl (.val nod) (.cons (.one (.bor (.sl nod))) .nil) (by decide) all_nil .nil (zC6 mem (by omega)) rfl rfl (nle rfl)) (.r rfl (zAW (zA5 (b := zAr mem) rfl rfl) (zAN h2)) (.r rfl (zBI rfl rfl) (.m rfl rfl (.r rfl (zAC rfl rfl underlying28 rfl sizeOf25 (by decide)) (.r rfl (zAD rfl rfl rfl isAgg25 rfl) (.run [2300] [] rfl (zAK rfl 2300 (X := []) en23 rfl (.val nod) (.cons (.one (.bor (.sl nod))) .nil) (by decide) all_nil .nil (zHx rs (by omega) hb) rfl rfl (nle rfl)) (.r rfl (zAW (zA5 (b := zBQ rs) rfl rfl) (zAN h3)) (.r rfl (zBI rfl rfl) (.m rfl rfl (.r rfl (zAC rfl rfl underlying28 rfl sizeOf26 (by decide)) (.r rfl (zAD rfl rfl rfl isAgg26 rfl) (.run [2900] [] rfl (zAK rfl 2900 (X := []) en24 rfl (.val nod) (.cons (.one (.bor (.sl nod))) .nil) (by decide) all_nil .nil (zKi sn (by omega)) rfl rfl (nle rfl)) (.r rfl (zA5 (b := zBP sn) rfl rfl) (.r rfl (zBI rfl rfl) .nil)))))))))))))))))))))) ?_
    refine zAZ (t := (!(zBP sn))) rfl (fun h4 => ?_) (fun h4 => ?_)
    ·
     replace h4 : (zBP sn) = false := zBF h4
     refine zAB ?_
     refine zAY (s' := mk [] [] []) ?_ ?_
     · exact zAJ trivial trivial trivial rfl
     refine zAA rfl (.a rfl rfl .nil) ?_
     refine zAO ?_
     exact ends [_] [] (.cons (.tmp (zAN (zGX (zO9 (by simpa using h4))))) .nil) (.cons (.one .v (.v _)) .nil) (by decide) trivial
    ·
     replace h4 : (zBP sn) = true := zBG h4
     refine zAM ?_
     refine zAY (s' := mk [(1, .ptr 1 0)] [(1, [.vi sq, .p none (.sl false 4 (pvE mem)), .p none (.sl false 1 (pvR rs)), .p none (.sl false 1 (pvI sn))])] []) ?_ ?_
     · exact zAJ ⟨rfl, trivial⟩ ⟨rfl, trivial⟩ trivial rfl
     refine tr_made (k := 2) (e := 4) rfl rfl rfl rfl (fun bm => ?_)
     refine ⟨_, _, fun ob hob => (.run [] [3] rfl (zAj rfl 3 inf2 rfl (by decide) rfl (by decide)) (.r rfl (zAE rfl rfl rfl rfl rfl sizeOf2 rfl (nle rfl)) (.a rfl rfl (.a rfl rfl .nil)))), ?_⟩
     refine zBu ?_
     refine zBu ?_
     have hbase : zBe sq mem rs sn = true := by simp_all [zBe]
     have hbm := zDq (l := mem) (by assumption)
     have hbr := zFS (rs := rs) (by assumption)
     have hbs := zFQ (sn := sn) (by assumption)
     have hev := zAF (ents rs)
     refine zBW rfl (fun ob hob => (.r rfl (zAC rfl rfl underlying28 rfl sizeOf25 (by decide)) (.r rfl (zAD rfl rfl rfl isAgg25 rfl) (.run [3500] [] rfl (zAK rfl 3500 (X := []) en25 rfl (.val nod) (.cons (.one (.bor (.sl nod))) .nil) (by decide) all_nil .nil (zDm rs (by omega) (by omega)) rfl rfl (nle rfl)) (.r rfl (zAy rfl rfl underlying24) (.m rfl rfl .nil)))))) ?_
     refine zFJ ?_
     refine zJU (σ := Nat) (fun _ => []) (fun i => mk [(1, .ptr 1 0), (3, .ptr 3 0), (4, .p none (.v (.map (some bm)))), (5, .vi 0), (35, .sl 3500 0 ((pvE (ents rs)).length)), (36, .vi ((pvE (ents rs)).length : Int)), (37, .vi (i:Int))] [(1, [.vi sq, .p none (.sl false 4 (pvE mem)), .p none (.sl false 1 (pvR rs)), .p none (.sl false 1 (pvI sn))]), (3, [.vi (zCc ((ents rs).take i))])] [(3500, 4, pvE (ents rs))]) (fun i => i ≤ (ents rs).length) (fun i => (ents rs).length - i) 0 (by simp) (zAJ ⟨rfl, rfl, rfl, rfl, rfl, rfl, (zAL (by omega)), trivial⟩ ⟨rfl, rfl, trivial⟩ ⟨rfl, trivial⟩ rfl) rfl ?_
     rintro i hG
     replace hG : i ≤ (ents rs).length := hG
     refine zBu (zBW rfl (fun ob hob => (.r rfl (zA4 rfl rfl rfl) .nil)) ?_)
     refine zBu ?_
     refine zHr (t := decide ((i:Int) < ((pvE (ents rs)).length : Int))) rfl (fun h5 => ?_) (fun h5 => ?_)
     ·
      replace h5 := of_decide_eq_true h5
      refine zGT ?_
      refine zBu ?_
      refine zFJ ?_
      refine zBu ?_
      obtain ⟨e, he⟩ : ∃ e, (ents rs)[i]? = some e := ⟨_, List.getElem?_eq_getElem (by omega)⟩
      refine zBW rfl (fun ob hob => (.r rfl (zAe i rfl rfl rfl rfl underlying24 sizeOf56 rfl rfl (by omega)) (.r rfl (zBB rfl rfl rfl (zA0 he) isAgg56 sizeOf56 (nle rfl)) (.run [] [7] rfl (zAj rfl 7 zBb rfl (by decide) rfl (by decide)) (.r rfl (zAE rfl rfl rfl rfl rfl sizeOf56 rfl (nle rfl)) .nil))))) ?_
      refine zBW rfl (fun ob hob => (.r rfl (zAD rfl rfl rfl isAgg2 rfl) (.r rfl (zAC rfl rfl underlying56 rfl sizeOf54 (by decide)) (.r rfl (zAC rfl rfl underlying54 rfl sizeOf2 (by decide)) (.r rfl (zAD rfl rfl rfl isAgg2 rfl) (.r rfl (st_max rfl rfl rfl) (.r rfl (zAE rfl rfl rfl rfl rfl sizeOf2 rfl (nle rfl)) .nil))))))) ?_
      refine zBW rfl (fun ob hob => (.r rfl (zAf rfl rfl rfl (by omega)) (.m rfl rfl .nil))) ?_
      refine nxtM (Q := fun _ _ _ => False) (z := i) (i + 1) (rfl) ?_ ?_ ?_
      ·
       show (i + 1) ≤ (ents rs).length
       omega
      ·
       show (ents rs).length - (i + 1) < (ents rs).length - i
       omega
      · exact zAJ ⟨rfl, rfl, rfl, rfl, rfl, rfl, (zAL (by omega)), trivial⟩ ⟨rfl, (congrArg (fun z => some [AV.p none (.v (.int .i64 z))]) (zLS he).symm), trivial⟩ ⟨rfl, trivial⟩ rfl
     ·
      replace h5 := of_decide_eq_false h5
      refine zLn ?_
      refine zBu ?_
      refine zBu ?_
      have hbl : zCc ((ents rs).take i) = zCc (ents rs) := by rw [List.take_of_length_le (by omega)]
      rw [hbl]
      have htt : (mem ++ ents rs).length = mem.length + (ents rs).length := List.length_append
      have htv := zAF (mem ++ ents rs)
      have hta : (pvE mem ++ pvE (ents rs)).length = (mem ++ ents rs).length := by rw [zGy, zAF]
      refine zEz zBL rfl (fun ob hob => (.r rfl (zAC rfl rfl underlying28 rfl sizeOf24 (by decide)) (.r rfl (zAD rfl rfl rfl isAgg24 rfl) (.run [4900] [] rfl (zAK rfl 4900 (X := []) en26 rfl (.val nod) (.cons (.one (.bor (.sl nod))) .nil) (by decide) all_nil .nil (zDt mem (by omega)) rfl rfl (nle rfl)) (.r rfl (zAC rfl rfl underlying28 rfl sizeOf25 (by decide)) (.r rfl (zAD rfl rfl rfl isAgg25 rfl) (.run [5200] [] rfl (zAK rfl 5200 (X := []) en25 rfl (.val nod) (.cons (.one (.bor (.sl nod))) .nil) (by decide) all_nil .nil (zDm rs (by omega) (by omega)) rfl rfl (nle rfl)) (.run [4900] [] rfl (zAu rfl 4900 (ib := 4900) (len := ((pvE mem) ++ (pvE (ents rs))).length) rfl rfl (.row (len := (pvE mem).length) (xs := pvE mem) rfl rfl (.inl rfl)) (.give (len := (pvE (ents rs)).length) (xs := pvE (ents rs)) rfl rfl) underlying24 (sk underlying24 rfl) zBb rfl (by decide) (by decide) (by decide) List.length_append (by simp only [maxLen, List.length_append, List.length_cons, List.length_nil, zAF]; omega) (by simp only [maxLen, List.length_append, List.length_cons, List.length_nil, zAF]; omega)) (.r rfl (zAW (zAy rfl rfl underlying24) ((show (AV.p none (.v (.int .i64 ((pvE mem ++ pvE (ents rs)).length : Int)))) = AV.p none (.v (.int .i64 ((mem ++ ents rs).length : Int))) from zAL (by omega)))) (.m rfl rfl .nil)))))))))) (by kernel_rfl) ?_
      have hr6 : (pvE mem) ++ (pvE (ents rs)) = pvE (mem ++ ents rs) := by exact zGy _ _
      have hp7 : (.sl 4900 0 (((pvE mem) ++ (pvE (ents rs))).length) : AV) = .sl 4900 0 ((pvE (mem ++ ents rs)).length) := by simp only [hr6]
      refine zFI (s' := mk [(1, .ptr 1 0), (3, .ptr 3 0), (4, .p none (.v (.map (some bm)))), (5, .vi 0), (53, .sl 4900 0 ((pvE (mem ++ ents rs)).length)), (54, .vi ((mem ++ ents rs).length:Int)), (55, .vi 0)] [(1, [.vi sq, .p none (.sl false 4 (pvE mem)), .p none (.sl false 1 (pvR rs)), .p none (.sl false 1 (pvI sn))]), (3, [.vi (zCc (ents rs))])] [(4900, 4, pvE (mem ++ ents rs))]) ?_ ?_
      · exact zAJ ⟨rfl, rfl, rfl, rfl, hp7, rfl, rfl, trivial⟩ ⟨rfl, rfl, trivial⟩ ⟨(congrArg (fun x => some (4, x)) hr6), trivial⟩ rfl
      refine zFJ ?_
      refine zJU (σ := Nat) (fun i1 => zEK ((mem ++ ents rs).take i1)) (fun i1 => mk [(1, .ptr 1 0), (3, .ptr 3 0), (4, .p none (.v (.map (some bm)))), (5, .vi (i1:Int)), (53, .sl 4900 0 ((pvE (mem ++ ents rs)).length)), (54, .vi ((mem ++ ents rs).length:Int)), (55, .vi (i1:Int))] [(1, [.vi sq, .p none (.sl false 4 (pvE mem)), .p none (.sl false 1 (pvR rs)), .p none (.sl false 1 (pvI sn))]), (3, [.vi (zCc (ents rs))])] [(4900, 4, pvE (mem ++ ents rs))]) (fun i1 => i1 ≤ (mem ++ ents rs).length ∧ i1 ≤ 400 ∧ Seqs sq (mem ++ ents rs) i1) (fun i1 => (mem ++ ents rs).length - i1) 0 ⟨Nat.zero_le _, Nat.zero_le _, zJg _ _⟩ (zAJ ⟨rfl, rfl, rfl, (zAL (by omega)), rfl, rfl, (zAL (by omega)), trivial⟩ ⟨rfl, rfl, trivial⟩ ⟨rfl, trivial⟩ rfl) rfl ?_
      rintro i1 hG
      replace hG : i1 ≤ (mem ++ ents rs).length ∧ i1 ≤ 400 ∧ Seqs sq (mem ++ ents rs) i1 := hG
      obtain ⟨hi1, hi4, hS⟩ := hG
      refine zBu (zBW rfl (fun ob hob => (.r rfl (zA4 rfl rfl rfl) .nil)) ?_)
      refine zBu ?_
      refine zHr (t := decide ((i1:Int) < ((mem ++ ents rs).length:Int))) rfl (fun h8 => ?_) (fun h8 => ?_)
      ·
       replace h8 := of_decide_eq_true h8
       refine zGT ?_
       refine zBu ?_
       refine zFJ ?_
       refine zBu ?_
       obtain ⟨x, hx⟩ : ∃ x, (mem ++ ents rs)[i1]? = some x := ⟨_, List.getElem?_eq_getElem (by omega)⟩
       have hxw := seq_wf (zF7 (zDa hbase (List.mem_of_getElem? hx)))
       have hkl : (zEK ((mem ++ ents rs).take i1)).length = i1 := by rw [zM1, List.length_take]; omega
       refine zBW rfl (fun ob hob => (.r rfl (zAe i1 rfl rfl rfl rfl underlying24 sizeOf56 rfl rfl (by omega)) (.r rfl (zBB rfl rfl rfl (zA0 hx) isAgg56 sizeOf56 (nle rfl)) (.run [] [9] rfl (zAj rfl 9 zBb rfl (by decide) rfl (by decide)) (.r rfl (zAE rfl rfl rfl rfl rfl sizeOf56 rfl (nle rfl)) .nil))))) ?_
       refine zBu ?_
       refine zBu (zBW rfl (fun ob hob => (.m rfl rfl (.r rfl (zAf rfl rfl rfl (by omega)) (.a rfl rfl .nil)))) ?_)
       refine zBu ?_
       refine zFI (s' := mk [(1, .ptr 1 0), (3, .ptr 3 0), (4, .p none (.v (.map (some bm)))), (5, .vi ((i1:Int) + 1)), (9, .ptr 9 0), (53, .sl 4900 0 ((pvE (mem ++ ents rs)).length)), (54, .vi ((mem ++ ents rs).length:Int)), (55, .vi (i1:Int))] [(1, [.vi sq, .p none (.sl false 4 (pvE mem)), .p none (.sl false 1 (pvR rs)), .p none (.sl false 1 (pvI sn))]), (3, [.vi (zCc (ents rs))]), (9, [.vs x.user, .vi x.seq, .vi x.kind, .vs x.value])] [(4900, 4, pvE (mem ++ ents rs))]) ?_ ?_
       · exact zAJ ⟨rfl, rfl, rfl, rfl, rfl, rfl, rfl, rfl, trivial⟩ ⟨rfl, rfl, rfl, trivial⟩ ⟨rfl, trivial⟩ rfl
       rcases bfc (decide (400 < ((i1:Int) + 1))) with h9 | h9
       ·
        have h9' := h9
        replace h9' := of_decide_eq_false h9'
        rcases bfc (decide (x.seq ∈ zEK ((mem ++ ents rs).take i1))) with h10 | h10
        ·
         have h10' := h10
         replace h10' := of_decide_eq_false h10'
         refine zBW rfl (fun ob hob => (.m rfl rfl (.r rfl (zAW (zBN rfl rfl rfl) (zAN h9)) (.m rfl rfl (.m rfl rfl (.r rfl (zAC rfl rfl underlying56 rfl sizeOf54 (by decide)) (.r rfl (zAC rfl rfl underlying54 rfl sizeOf2 (by decide)) (.r rfl (zAD rfl rfl rfl isAgg2 rfl) (.r rfl (zAW (zJb hob rfl underlying2 underlying4 underlying51 zb4 rfl rfl hxw) (zAN h10)) (.r rfl (zBI rfl rfl) (.m rfl rfl (.r rfl (zAC rfl rfl underlying56 rfl sizeOf54 (by decide)) (.r rfl (zAC rfl rfl underlying54 rfl sizeOf2 (by decide)) (.r rfl (zAD rfl rfl rfl isAgg2 rfl) (.r rfl (zAC rfl rfl underlying28 rfl sizeOf2 (by decide)) (.r rfl (zAD rfl rfl rfl isAgg2 rfl) (.r rfl (zBN rfl rfl rfl) (.r rfl (zBI rfl rfl) .nil)))))))))))))))))) ?_
         refine zHr (t := decide (sq < x.seq)) rfl (fun h11 => ?_) (fun h11 => ?_)
         ·
          replace h11 := of_decide_eq_true h11
          refine zBu ?_
          refine zFI (s' := mk [] [] []) ?_ ?_
          · exact zAJ trivial trivial trivial rfl
          refine zBW rfl (fun ob hob => (.a rfl rfl .nil)) ?_
          refine zFs ?_
          exact ends [_] [] (.cons (.tmp (zAN (zJq (ok_big hx h11)))) .nil) (.cons (.one .v (.v _)) .nil) (by decide) trivial
         ·
          replace h11 := of_decide_eq_false h11
          refine zGT ?_
          refine zFI (s' := mk [(1, .ptr 1 0), (3, .ptr 3 0), (4, .p none (.v (.map (some bm)))), (5, .vi ((i1:Int) + 1)), (9, .ptr 9 0), (53, .sl 4900 0 ((pvE (mem ++ ents rs)).length)), (54, .vi ((mem ++ ents rs).length:Int)), (55, .vi (i1:Int)), (64, .p none (.v (.map (some bm)))), (65, .ptr 9 0), (66, .ptr 9 1), (67, .vi x.seq), (68, .vb false), (71, .ptr 9 0), (72, .ptr 9 1), (73, .vi x.seq), (74, .ptr 1 0), (75, .vi sq), (76, .vb (decide (sq < x.seq)))] [(1, [.vi sq, .p none (.sl false 4 (pvE mem)), .p none (.sl false 1 (pvR rs)), .p none (.sl false 1 (pvI sn))]), (3, [.vi (zCc (ents rs))]), (9, [.vs x.user, .vi x.seq, .vi x.kind, .vs x.value])] [(4900, 4, pvE (mem ++ ents rs))]) ?_ ?_
          · exact zAJ ⟨rfl, rfl, rfl, rfl, rfl, rfl, rfl, rfl, rfl, rfl, rfl, rfl, rfl, rfl, rfl, rfl, rfl, rfl, rfl, trivial⟩ ⟨rfl, rfl, rfl, trivial⟩ ⟨rfl, trivial⟩ rfl
          refine zKf 4 rfl (fun ob hob => (.m rfl rfl (.r rfl (zAC rfl rfl underlying56 rfl sizeOf54 (by decide)) (.r rfl (zAC rfl rfl underlying54 rfl sizeOf2 (by decide)) (.r rfl (zAD rfl rfl rfl isAgg2 rfl) .nil))))) rfl rfl rfl rfl rfl rfl rfl rfl underlying2 underlying4 underlying51 hxw (by rw [hkl]; simp only [maxLen]; omega) ?_
          refine zBW rfl (fun ob hob => (.r rfl (zAf rfl rfl rfl (by omega)) (.m rfl rfl .nil))) ?_
          refine nxtM (Q := fun _ _ _ => False) (z := i1) (i1 + 1) (zKp hx) ?_ ?_ ?_
          ·
           show (i1 + 1) ≤ (mem ++ ents rs).length ∧ (i1 + 1) ≤ 400 ∧ Seqs sq (mem ++ ents rs) (i1 + 1)
           exact ⟨by omega, by omega, zJh hS hx h11 (not_met h10')⟩
          ·
           show (mem ++ ents rs).length - (i1 + 1) < (mem ++ ents rs).length - i1
           omega
          · exact zAJ ⟨rfl, rfl, rfl, (zAL (by omega)), rfl, rfl, (zAL (by omega)), trivial⟩ ⟨rfl, rfl, trivial⟩ ⟨rfl, trivial⟩ rfl
        ·
         have h10' := h10
         replace h10' := of_decide_eq_true h10'
         refine zBW rfl (fun ob hob => (.m rfl rfl (.r rfl (zAW (zBN rfl rfl rfl) (zAN h9)) (.m rfl rfl (.m rfl rfl (.r rfl (zAC rfl rfl underlying56 rfl sizeOf54 (by decide)) (.r rfl (zAC rfl rfl underlying54 rfl sizeOf2 (by decide)) (.r rfl (zAD rfl rfl rfl isAgg2 rfl) (.r rfl (zAW (zJb hob rfl underlying2 underlying4 underlying51 zb4 rfl rfl hxw) (zAN h10)) (.r rfl (zBI rfl rfl) (.m rfl rfl (.not rfl (.not rfl (.not rfl (.not rfl (.not rfl (.not rfl (.r rfl (zBM rfl rfl) .nil)))))))))))))))))) ?_
         refine zHr (t := true) rfl (fun _ => ?_) (fun h => nomatch h)
         refine zBu ?_
         refine zFI (s' := mk [] [] []) ?_ ?_
         · exact zAJ trivial trivial trivial rfl
         refine zBW rfl (fun ob hob => (.a rfl rfl .nil)) ?_
         refine zFs ?_
         exact ends [_] [] (.cons (.tmp (zAN (zJq (ok_met hx h10')))) .nil) (.cons (.one .v (.v _)) .nil) (by decide) trivial
       ·
        have h9' := h9
        replace h9' := of_decide_eq_true h9'
        refine zBW rfl (fun ob hob => (.m rfl rfl (.r rfl (zAW (zBN rfl rfl rfl) (zAN h9)) (.m rfl rfl (.not rfl (.not rfl (.not rfl (.not rfl (.not rfl (.r rfl (zBM rfl rfl) (.m rfl rfl (.not rfl (.not rfl (.not rfl (.not rfl (.not rfl (.not rfl (.r rfl (zBM rfl rfl) .nil)))))))))))))))))) ?_
        refine zHr (t := true) rfl (fun _ => ?_) (fun h => nomatch h)
        refine zBu ?_
        refine zFI (s' := mk [] [] []) ?_ ?_
        · exact zAJ trivial trivial trivial rfl
        refine zBW rfl (fun ob hob => (.a rfl rfl .nil)) ?_
        refine zFs ?_
        exact ends [_] [] (.cons (.tmp (zAN (zJq (fun q => by have := q.few; omega)))) .nil) (.cons (.one .v (.v _)) .nil) (by decide) trivial
      ·
       replace h8 := of_decide_eq_false h8
       refine zLn ?_
       refine zBu ?_
       refine zBu ?_
       have htl : (mem ++ ents rs).length ≤ 400 := (by omega)
       have hS : Seqs sq (mem ++ ents rs) (mem ++ ents rs).length := (fun j x hj hx => hS j x (by omega) hx)
       refine zBW rfl (fun ob hob => (.r rfl (zAC rfl rfl underlying28 rfl sizeOf24 (by decide)) (.r rfl (zAD rfl rfl rfl isAgg24 rfl) (.r rfl (zIh (bs := [3]) rfl rfl) (.run [8600] [3] rfl (zAK rfl 8600 (X := []) en27 rfl (.val nod) (.cons (.one (.bor (.sl nod))) (.cons (.one (.bor (.clo (.cons rfl (.cons .v .nil) .nil)))) .nil)) (by decide) all_nil .nil (zDs mem (by omega) 28 [[.v (.int .i64 (zCc (ents rs)))]] (zED (zCc (ents rs))) en28 (fun x _ => zOq x (zCc (ents rs)))) rfl rfl (nle rfl)) .nil))))) ?_
       refine zHr (t := decide (0 ≤ idxF (zED (zCc (ents rs))) mem)) rfl (fun h12 => ?_) (fun h12 => ?_)
       ·
        replace h12 := of_decide_eq_true h12
        refine zBu (zBW rfl (fun ob hob => (.a rfl rfl .nil)) ?_)
        refine zFs ?_
        exact ends [_] [] (.cons (.tmp (zAN (zJq (fun q => by have := q.mem; omega)))) .nil) (.cons (.one .v (.v _)) .nil) (by decide) trivial
       ·
        replace h12 := of_decide_eq_false h12
        refine zGT ?_
        refine zBu ?_
        rcases Nat.eq_zero_or_pos sn.length with hz | hz
        ·
         refine zFI (s' := mk [(1, .ptr 1 0)] [(1, [.vi sq, .p none (.sl false 4 (pvE mem)), .p none (.sl false 1 (pvR rs)), .p none (.sl false 1 (pvI sn))])] []) ?_ ?_
         · exact zAJ ⟨rfl, trivial⟩ ⟨rfl, trivial⟩ trivial rfl
         rcases bfc (decide (((pvI sn).length : Int) = 0)) with h13 | h13
         ·
          have h13' := h13
          replace h13' := of_decide_eq_false h13'
          omega
         ·
          have h13' := h13
          replace h13' := of_decide_eq_true h13'
          refine zEz zBL rfl (fun ob hob => (.r rfl (zAC rfl rfl underlying28 rfl sizeOf26 (by decide)) (.r rfl (zAD rfl rfl rfl isAgg26 rfl) (.r rfl (zAX rfl rfl underlying26) (.r rfl (zAW (zA8 rfl rfl rfl) (zAN h13)) (.m rfl rfl (.not rfl (.not rfl (.not rfl (.not rfl (.not rfl (.not rfl (.not rfl (.not rfl (.not rfl (.not rfl (.not rfl (.r rfl (zBM rfl rfl) (.a rfl rfl .nil))))))))))))))))))) (by kernel_rfl) ?_
          refine zFs ?_
          exact ends [_] [] (.cons (.tmp (zAN (zP1 hbase htl hS h12 (by omega)))) .nil) (.cons (.one .v (.v _)) .nil) (by decide) trivial
        ·
         obtain ⟨x, hx⟩ : ∃ x, sn[sn.length - 1]? = some x := ⟨_, List.getElem?_eq_getElem (by omega)⟩
         refine zFI (s' := mk [(1, .ptr 1 0)] [(1, [.vi sq, .p none (.sl false 4 (pvE mem)), .p none (.sl false 1 (pvR rs)), .p none (.sl false 1 (pvI sn))])] []) ?_ ?_
         · exact zAJ ⟨rfl, trivial⟩ ⟨rfl, trivial⟩ trivial rfl
         rcases bfc (decide (((pvI sn).length : Int) = 0)) with h14 | h14
         ·
          have h14' := h14
          replace h14' := of_decide_eq_false h14'
          refine zEz zBL rfl (fun ob hob => (.r rfl (zAC rfl rfl underlying28 rfl sizeOf26 (by decide)) (.r rfl (zAD rfl rfl rfl isAgg26 rfl) (.r rfl (zAX rfl rfl underlying26) (.r rfl (zAW (zA8 rfl rfl rfl) (zAN h14)) (.m rfl rfl (.r rfl (zAC rfl rfl underlying28 rfl sizeOf26 (by decide)) (.r rfl (zAD rfl rfl rfl isAgg26 rfl) (.r rfl (zAC rfl rfl underlying28 rfl sizeOf26 (by decide)) (.r rfl (zAD rfl rfl rfl isAgg26 rfl) (.r rfl (zAX rfl rfl underlying26) (.r rfl (zAW (zAv rfl rfl rfl (by omega)) ((show (AV.p none (.v (.int .i64 (((pvI sn).length : Int) - 1)))) = AV.p none (.v (.int .i64 ((sn.length - 1 : Nat) : Int))) from zAL (by omega)))) (.r rfl (zAh rfl rfl rfl underlying26 sizeOf2 rfl (by omega) (zB0 hx)) (.r rfl (zAg rfl rfl isAgg2 rfl) (.r rfl (zAC rfl rfl underlying28 rfl sizeOf2 (by decide)) (.r rfl (zAD rfl rfl rfl isAgg2 rfl) (.r rfl (zB5 rfl rfl rfl) (.r rfl (zBI rfl rfl) (.a rfl rfl .nil))))))))))))))))))) (by kernel_rfl) ?_
          refine zFs ?_
          exact ends [_] [] (.cons (.tmp (zAN (zP2 hbase htl hS h12 hx))) .nil) (.cons (.one .v (.v _)) .nil) (by decide) trivial
         ·
          have h14' := h14
          replace h14' := of_decide_eq_true h14'
          omega
   ·
    have h3' := h3
    replace h3' : (zBQ rs) = false := zBF h3'
    refine zAA rfl (.r rfl (zAC rfl rfl underlying28 rfl sizeOf2 (by decide)) (.r rfl (zAD rfl rfl rfl isAgg2 rfl) (.run [1200] [] rfl (zAK rfl 1200 (X := []) en21 rfl (.val nod) (.cons (.one (.bor .v)) (.cons (.one (.bor .v)) (.cons (.one (.bor .v)) .nil))) (by decide) all_nil .nil (zBf sq 0 1000000000000) rfl rfl (nle rfl)) (.r rfl (zAW (zA5 (b := zAs sq 0 1000000000000) rfl rfl) (zAN h1)) (.m rfl rfl (.r rfl (zAC rfl rfl underlying28 rfl sizeOf24 (by decide)) (.r rfl (zAD rfl rfl rfl isAgg24 rfl) (.run [1700] [] rfl (zAK rfl 1700 (X := []) en22 rfl (.val nod) (.cons (.one (.bor (.sl nod))) .nil) (by decide) all_nil .nil (zC6 mem (by omega)) rfl rfl (nle rfl)) (.r rfl (zAW (zA5 (b := zAr mem) rfl rfl) (zAN h2)) (.r rfl (zBI rfl rfl) (.m rfl rfl (.r rfl (zAC rfl rfl underlying28 rfl sizeOf25 (by decide)) (.r rfl (zAD rfl rfl rfl isAgg25 rfl) (.run [2300] [] rfl (zAK rfl 2300 (X := []) en23 rfl (.val nod) (.cons (.one (.bor (.sl nod))) .nil) (by decide) all_nil .nil (zHx rs (by omega) hb) rfl rfl (nle rfl)) (.r rfl (zAW (zA5 (b := zBQ rs) rfl rfl) (zAN h3)) (.r rfl (zBI rfl rfl) (.m rfl rfl (.not rfl (.not rfl (.not rfl (.not rfl (.r rfl (zBM rfl rfl) .nil)))))))))))))))))))))) ?_
    refine zAZ (t := true) rfl (fun _ => ?_) (fun h => nomatch h)
    refine zAB ?_
    refine zAY (s' := mk [] [] []) ?_ ?_
    · exact zAJ trivial trivial trivial rfl
    refine zAA rfl (.a rfl rfl .nil) ?_
    refine zAO ?_
    exact ends [_] [] (.cons (.tmp (zAN (zGX (zPA (by simpa using h3))))) .nil) (.cons (.one .v (.v _)) .nil) (by decide) trivial
  ·
   have h2' := h2
   replace h2' : (zAr mem) = false := zBF h2'
   refine zAA rfl (.r rfl (zAC rfl rfl underlying28 rfl sizeOf2 (by decide)) (.r rfl (zAD rfl rfl rfl isAgg2 rfl) (.run [1200] [] rfl (zAK rfl 1200 (X := []) en21 rfl (.val nod) (.cons (.one (.bor .v)) (.cons (.one (.bor .v)) (.cons (.one (.bor .v)) .nil))) (by decide) all_nil .nil (zBf sq 0 1000000000000) rfl rfl (nle rfl)) (.r rfl (zAW (zA5 (b := zAs sq 0 1000000000000) rfl rfl) (zAN h1)) (.m rfl rfl (.r rfl (zAC rfl rfl underlying28 rfl sizeOf24 (by decide)) (.r rfl (zAD rfl rfl rfl isAgg24 rfl) (.run [1700] [] rfl (zAK rfl 1700 (X := []) en22 rfl (.val nod) (.cons (.one (.bor (.sl nod))) .nil) (by decide) all_nil .nil (zC6 mem (by omega)) rfl rfl (nle rfl)) (.r rfl (zAW (zA5 (b := zAr mem) rfl rfl) (zAN h2)) (.r rfl (zBI rfl rfl) (.m rfl rfl (.not rfl (.not rfl (.not rfl (.not rfl (.r rfl (zBM rfl rfl) (.m rfl rfl (.not rfl (.not rfl (.not rfl (.not rfl (.r rfl (zBM rfl rfl) .nil)))))))))))))))))))))) ?_
   refine zAZ (t := true) rfl (fun _ => ?_) (fun h => nomatch h)
   refine zAB ?_
   refine zAY (s' := mk [] [] []) ?_ ?_
   · exact zAJ trivial trivial trivial rfl
   refine zAA rfl (.a rfl rfl .nil) ?_
   refine zAO ?_
   exact ends [_] [] (.cons (.tmp (zAN (zGX (zPB (by simpa using h2))))) .nil) (.cons (.one .v (.v _)) .nil) (by decide) trivial
 ·
  have h1' := h1
  replace h1' : (zAs sq 0 1000000000000) = false := zBF h1'
  refine zAA rfl (.r rfl (zAC rfl rfl underlying28 rfl sizeOf2 (by decide)) (.r rfl (zAD rfl rfl rfl isAgg2 rfl) (.run [1200] [] rfl (zAK rfl 1200 (X := []) en21 rfl (.val nod) (.cons (.one (.bor .v)) (.cons (.one (.bor .v)) (.cons (.one (.bor .v)) .nil))) (by decide) all_nil .nil (zBf sq 0 1000000000000) rfl rfl (nle rfl)) (.r rfl (zAW (zA5 (b := zAs sq 0 1000000000000) rfl rfl) (zAN h1)) (.m rfl rfl (.not rfl (.not rfl (.not rfl (.not rfl (.r rfl (zBM rfl rfl) (.m rfl rfl (.not rfl (.not rfl (.not rfl (.not rfl (.r rfl (zBM rfl rfl) (.m rfl rfl (.not rfl (.not rfl (.not rfl (.not rfl (.r rfl (zBM rfl rfl) .nil)))))))))))))))))))))) ?_
  refine zAZ (t := true) rfl (fun _ => ?_) (fun h => nomatch h)
  refine zAB ?_
  refine zAY (s' := mk [] [] []) ?_ ?_
  · exact zAJ trivial trivial trivial rfl
  refine zAA rfl (.a rfl rfl .nil) ?_
  refine zAO ?_
  exact ends [_] [] (.cons (.tmp (zAN (zGX (zPC (by simpa using h1))))) .nil) (.cons (.one .v (.v _)) .nil) (by decide) trivial
end Go.Rl
namespace Go.Rl
def totI (d : Eng) : List Ent := d.mem ++ ents (tagT d.runs)
def allI (d : Eng) : List Ent := zB4 cmpK (totI d)
noncomputable def okI (d : Eng) : Bool := okB d.seq d.mem (tagT d.runs) d.snaps
def askI (d : Eng) (a : Int) : Int := if a = -1 then d.seq else a
theorem zNb {d : Eng} (hb : zBe d.seq d.mem (tagT d.runs) d.snaps = true) : Small d := by
 simp only [zBe, Bool.and_eq_true, zAs, decide_eq_true_eq] at hb
 obtain ⟨h1, h2, h3, h4⟩ := hb
 have r := zFS h3
 rw [zBU, zCO] at r
 exact ⟨zDq h2, r.1, r.2, zFQ h4, h1⟩
theorem zBr {d : Eng} (h : okB d.seq d.mem (tagT d.runs) d.snaps = true) : Small d := zNb (zC1 h).1
theorem zDg {sq : Int} {l : List Ent} (h : Seqs sq l l.length) : l.Pairwise (fun x y => x.seq ≠ y.seq) :=
 List.pairwise_iff_getElem.2 fun i j hi hj hij => (h j _ hj (List.getElem?_eq_getElem hj)).2 i _ hij (List.getElem?_eq_getElem hi)
theorem zIl {sq : Int} {l : List Ent} (h1 : l.Pairwise (fun x y => x.seq ≠ y.seq)) (h2 : ∀ e ∈ l, e.seq ≤ sq) : Seqs sq l l.length := fun j x _ hx =>
 ⟨h2 x (List.mem_of_getElem? hx), fun k y hk hy => by
  have := List.pairwise_iff_getElem.1 h1 k j (List.getElem?_eq_some_iff.1 hy).1 (List.getElem?_eq_some_iff.1 hx).1 hk
  rw [(List.getElem?_eq_some_iff.1 hx).2, (List.getElem?_eq_some_iff.1 hy).2] at this
  exact this⟩
theorem zE4 {sq : Int} {l : List Ent} (h : Seqs sq l l.length) : ∀ e ∈ l, e.seq ≤ sq := fun e he => by
 obtain ⟨i, hi⟩ := List.getElem?_of_mem he
 exact (h i e (List.getElem?_eq_some_iff.1 hi).1 hi).1
theorem zK2 {sq : Int} {mem : List Ent} {rs : RunL} {sn : List Int} (h : okB sq mem rs sn = true) : Dist cmpK (mem ++ ents rs) := zHR (zDg (zC1 h).2.seqs)
theorem zIe {d : Eng} (h : okB d.seq d.mem (tagT d.runs) d.snaps = true) : (totI d).length ≤ 400 := (zC1 h).2.few
theorem zFF {d : Eng} (h : okB d.seq d.mem (tagT d.runs) d.snaps = true) : (allI d).length ≤ 400 := by rw [allI, zDn]; exact zIe h
noncomputable def getI (d : Eng) (u : ByteArray) (a : Int) : Int × ByteArray := if okI d = true then (if zFE d a = true then getE (allI d) u (askI d a) else (3, ⟨#[]⟩)) else (3, ⟨#[]⟩)
def zIU (f t : ByteArray) (l : List Pr) : List Pr := l.filter (fun x => !outP f t x)
noncomputable def zBn (d : Eng) (a : Int) (f t : ByteArray) : List Pr × Int := if okI d = true then (if zFE d a = true then (zIU f t (visF (allI d) (askI d a)), 0) else ([], 4)) else ([], 1)
noncomputable def zCy (d : Eng) (ops : List Bop) : Eng × Int := if okI d = true then (if zA7 (d.seq + 1) ops = false then (d, 2) else if 400 < (totI d).length + ops.length then (d, 3) else (⟨d.seq + (ops.length : Int), zB4 cmpK (d.mem ++ zAq (d.seq + 1) ops), d.runs, d.snaps⟩, 0)) else (Eng.nil, 1)
variable {d : Eng} {u f t : ByteArray} {a : Int} {ops : List Bop}
theorem zNB (h : okB d.seq d.mem (tagT d.runs) d.snaps = false) : ¬ okI d = true := fun q => by rw [okI, h] at q; cases q
theorem scan_w (h : okB d.seq d.mem (tagT d.runs) d.snaps = false) : zBn d a f t = ([], 1) := if_neg (zNB h)
theorem zQm (h : okB d.seq d.mem (tagT d.runs) d.snaps = true) (h1 : zFE d a = false) : zBn d a f t = ([], 4) := by rw [zBn, if_pos (show okI d = true from h), if_neg (by rw [h1]; decide)]
theorem zNz (h : okB d.seq d.mem (tagT d.runs) d.snaps = true) (h1 : zFE d a = true) : zBn d a f t = (zIU f t (visF (allI d) (askI d a)), 0) := by rw [zBn, if_pos (show okI d = true from h), if_pos h1]
theorem zPK (h : okB d.seq d.mem (tagT d.runs) d.snaps = false) : zCy d ops = (Eng.nil, 1) := if_neg (zNB h)
theorem zLh (h : okB d.seq d.mem (tagT d.runs) d.snaps = true) (h1 : zA7 (d.seq + 1) ops = false) : zCy d ops = (d, 2) := by rw [zCy, if_pos (show okI d = true from h), if_pos h1]
theorem zLg (h : okB d.seq d.mem (tagT d.runs) d.snaps = true) (h1 : zA7 (d.seq + 1) ops = true) (h2 : 400 < (totI d).length + ops.length) : zCy d ops = (d, 3) := by rw [zCy, if_pos (show okI d = true from h), if_neg (by rw [h1]; decide), if_pos h2]
theorem zLf (h : okB d.seq d.mem (tagT d.runs) d.snaps = true) (h1 : zA7 (d.seq + 1) ops = true) (h2 : ¬ 400 < (totI d).length + ops.length) : zCy d ops = (⟨d.seq + (ops.length : Int), zB4 cmpK (d.mem ++ zAq (d.seq + 1) ops), d.runs, d.snaps⟩, 0) := by rw [zCy, if_pos (show okI d = true from h), if_neg (by rw [h1]; decide), if_neg h2]
theorem zFM (d : Eng) : (totI d).length = d.mem.length + (ents (tagT d.runs)).length := by rw [totI, List.length_append]
theorem zMm (s : Int) (ops : List Bop) : (zAq s ops).Pairwise (fun x y => x.seq ≠ y.seq) :=
 List.pairwise_iff_getElem.2 fun i j hi hj hij => by
  simp only [zAq, List.getElem_mapIdx, bent]
  omega
theorem zEk {s : Int} {ops : List Bop} {e : Ent} (he : e ∈ zAq s ops) : s ≤ e.seq ∧ e.seq < s + ops.length := by
 obtain ⟨i, hi⟩ := List.getElem?_of_mem he
 obtain ⟨hlt, hx⟩ := List.getElem?_eq_some_iff.1 hi
 rw [zB2] at hlt
 rw [← hx]
 simp only [zAq, List.getElem_mapIdx, bent]
 omega
theorem zPL (h : okB d.seq d.mem (tagT d.runs) d.snaps = true) : (d.mem ++ zAq (d.seq + 1) ops).Pairwise (fun x y => x.seq ≠ y.seq) := by
 have h1 := (zC1 h).2.seqs
 have h2 := zDg h1
 have h3 := zE4 h1
 refine List.pairwise_append.2 ⟨(List.pairwise_append.1 h2).1, zMm _ _, fun x hx y hy => ?_⟩
 have := zEk hy
 have := h3 x (List.mem_append_left _ hx)
 omega
theorem zHm (h : okB d.seq d.mem (tagT d.runs) d.snaps = true) : Dist cmpK (d.mem ++ zAq (d.seq + 1) ops) := zHR (zPL h)
end Go.Rl
namespace Go.Rl
open Go.Proofs Go.Proofs.Tryz
set_option maxRecDepth 1000000
set_option maxHeartbeats 2000000
theorem en7 : En Tryz.prog 7 := zAm func7 (by decide) rfl
theorem en41 : En Tryz.prog 41 := zAm func41 (by decide) rfl
theorem en44 : En Tryz.prog 44 := zAm func44 (by decide) rfl
theorem en43 : En Tryz.prog 43 := zAm func43 (by decide) rfl
theorem en42 : En Tryz.prog 42 := zAm func42 (by decide) rfl
theorem en34 : En Tryz.prog 34 := zAm func34 (by decide) rfl
theorem en47 : En Tryz.prog 47 := zAm func47 (by decide) rfl
theorem zCa (d : Eng) (h : EB d) : Con Tryz.prog 7 [.agg [.v (.int .i64 d.seq), .sl false 4 (pvE d.mem), .sl false 1 (pvR (tagT d.runs)), .sl false 1 (pvI d.snaps)]] [] [.one (.v (.bool (okB d.seq d.mem (tagT d.runs) d.snaps)))] := zJl d.seq d.mem (tagT d.runs) d.snaps h.mem h.tag h.b h.snaps
theorem zFh (d : Eng) (h : Small d) : Con Tryz.prog 34 [.agg [.v (.int .i64 d.seq), .sl false 4 (pvE d.mem), .sl false 1 (pvR (tagT d.runs)), .sl false 1 (pvI d.snaps)]] [] [.agg [.v (.int .i64 d.seq), .sl true 4 (pvE d.mem), .sl true 1 (pvR (tagT d.runs)), .sl true 1 (pvI d.snaps)]] := by
 have q := zNU d.seq d.mem (tagT d.runs) d.snaps (by rw [zCO]; have := h.mem; have := h.ents; omega) h.eb.tag h.eb.snaps
 rwa [zKy] at q
theorem dbAll_d (d : Eng) (h : okB d.seq d.mem (tagT d.runs) d.snaps = true) : Con Tryz.prog 44 [.agg [.v (.int .i64 d.seq), .sl false 4 (pvE d.mem), .sl false 1 (pvR (tagT d.runs)), .sl false 1 (pvI d.snaps)]] [] [.one (.sl true 4 (pvE (allI d)))] := zOr d.seq d.mem (tagT d.runs) d.snaps (by have := (zBr h).mem; have := (zBr h).ents; rw [zCO]; omega) (zBr h).eb.tag (zBr h).eb.snaps (zK2 h)
theorem asOf_d (d : Eng) (a : Int) (h : d.snaps.length ≤ 2000000) : Con Tryz.prog 41 [.agg [.v (.int .i64 d.seq), .sl false 4 (pvE d.mem), .sl false 1 (pvR (tagT d.runs)), .sl false 1 (pvI d.snaps)], .one (.v (.int .i64 a))] [] [.one (.v (.int .i64 (askI d a))), .one (.v (.bool (zFE d a)))] := zQb d.seq d.mem (tagT d.runs) d.snaps a h
theorem zMW (d : Eng) (h : Small d) : Con Tryz.prog 25 [.one (PV.sl false 1 (pvR (tagT d.runs)))] [] [.one (.sl true 4 (pvE (ents (tagT d.runs))))] := zDm (tagT d.runs) (by rw [zCO]; have := h.ents; omega) (by rw [zBU]; have := h.runs; omega)
theorem zK0 (a b : List Ent) (hl : (a ++ b).length ≤ 2000000) (hd : Dist cmpK (a ++ b)) : Con Tryz.prog 48 [.one (PV.sl false 4 (pvE a ++ pvE b))] [] [.one (.sl true 4 (pvE (zB4 cmpK (a ++ b))))] := by
 rw [zGy]
 exact zG0 (a ++ b) hl hd
theorem zDh (d : Eng) (hD : EB d) (a : Int) (f t : ByteArray) : Con Tryz.prog 12 [.agg [PV.v (.int .i64 d.seq), PV.sl false 4 (pvE d.mem), PV.sl false 1 (pvR (tagT d.runs)), PV.sl false 1 (pvI d.snaps)], .one (PV.v (.int .i64 a)), .one (PV.v (.string f)), .one (PV.v (.string t))] [] [.one (.sl true 2 (pvP (zBn d a f t).1)), .one (.v (.int .i64 ((zBn d a f t).2)))] := by
 refine zAQ func12 rfl rfl rfl rfl ?_
 have hl1 := zAF d.mem
 have hl2 := zAi (tagT d.runs)
 have hl3 := zAT d.snaps
 have hl4 := zBU d.runs
 refine zAB (zAA rfl (.run [] [4] rfl (zBO rfl 4 rfl rfl (by decide) rfl (by decide)) (.a rfl rfl (.a rfl rfl .nil))) ?_)
 refine zAB ?_
 refine zAB (zAA rfl (.r rfl (zAG rfl rfl rfl isAgg28 sizeOf28 (nle rfl)) (.run [1300] [] rfl (zAK rfl 1300 (X := []) en7 rfl (.val nod) (.cons (.agg (.cons (.bor .v) (.cons (.bor (.sl nod)) (.cons (.bor (.sl nod)) (.cons (.bor (.sl nod)) .nil))))) .nil) (by decide) all_nil .nil (zCa d hD) rfl rfl (nle rfl)) (.r rfl (zA5 (b := okB d.seq d.mem (tagT d.runs) d.snaps) rfl rfl) .nil))) ?_)
 refine zAZ (t := (!(okB d.seq d.mem (tagT d.runs) d.snaps))) rfl (fun h1 => ?_) (fun h1 => ?_)
 ·
  replace h1 : (okB d.seq d.mem (tagT d.runs) d.snaps) = false := zBF h1
  refine zAB ?_
  have hw : okB d.seq d.mem (tagT d.runs) d.snaps = false := by simpa using h1
  rw [scan_w hw]
  refine zAA rfl (.a rfl rfl (.a rfl rfl .nil)) ?_
  refine zAO ?_
  exact ends [_, _] [] (.cons (.tmp rfl) (.cons (.tmp rfl) .nil)) (.cons (.one (.nil _) (.sl _ _ (fun _ h => nomatch h))) (.cons (.one .v (.v _)) .nil)) (by decide) trivial
 ·
  replace h1 : (okB d.seq d.mem (tagT d.runs) d.snaps) = true := zBG h1
  refine zAM ?_
  refine zAB ?_
  have hok : okB d.seq d.mem (tagT d.runs) d.snaps = true := by simpa using h1
  have hsm := zBr hok
  have hm1 := hsm.mem
  have hm2 := hsm.runs
  have hm3 := hsm.snaps
  have hm4 := hsm.seq
  have hal := zFF hok
  have hav := zAF (allI d)
  refine zAA rfl (.r rfl (zAG rfl rfl rfl isAgg28 sizeOf28 (nle rfl)) (.m rfl rfl (.run [1800, 1801] [] rfl (zAK rfl 1800 (X := []) en41 rfl (.val nod) (.cons (.agg (.cons (.bor .v) (.cons (.bor (.sl nod)) (.cons (.bor (.sl nod)) (.cons (.bor (.sl nod)) .nil))))) (.cons (.one (.bor .v)) .nil)) (by decide) all_nil .nil (asOf_d d a (by omega)) rfl rfl (nle rfl)) (.m rfl rfl (.r rfl (zAa rfl rfl rfl) (.r rfl (zAa rfl rfl rfl) (.a rfl rfl (.a rfl rfl .nil)))))))) ?_
  refine zAB ?_
  refine zAB (zAA rfl (.m rfl rfl (.r rfl (zA5 (b := zFE d a) rfl rfl) .nil)) ?_)
  refine zAZ (t := (!(zFE d a))) rfl (fun h2 => ?_) (fun h2 => ?_)
  ·
   replace h2 : (zFE d a) = false := zBF h2
   refine zAB ?_
   have hak : zFE d a = false := by simpa using h2
   rw [zQm hok hak]
   refine zAY (s' := mk [] [] []) ?_ ?_
   · exact zAJ trivial trivial trivial rfl
   refine zAA rfl (.a rfl rfl (.a rfl rfl .nil)) ?_
   refine zAO ?_
   exact ends [_, _] [] (.cons (.tmp rfl) (.cons (.tmp rfl) .nil)) (.cons (.one (.nil _) (.sl _ _ (fun _ h => nomatch h))) (.cons (.one .v (.v _)) .nil)) (by decide) trivial
  ·
   replace h2 : (zFE d a) = true := zBG h2
   refine zAM ?_
   refine zAB ?_
   have hak : zFE d a = true := by simpa using h2
   rw [zNz hok hak]
   have hul := zFH (allI d)
   have hvl := zGS (allI d) (askI d a) (zAt (allI d))
   rw [← visF] at hvl
   refine zAY (s' := mk [(2, .vs f), (3, .vs t), (4, .ptr 4 0), (10, .vi (askI d a))] [(4, [.vi d.seq, .p none (.sl false 4 (pvE d.mem)), .p none (.sl false 1 (pvR (tagT d.runs))), .p none (.sl false 1 (pvI d.snaps))])] []) ?_ ?_
   · exact zAJ ⟨rfl, rfl, rfl, rfl, trivial⟩ ⟨rfl, trivial⟩ trivial rfl
   refine zAA rfl (.r rfl (zAG rfl rfl rfl isAgg28 sizeOf28 (nle rfl)) (.run [2400] [] rfl (zAK rfl 2400 (X := []) en44 rfl (.val nod) (.cons (.agg (.cons (.bor .v) (.cons (.bor (.sl nod)) (.cons (.bor (.sl nod)) (.cons (.bor (.sl nod)) .nil))))) .nil) (by decide) all_nil .nil (dbAll_d d hok) rfl rfl (nle rfl)) (.m rfl rfl (.run [2400, 2600] [] rfl (zAK rfl 2600 (X := []) en43 rfl (.val nod) (.cons (.one (.bor (.all (len := (pvE (allI d)).length) (xs := pvE (allI d)) rfl rfl (by decide)))) (.cons (.one (.bor .v)) .nil)) (by decide) all_nil .nil (zKb (allI d) (askI d a) (by omega)) rfl rfl (nle rfl)) (.m rfl rfl (.m rfl rfl (.run [2600, 2900] [] rfl (zAK rfl 2900 (X := [2600]) en42 rfl (.val nod) (.cons (.one (.own (len := (pvP (visF (allI d) (askI d a))).length) (xs := pvP (visF (allI d) (askI d a))) rfl rfl)) (.cons (.one (.bor .v)) (.cons (.one (.bor .v)) .nil))) (by decide) (all_cons rfl all_nil) (.gone .nil) (zLP (visF (allI d) (askI d a)) f t (by omega)) rfl rfl (nle rfl)) (.a rfl rfl (.a rfl rfl .nil))))))))) ?_
   refine zAO ?_
   exact ends [_, _] [2900] (.cons (.tmp rfl) (.cons (.tmp rfl) .nil)) (.cons (.one (.row (len := (pvP (zIU f t (visF (allI d) (askI d a)))).length) (xs := pvP (zIU f t (visF (allI d) (askI d a)))) rfl rfl) (.sl _ _ (FlatP.clean (zDV _)))) (.cons (.one .v (.v _)) .nil)) (by decide) trivial
theorem zHn (d : Eng) (hD : EB d) (ops : List Bop) (ho : ops.length ≤ 2000000) : Con Tryz.prog 17 [.agg [PV.v (.int .i64 d.seq), PV.sl false 4 (pvE d.mem), PV.sl false 1 (pvR (tagT d.runs)), PV.sl false 1 (pvI d.snaps)], .one (PV.sl false 3 (pvO ops))] [] [.agg [.v (.int .i64 ((zCy d ops).1.seq)), .sl true 4 (pvE ((zCy d ops).1.mem)), .sl true 1 (pvR (tagT (zCy d ops).1.runs)), .sl true 1 (pvI ((zCy d ops).1.snaps))], .one (.v (.int .i64 ((zCy d ops).2)))] := by
 refine zAQ func17 rfl rfl rfl rfl ?_
 have hl1 := zAF d.mem
 have hl2 := zAi (tagT d.runs)
 have hl3 := zAT d.snaps
 have hl4 := zBU d.runs
 have hlo := zBz ops
 refine zAB (zAA rfl (.run [] [2] rfl (zBO rfl 2 rfl rfl (by decide) rfl (by decide)) (.run [] [4] rfl (zAj rfl 4 zBk rfl (by decide) rfl (by decide)) (.a rfl rfl .nil))) ?_)
 refine zAB ?_
 refine zAB (zAA rfl (.r rfl (zAG rfl rfl rfl isAgg28 sizeOf28 (nle rfl)) (.run [900] [] rfl (zAK rfl 900 (X := []) en7 rfl (.val nod) (.cons (.agg (.cons (.bor .v) (.cons (.bor (.sl nod)) (.cons (.bor (.sl nod)) (.cons (.bor (.sl nod)) .nil))))) .nil) (by decide) all_nil .nil (zCa d hD) rfl rfl (nle rfl)) (.r rfl (zA5 (b := okB d.seq d.mem (tagT d.runs) d.snaps) rfl rfl) .nil))) ?_)
 refine zAZ (t := (!(okB d.seq d.mem (tagT d.runs) d.snaps))) rfl (fun h1 => ?_) (fun h1 => ?_)
 ·
  replace h1 : (okB d.seq d.mem (tagT d.runs) d.snaps) = false := zBF h1
  refine zAB ?_
  have hw : okB d.seq d.mem (tagT d.runs) d.snaps = false := by simpa using h1
  rw [zPK hw]
  refine zAA rfl (.r rfl (zBC (pl := [(0, 1), (1, 1), (2, 1), (3, 1)]) rfl underlying28 zBk (by kernel_rfl) rfl rfl) (.r rfl (zAE rfl rfl rfl rfl rfl sizeOf28 rfl (nle rfl)) (.a rfl rfl .nil))) ?_
  refine zAO ?_
  exact ends [_, _] [] (.cons (.cell rfl rfl isAgg28 sizeOf28 (nle rfl)) (.cons (.tmp rfl) .nil)) (.cons (.agg (.cons .v (.cons (.nil _) (.cons (.nil _) (.cons (.nil _) .nil)))) (zAI (.v _) (zAI (.sl _ _ (fun _ h => nomatch h)) (zAI (.sl _ _ (fun _ h => nomatch h)) (zAI (.sl _ _ (fun _ h => nomatch h)) zBE))))) (.cons (.one .v (.v _)) .nil)) (by decide) trivial
 ·
  replace h1 : (okB d.seq d.mem (tagT d.runs) d.snaps) = true := zBG h1
  refine zAM ?_
  refine zAB ?_
  have hok : okB d.seq d.mem (tagT d.runs) d.snaps = true := by simpa using h1
  have hsm := zBr hok
  have hm1 := hsm.mem
  have hm2 := hsm.runs
  have hm3 := hsm.snaps
  have hm4 := hsm.seq
  have hal := zFF hok
  have hav := zAF (allI d)
  have hvj := zAF (ents (tagT d.runs))
  have htl := zFM d
  have htf := zIe hok
  refine zAY (s' := mk [(1, .p none (.sl false 3 (pvO ops))), (2, .ptr 2 0), (4, .ptr 4 0)] [(2, [.vi d.seq, .p none (.sl false 4 (pvE d.mem)), .p none (.sl false 1 (pvR (tagT d.runs))), .p none (.sl false 1 (pvI d.snaps))]), (4, [.vi 0, .nils, .nils, .nils])] []) ?_ ?_
  · exact zAJ ⟨rfl, rfl, rfl, trivial⟩ ⟨rfl, rfl, trivial⟩ trivial rfl
  refine zAc zBL rfl (.r rfl (zAG rfl rfl rfl isAgg28 sizeOf28 (nle rfl)) (.run [1300, 1301, 1302, 1303] [] rfl (zAK rfl 1300 (X := []) en34 rfl (.val nod) (.cons (.agg (.cons (.bor .v) (.cons (.bor (.sl nod)) (.cons (.bor (.sl nod)) (.cons (.bor (.sl nod)) .nil))))) .nil) (by decide) all_nil .nil (zFh d hsm) rfl rfl (nle rfl)) (.r rfl (zAC rfl rfl underlying28 rfl sizeOf2 (by decide)) (.r rfl (zAD rfl rfl rfl isAgg2 rfl) (.r rfl (zAf rfl rfl rfl (by omega)) (.m rfl rfl (.r rfl (zBC (pl := [(0, 1), (1, 1)]) rfl underlying76 zQG (by kernel_rfl) rfl rfl) (.run [] [6] rfl (zAj rfl 6 zBk rfl (by decide) rfl (by decide)) (.run [] [7] rfl (zAj rfl 7 zQG rfl (by decide) rfl (by decide)) (.r rfl (zAE rfl rfl rfl rfl rfl sizeOf28 rfl (nle rfl)) (.r rfl (zAE rfl rfl rfl rfl rfl sizeOf76 rfl (nle rfl)) .nil))))))))))) (by kernel_rfl) ?_
  refine zAB ?_
  refine zAS ?_
  refine zAB (zAA rfl (.r rfl (zAG rfl rfl rfl isAgg76 sizeOf76 (nle rfl)) (.run [2100] [] rfl (zAK rfl 2100 (X := []) en47 rfl (.val nod) (.cons (.agg (.cons (.bor .v) (.cons (.bor (.sl nod)) .nil))) .nil) (by decide) all_nil .nil (zLV (d.seq + 1) ops ho) rfl rfl (nle rfl)) (.r rfl (zA5 (b := zA7 (d.seq + 1) ops) rfl rfl) (.a rfl rfl .nil)))) ?_)
  refine zAZ (t := (!(zA7 (d.seq + 1) ops))) rfl (fun h2 => ?_) (fun h2 => ?_)
  ·
   replace h2 : (zA7 (d.seq + 1) ops) = false := zBF h2
   refine zAB ?_
   rw [zLh hok (by simpa using h2)]
   refine zAY (s' := mk [(4, .ptr 4 0), (6, .ptr 6 0)] [(4, [.vi 0, .nils, .nils, .nils]), (6, [.vi d.seq, .sl 1301 0 ((pvE d.mem).length), .sl 1302 0 ((pvR (tagT d.runs)).length), .sl 1303 0 ((pvI d.snaps).length)])] [(1301, 4, pvE d.mem), (1302, 1, pvR (tagT d.runs)), (1303, 1, pvI d.snaps)]) ?_ ?_
   · exact zAJ ⟨rfl, rfl, trivial⟩ ⟨rfl, rfl, trivial⟩ ⟨rfl, rfl, rfl, trivial⟩ rfl
   refine zAA rfl (.r rfl (zAG rfl rfl rfl isAgg28 sizeOf28 (nle rfl)) (.r rfl (zAE rfl rfl rfl rfl rfl sizeOf28 rfl (nle rfl)) (.a rfl rfl .nil))) ?_
   refine zAO ?_
   exact ends [_, _] [1301, 1302, 1303] (.cons (.cell rfl rfl isAgg28 sizeOf28 (nle rfl)) (.cons (.tmp rfl) .nil)) (.cons (.agg (.cons .v (.cons (.row (len := (pvE d.mem).length) (xs := pvE d.mem) rfl rfl) (.cons (.row (len := (pvR (tagT d.runs)).length) (xs := pvR (tagT d.runs)) rfl rfl) (.cons (.row (len := (pvI d.snaps).length) (xs := pvI d.snaps) rfl rfl) .nil)))) (zAI (.v _) (zAI (.sl _ _ (FlatP.clean (zAd _))) (zAI (zAl _) (zAI (.sl _ _ (FlatP.clean (zA3 _))) zBE))))) (.cons (.one .v (.v _)) .nil)) (by decide) trivial
  ·
   replace h2 : (zA7 (d.seq + 1) ops) = true := zBG h2
   refine zAB ?_
   have hbo : zA7 (d.seq + 1) ops = true := by simpa using h2
   have hs := zKT hbo
   have hn20 := zKU hbo
   refine zAY (s' := mk [(1, .p none (.sl false 3 (pvO ops))), (2, .ptr 2 0), (4, .ptr 4 0), (6, .ptr 6 0), (7, .ptr 7 0)] [(2, [.vi d.seq, .p none (.sl false 4 (pvE d.mem)), .p none (.sl false 1 (pvR (tagT d.runs))), .p none (.sl false 1 (pvI d.snaps))]), (4, [.vi 0, .nils, .nils, .nils]), (6, [.vi d.seq, .sl 1301 0 ((pvE d.mem).length), .sl 1302 0 ((pvR (tagT d.runs)).length), .sl 1303 0 ((pvI d.snaps).length)]), (7, [.vi (d.seq + 1), .p none (.sl false 3 (pvO ops))])] [(1301, 4, pvE d.mem), (1302, 1, pvR (tagT d.runs)), (1303, 1, pvI d.snaps)]) ?_ ?_
   · exact zAJ ⟨rfl, rfl, rfl, rfl, rfl, trivial⟩ ⟨rfl, rfl, rfl, rfl, trivial⟩ ⟨rfl, rfl, rfl, trivial⟩ rfl
   refine zAc zBL rfl (.r rfl (zAC rfl rfl underlying28 rfl sizeOf24 (by decide)) (.r rfl (zAD rfl rfl rfl isAgg24 rfl) (.r rfl (zAX rfl rfl underlying24) (.r rfl (zAC rfl rfl underlying28 rfl sizeOf25 (by decide)) (.r rfl (zAD rfl rfl rfl isAgg25 rfl) (.run [3000] [] rfl (zAK rfl 3000 (X := []) en25 rfl (.val nod) (.cons (.one (.bor (.sl nod))) .nil) (by decide) all_nil .nil (zMW d hsm) rfl rfl (nle rfl)) (.r rfl (zAy rfl rfl underlying24) (.r rfl (zAf rfl rfl rfl (by omega)) (.m rfl rfl (.r rfl (zAX rfl rfl underlying37) (.r rfl (zAf rfl rfl rfl (by omega)) (.r rfl (zBN rfl rfl rfl) (.a rfl rfl .nil))))))))))))) (by kernel_rfl) ?_
   refine zAZ (t := decide (400 < ((((pvE d.mem).length : Int) + ((pvE (ents (tagT d.runs))).length : Int)) + ((pvO ops).length : Int)))) rfl (fun h3 => ?_) (fun h3 => ?_)
   ·
    replace h3 := of_decide_eq_true h3
    refine zAB ?_
    rw [zLg hok hbo (by omega)]
    refine zAA rfl (.r rfl (zAG rfl rfl rfl isAgg28 sizeOf28 (nle rfl)) (.r rfl (zAE rfl rfl rfl rfl rfl sizeOf28 rfl (nle rfl)) (.a rfl rfl .nil))) ?_
    refine zAO ?_
    exact ends [_, _] [1301, 1302, 1303] (.cons (.cell rfl rfl isAgg28 sizeOf28 (nle rfl)) (.cons (.tmp rfl) .nil)) (.cons (.agg (.cons .v (.cons (.row (len := (pvE d.mem).length) (xs := pvE d.mem) rfl rfl) (.cons (.row (len := (pvR (tagT d.runs)).length) (xs := pvR (tagT d.runs)) rfl rfl) (.cons (.row (len := (pvI d.snaps).length) (xs := pvI d.snaps) rfl rfl) .nil)))) (zAI (.v _) (zAI (.sl _ _ (FlatP.clean (zAd _))) (zAI (zAl _) (zAI (.sl _ _ (FlatP.clean (zA3 _))) zBE))))) (.cons (.one .v (.v _)) .nil)) (by decide) trivial
   ·
    replace h3 := of_decide_eq_false h3
    refine zAM ?_
    refine zAB ?_
    rw [zLf hok hbo (by omega)]
    have hbl := zB2 (d.seq + 1) ops
    have hbv := zAF (zAq (d.seq + 1) ops)
    refine zAY (s' := mk [(1, .p none (.sl false 3 (pvO ops))), (4, .ptr 4 0), (6, .ptr 6 0), (7, .ptr 7 0)] [(4, [.vi 0, .nils, .nils, .nils]), (6, [.vi d.seq, .sl 1301 0 ((pvE d.mem).length), .sl 1302 0 ((pvR (tagT d.runs)).length), .sl 1303 0 ((pvI d.snaps).length)]), (7, [.vi (d.seq + 1), .p none (.sl false 3 (pvO ops))])] [(1301, 4, pvE d.mem), (1302, 1, pvR (tagT d.runs)), (1303, 1, pvI d.snaps)]) ?_ ?_
    · exact zAJ ⟨rfl, rfl, rfl, rfl, trivial⟩ ⟨rfl, rfl, rfl, trivial⟩ ⟨rfl, rfl, rfl, trivial⟩ rfl
    refine zAc zBL rfl (.r rfl (zAC rfl rfl underlying28 rfl sizeOf24 (by decide)) (.r rfl (zAD rfl rfl rfl isAgg24 rfl) (.r rfl (zAG rfl rfl rfl isAgg76 sizeOf76 (nle rfl)) (.run [4100] [] rfl (zAK rfl 4100 (X := []) en49 rfl (.val nod) (.cons (.agg (.cons (.bor .v) (.cons (.bor (.sl nod)) .nil))) .nil) (by decide) all_nil .nil (zEG (d.seq + 1) ops (by omega) hs) rfl rfl (nle rfl)) (.run [1301] [] rfl (zAu rfl 1301 (ib := 1301) (len := ((pvE d.mem) ++ (pvE (zAq (d.seq + 1) ops))).length) rfl rfl (.row (len := (pvE d.mem).length) (xs := pvE d.mem) rfl rfl (.inl rfl)) (.give (len := (pvE (zAq (d.seq + 1) ops)).length) (xs := pvE (zAq (d.seq + 1) ops)) rfl rfl) underlying24 (sk underlying24 rfl) zBb rfl (by decide) (by decide) (by decide) List.length_append (by simp only [maxLen, List.length_append, List.length_cons, List.length_nil, zAF]; omega) (by simp only [maxLen, List.length_append, List.length_cons, List.length_nil, zAF]; omega)) (.run [1301, 4300] [] rfl (zAK rfl 4300 (X := []) en48 rfl (.val nod) (.cons (.one (.bor (.all (len := ((pvE d.mem) ++ (pvE (zAq (d.seq + 1) ops))).length) (xs := (pvE d.mem) ++ (pvE (zAq (d.seq + 1) ops))) rfl rfl (by decide)))) .nil) (by decide) all_nil .nil (zK0 d.mem (zAq (d.seq + 1) ops) (by rw [List.length_append]; omega) (zHm hok)) rfl rfl (nle rfl)) (.r rfl (zAC rfl rfl underlying28 rfl sizeOf24 (by decide)) (.r rfl (zAE rfl rfl rfl rfl rfl sizeOf24 rfl (nle rfl)) .nil)))))))) (by kernel_rfl) ?_
    refine zAB (zAA rfl (.r rfl (zAC rfl rfl underlying28 rfl sizeOf2 (by decide)) (.r rfl (zAD rfl rfl rfl isAgg2 rfl) (.m rfl rfl (.r rfl (zAX rfl rfl underlying37) (.r rfl (zAW (zAf rfl rfl rfl (by omega)) ((show (AV.p none (.v (.int .i64 (d.seq + ((pvO ops).length : Int))))) = AV.p none (.v (.int .i64 (d.seq + (ops.length : Int)))) from zAL (by omega)))) (.r rfl (zAC rfl rfl underlying28 rfl sizeOf2 (by decide)) (.r rfl (zAE rfl rfl rfl rfl rfl sizeOf2 rfl (nle rfl)) .nil))))))) ?_)
    refine zAB ?_
    refine zAY (s' := mk [(4, .ptr 4 0), (6, .ptr 6 0)] [(4, [.vi 0, .nils, .nils, .nils]), (6, [.vi (d.seq + (ops.length : Int)), .sl 4300 0 ((pvE (zB4 cmpK (d.mem ++ zAq (d.seq + 1) ops))).length), .sl 1302 0 ((pvR (tagT d.runs)).length), .sl 1303 0 ((pvI d.snaps).length)])] [(1302, 1, pvR (tagT d.runs)), (1303, 1, pvI d.snaps), (4300, 4, pvE (zB4 cmpK (d.mem ++ zAq (d.seq + 1) ops)))]) ?_ ?_
    · exact zAJ ⟨rfl, rfl, trivial⟩ ⟨rfl, rfl, trivial⟩ ⟨rfl, rfl, rfl, trivial⟩ rfl
    refine zAA rfl (.r rfl (zAG rfl rfl rfl isAgg28 sizeOf28 (nle rfl)) (.r rfl (zAE rfl rfl rfl rfl rfl sizeOf28 rfl (nle rfl)) (.a rfl rfl .nil))) ?_
    refine zAO ?_
    exact ends [_, _] [4300, 1302, 1303] (.cons (.cell rfl rfl isAgg28 sizeOf28 (nle rfl)) (.cons (.tmp rfl) .nil)) (.cons (.agg (.cons .v (.cons (.row (len := (pvE (zB4 cmpK (d.mem ++ zAq (d.seq + 1) ops))).length) (xs := pvE (zB4 cmpK (d.mem ++ zAq (d.seq + 1) ops))) rfl rfl) (.cons (.row (len := (pvR (tagT d.runs)).length) (xs := pvR (tagT d.runs)) rfl rfl) (.cons (.row (len := (pvI d.snaps).length) (xs := pvI d.snaps) rfl rfl) .nil)))) (zAI (.v _) (zAI (.sl _ _ (FlatP.clean (zAd _))) (zAI (zAl _) (zAI (.sl _ _ (FlatP.clean (zA3 _))) zBE))))) (.cons (.one .v (.v _)) .nil)) (by decide) trivial
end Go.Rl
namespace Go.Rl
def KOK (l : List Ent) : Prop := ∀ x ∈ l, zCn x.user x.seq x.kind = true
theorem KOK.perm {l m : List Ent} (h : KOK l) (p : m.Perm l) : KOK m := fun x hx => h x (p.mem_iff.1 hx)
theorem KOK.left {l m : List Ent} (h : KOK (l ++ m)) : KOK l := fun x hx => h x (List.mem_append_left _ hx)
theorem KOK.right {l m : List Ent} (h : KOK (l ++ m)) : KOK m := fun x hx => h x (List.mem_append_right _ hx)
theorem KOK.tail {l : List Ent} {e : Ent} (h : KOK (e :: l)) : KOK l := fun x hx => h x (by simp [hx])
theorem zMQ {α : Type} (e : α) (l m : List α) : (l ++ (e :: m)).Perm (e :: l ++ m) := List.perm_middle
theorem zL9 : ∀ (l out : List Ent), KOK (l ++ out) → Dist cmpK (l ++ out) → Srt cmpK out → Srt cmpK (zBp out l) ∧ (zBp out l).Perm (l ++ out)
 | [], out, _, _, hs => ⟨hs, .refl _⟩
 | e :: l, out, hk, hd, hs => by
  have hd' := List.pairwise_cons.1 hd
  have hne : ∀ y ∈ out, cmpK y e < 0 ∨ cmpK e y < 0 := fun y hy => (hd'.1 y (List.mem_append_right _ hy)).symm
  have hp : putF out e = insC cmpK e out := zMD (hk e (by simp)) (fun x hx => hk x (by simp [hx])) hne
  have hpm : (l ++ putF out e).Perm (e :: l ++ out) := by rw [hp]; exact ((zFZ e out).append_left l).trans (zMQ e l out)
  have := zL9 l (putF out e) (hk.perm hpm) (zBT hpm hd) (by rw [hp]; exact zI8 cmpK_ok hs (fun y hy => (hne y hy).symm))
  exact ⟨this.1, this.2.trans hpm⟩
theorem zF1 : ∀ ls : List (List Ent), KOK (zBt ls) → Dist cmpK (zBt ls) → Srt cmpK (zA1 ls) ∧ (zA1 ls).Perm (zBt ls)
 | [], _, _ => ⟨List.Pairwise.nil, .refl _⟩
 | l :: ls, hk, hd => by
  have hk : KOK (l ++ zBt ls) := hk
  have hd : Dist cmpK (l ++ zBt ls) := hd
  obtain ⟨h1, h2⟩ := zF1 ls hk.right (List.pairwise_append.1 hd).2.1
  have hp : (l ++ zA1 ls).Perm (l ++ zBt ls) := h2.append_left l
  have := zL9 l (zA1 ls) (hk.perm hp) (zBT hp hd) h1
  exact ⟨this.1, this.2.trans hp⟩
theorem zJV (d : Eng) : zBt (d.mem :: d.runs) = totI d := by rw [totI, zCO]; rfl
theorem ent_kok {l : List Ent} (h : ∀ e ∈ l, zBc e = true) : KOK l := fun e he => zFe (h e he)
theorem zMR {d : Eng} (hk : KOK (totI d)) (hd : Dist cmpK (totI d)) : zA1 (d.mem :: d.runs) = allI d := by
 rw [← zJV] at hk hd
 obtain ⟨h1, h2⟩ := zF1 _ hk hd
 rw [allI, ← zJV]
 exact zGl cmpK_ok h1 h2 hd
theorem zOB (e : Ent) (r : List Ent × Bool) (x : Ent) : (putS e r x).1.length + (if (putS e r x).2 = true then 0 else 1) + (if kcmp x e = 0 then 1 else 0) ≤ r.1.length + (if r.2 = true then 0 else 1) + 1 := by
 obtain ⟨l, d⟩ := r
 unfold putS
 cases d <;> by_cases h : 0 ≤ kcmp x e <;> by_cases h2 : kcmp x e = 0 <;> simp [h, h2] <;> omega
theorem zMB {l : List Ent} {e : Ent} : ∀ i, i ≤ l.length → (∃ x ∈ l.take i, kcmp x e = 0) → (putN l e i).1.length + (if (putN l e i).2 = true then 0 else 1) ≤ i
 | 0, _, h => by obtain ⟨x, hx, _⟩ := h; simp at hx
 | i + 1, hi, h => by
  obtain ⟨y, hy⟩ : ∃ y, l[i]? = some y := ⟨_, List.getElem?_eq_getElem (by omega)⟩
  obtain ⟨x, hx, h0⟩ := h
  rw [List.take_add_one, hy] at hx
  rw [zEL hy]
  have h1 := zOB e (putN l e i) y
  have h2 := zGW l e i
  rcases List.mem_append.1 hx with hx | hx
  ·
   have := zMB i (by omega) ⟨x, hx, h0⟩
   omega
  ·
   simp at hx
   subst hx
   rw [if_pos h0] at h1
   omega
theorem zPu {l : List Ent} {e : Ent} (h : ∃ x ∈ l, kcmp x e = 0) : (putF l e).length ≤ l.length := by
 have := zMB (l := l) (e := e) l.length (Nat.le_refl _) (by rw [List.take_length]; exact h)
 unfold putF
 split
 · rename_i h; rw [if_pos h] at this; omega
 · rename_i h; rw [if_neg h] at this; simp; omega
theorem zJk : ∀ (l out : List Ent), KOK (l ++ out) → Dist cmpK out → Srt cmpK out → (zBp out l).length = l.length + out.length → Dist cmpK (l ++ out)
 | [], _, _, hd, _, _ => hd
 | e :: l, out, hk, hd, hs, hl => by
  have h1 := zDW l (putF out e)
  have h2 : (zBp out (e :: l)).length = (zBp (putF out e) l).length := rfl
  have h3 := zMC out e
  simp only [List.length_cons] at hl
  have hne : ∀ y ∈ out, cmpK y e < 0 ∨ cmpK e y < 0 := fun y hy => by
   have h0 : kcmp y e ≠ 0 := fun q => by have := zPu ⟨y, hy, q⟩; omega
   rw [zDe (hk y (by simp [hy])) (hk e (by simp))] at h0
   by_cases h4 : LessE y e
   · exact .inl (by rw [zEC h4]; decide)
   ·
    refine .inr ?_
    by_cases h5 : LessE e y
    · rw [zEC h5]; decide
    ·
     exfalso
     refine h0 (zHW ?_ ?_ ?_)
     all_goals
      unfold LessE at h4 h5
      have hu : y.user = e.user := zHD (by cases q : ltB y.user e.user with | false => rfl | true => exact absurd (.inl q) h4) (by cases q : ltB e.user y.user with | false => rfl | true => exact absurd (.inl q) h5)
      have h6 : ¬ (e.seq < y.seq ∨ (y.seq = e.seq ∧ e.kind < y.kind)) := fun q => h4 (.inr ⟨hu, q⟩)
      have h7 : ¬ (y.seq < e.seq ∨ (e.seq = y.seq ∧ y.kind < e.kind)) := fun q => h5 (.inr ⟨hu.symm, q⟩)
      first | exact hu | omega
  have hp : putF out e = insC cmpK e out := zMD (hk e (by simp)) (fun x hx => hk x (by simp [hx])) hne
  have hpe : (putF out e).Perm (e :: out) := by rw [hp]; exact zFZ e out
  have hpm : (l ++ putF out e).Perm (e :: l ++ out) := (hpe.append_left l).trans (zMQ e l out)
  have hde : Dist cmpK (putF out e) := zBT hpe (List.pairwise_cons.2 ⟨fun y hy => (hne y hy).symm, hd⟩)
  have := zJk l (putF out e) (hk.perm hpm) hde (by rw [hp]; exact zI8 cmpK_ok hs (fun y hy => (hne y hy).symm)) (by rw [hpe.length_eq]; simp only [List.length_cons]; omega)
  exact zBT hpm.symm this
theorem zHA : ∀ ls : List (List Ent), KOK (zBt ls) → (zA1 ls).length = (zBt ls).length → Dist cmpK (zBt ls)
 | [], _, _ => List.Pairwise.nil
 | l :: ls, hk, hl => by
  have hk : KOK (l ++ zBt ls) := hk
  have h1 := zDW l (zA1 ls)
  have h2 := zC9 ls
  have h3 : (zA1 (l :: ls)).length = (zBp (zA1 ls) l).length := rfl
  have h4 : (zBt (l :: ls)).length = l.length + (zBt ls).length := by simp [zBt]
  have ih := zHA ls hk.right (by omega)
  obtain ⟨h5, h6⟩ := zF1 ls hk.right ih
  have hp : (l ++ zA1 ls).Perm (l ++ zBt ls) := h6.append_left l
  have := zJk l (zA1 ls) (hk.perm hp) (zBT h6 ih) h5 (by omega)
  exact zBT hp.symm this
theorem zMz {s : List Int} (h : zBP s = true) {j : Nat} {y x : Int} (hy : s[j]? = some y) (hx : s[j + 1]? = some x) : y < x := by
 cases hn : zCB s (j + 1) x with
 | false => rw [zEZ hx hn] at h; cases h
 | true =>
  simp only [zCB, Bool.and_eq_true, Nat.add_sub_cancel, hy] at hn
  simpa using hn.2
theorem zNv {s : List Int} (h : zBP s = true) {j : Nat} {x : Int} (hx : s[j]? = some x) : 0 ≤ x ∧ x ≤ 1000000000000 := by
 cases hn : zCB s j x with
 | false => rw [zEZ hx hn] at h; cases h
 | true =>
  simp only [zCB, Bool.and_eq_true, zAs, decide_eq_true_eq] at hn
  exact hn.1
theorem zEa {s : List Int} (h : zBP s = true) {i : Nat} {y : Int} (hy : s[i]? = some y) : ∀ (j : Nat) {x : Int}, i < j → s[j]? = some x → y < x
 | 0, _, hij, _ => absurd hij (Nat.not_lt_zero _)
 | j + 1, x, hij, hx => by
  have hlt := (List.getElem?_eq_some_iff.1 hx).1
  obtain ⟨z, hz⟩ : ∃ z, s[j]? = some z := ⟨_, List.getElem?_eq_getElem (by omega)⟩
  have h1 := zMz h hz hx
  by_cases e : i = j
  · subst e; rw [hy] at hz; cases hz; exact h1
  ·
   have := zEa h hy j (by omega) hz
   omega
theorem zNQ {l : List Ent} {z : Int} : ∀ {a : Int}, z < l.foldl (fun a e => min a e.seq) a ↔ z < a ∧ ∀ e ∈ l, z < e.seq := by
 induction l with
 | nil => intro a; simp
 | cons x l ih =>
  intro a
  rw [List.foldl_cons, ih]
  constructor
  ·
   rintro ⟨h1, h2⟩
   refine ⟨by omega, fun e he => ?_⟩
   rcases List.mem_cons.1 he with rfl | he
   · omega
   · exact h2 e he
  ·
   rintro ⟨h1, h2⟩
   have := h2 x (by simp)
   exact ⟨by omega, fun e he => h2 e (by simp [he])⟩
theorem zMT {l : List Ent} {z : Int} : z < zCb l ↔ z < 1000000000000 ∧ ∀ e ∈ l, z < e.seq := zNQ
theorem zDu {l m : List Ent} (hl : ∀ e ∈ l, 0 ≤ e.seq) : idxF (zED (zCc m)) l < 0 ↔ ∀ e ∈ l, ∀ x ∈ m, x.seq < e.seq := by
 rw [zD6]
 constructor
 ·
  intro h e he x hx
  have := h e he
  simp only [zED, decide_eq_false_iff_not] at this
  exact (zKS (hl e he)).1 (by omega) x hx
 ·
  intro h e he
  have := (zKS (l := m) (hl e he)).2 (h e he)
  simp only [zED, decide_eq_false_iff_not]
  omega
theorem zIX {z : Int} {rs : RunL} : zGN z rs rs.length ↔ ∀ x ∈ ents rs, x.seq < z := by
 constructor
 ·
  intro h x hx
  simp only [ents, zBt, List.mem_flatten, rows, List.mem_map] at hx
  obtain ⟨l, ⟨r, hr, rfl⟩, hl⟩ := hx
  obtain ⟨j, hj⟩ := List.getElem?_of_mem hr
  obtain ⟨k, hk⟩ := List.getElem?_of_mem hl
  exact h j r (List.getElem?_eq_some_iff.1 hj).1 hj k x (List.getElem?_eq_some_iff.1 hk).1 hk
 ·
  intro h j r _ hj k x _ hk
  refine h x ?_
  simp only [ents, zBt, List.mem_flatten, rows, List.mem_map]
  exact ⟨r.2, ⟨r, List.mem_of_getElem? hj, rfl⟩, List.mem_of_getElem? hk⟩
theorem zIc {sq : Int} {sn : List Int} (h : zBP sn = true) : UpTo sq sn sn.length ↔ ∀ z, sn[sn.length - 1]? = some z → z ≤ sq := by
 constructor
 ·
  intro hu z hz
  exact hu _ z (List.getElem?_eq_some_iff.1 hz).1 hz
 ·
  intro hl j x hj hx
  obtain ⟨z, hz⟩ : ∃ z, sn[sn.length - 1]? = some z := ⟨_, List.getElem?_eq_getElem (by omega)⟩
  have h1 := hl z hz
  by_cases e : j = sn.length - 1
  · subst e; rw [hx] at hz; cases hz; exact h1
  ·
   have := zEa h hx (sn.length - 1) (by omega) hz
   omega
structure ER (d : Eng) : Prop where
 lt : ∀ e ∈ ents (tagT d.runs), e.seq < 1000000000000
theorem ok_iff {d : Eng} (hR : ER d) (hb : zBe d.seq d.mem (tagT d.runs) d.snaps = true) : IOk d.seq d.mem (tagT d.runs) d.snaps ↔ SOk d.seq d.mem (tagT d.runs) d.snaps := by
 have hk : KOK (totI d) := ent_kok (fun _ he => zDa hb he)
 have h0 : ∀ e ∈ d.mem, 0 ≤ e.seq := fun e he => (zF7 (zDa hb (List.mem_append_left _ he))).1
 have hsn : zBP d.snaps = true := by simp only [zBe, Bool.and_eq_true] at hb; exact hb.2.2.2
 have ha : allS d.mem (tagT d.runs) = zA1 (d.mem :: d.runs) := zPE _ _
 have hlen : (totI d).length = d.mem.length + (ents (tagT d.runs)).length := zFM d
 constructor
 ·
  intro h
  have hpw := zDg h.seqs
  have hd : Dist cmpK (totI d) := zHR hpw
  have hm := zMR hk hd
  have hp : (allI d).Perm (totI d) := zBX _
  refine ⟨by have := h.few; rw [List.length_append] at this; exact this, by rw [ha, hm, hp.length_eq]; exact hlen.symm, ?_, (zIc hsn).2 h.last, zIX.2 (fun x hx => zMT.2 ⟨hR.lt x hx, fun e he => (zDu h0).1 h.mem e he x hx⟩)⟩
  rw [ha, hm]
  exact zIl ((hp.pairwise_iff (fun q => q.symm)).2 hpw) (fun e he => zE4 h.seqs e (hp.mem_iff.1 he))
 ·
  intro h
  have hfull : (zA1 (d.mem :: d.runs)).length = (zBt (d.mem :: d.runs)).length := by rw [zJV, hlen, ← ha]; exact h.all.symm
  have hd : Dist cmpK (totI d) := by have := zHA (d.mem :: d.runs) (by rw [zJV]; exact hk) hfull; rwa [zJV] at this
  have hm := zMR hk hd
  have hp : (allI d).Perm (totI d) := zBX _
  have hs := h.seqs
  rw [ha, hm] at hs
  have hpw := (hp.pairwise_iff (fun q => q.symm)).1 (zDg hs)
  refine ⟨by have := h.few; rw [List.length_append]; exact this, zIl hpw (fun e he => zE4 hs e (hp.mem_iff.2 he)), (zDu h0).2 (fun e he x hx => ?_), (zIc hsn).1 h.upto⟩
  exact (zMT.1 (zIX.1 h.below x hx)).2 e he
theorem ok_same {d : Eng} (hR : ER d) : okB d.seq d.mem (tagT d.runs) d.snaps = zBV d.seq d.mem (tagT d.runs) d.snaps := by
 unfold okB zBV
 cases hb : zBe d.seq d.mem (tagT d.runs) d.snaps with
 | false => rfl
 | true => simp only [Bool.true_and, decide_eq_decide]; exact ok_iff hR hb
end Go.Rl
namespace Go.Rl
structure EN (N : Int) (d : Eng) : Prop where
 pos : 0 ≤ N
 seq : d.seq ≤ N
 mem : ∀ e ∈ d.mem, e.seq ≤ N
 runs : ∀ e ∈ zBt d.runs, e.seq ≤ N
theorem EN.mono {N M : Int} {d : Eng} (h : EN N d) (hm : N ≤ M) : EN M d := ⟨by have := h.pos; omega, by have := h.seq; omega, fun e he => by have := h.mem e he; omega, fun e he => by have := h.runs e he; omega⟩
theorem zIL {N : Int} (h : 0 ≤ N) : EN N Eng.nil := ⟨h, h, fun _ he => (by cases he), fun _ he => (by cases he)⟩
theorem zPr {e : Ent} {r : List Ent × Bool} {x y : Ent} (h : y ∈ (putS e r x).1) : y ∈ r.1 ∨ y = e ∨ y = x := by
 obtain ⟨l, d⟩ := r
 unfold putS at h
 cases d <;> by_cases h1 : 0 ≤ kcmp x e <;> by_cases h2 : kcmp x e = 0 <;> simp [h1, h2] at h <;> first | (exact .inl h) | (rcases h with h | h <;> simp [h]) | (rcases h with h | h | h <;> simp [h]) | simp [h]
theorem zIu {l : List Ent} {e y : Ent} : ∀ i, i ≤ l.length → y ∈ (putN l e i).1 → y = e ∨ y ∈ l
 | 0, _, h => by simp [putN] at h
 | i + 1, hi, h => by
  obtain ⟨x, hx⟩ : ∃ x, l[i]? = some x := ⟨_, List.getElem?_eq_getElem (by omega)⟩
  rw [zEL hx] at h
  rcases zPr h with h | h | h
  · exact zIu i (by omega) h
  · exact .inl h
  · exact .inr (h ▸ List.mem_of_getElem? hx)
theorem zPt {l : List Ent} {e y : Ent} (h : y ∈ putF l e) : y = e ∨ y ∈ l := by
 unfold putF at h
 split at h
 · exact zIu _ (Nat.le_refl _) h
 ·
  rcases List.mem_append.1 h with h | h
  · exact zIu _ (Nat.le_refl _) h
  · exact .inl (by simpa using h)
theorem zIt : ∀ {l out : List Ent} {y : Ent}, y ∈ zBp out l → y ∈ l ∨ y ∈ out
 | [], _, _, h => .inr h
 | e :: l, out, y, h => by
  have h : y ∈ zBp (putF out e) l := h
  rcases zIt h with h | h
  · exact .inl (by simp [h])
  ·
   rcases zPt h with h | h
   · exact .inl (by simp [h])
   · exact .inr h
theorem zIA : ∀ {ls : List (List Ent)} {y : Ent}, y ∈ zA1 ls → y ∈ zBt ls
 | [], _, h => by cases h
 | l :: ls, y, h => by
  have h : y ∈ zBp (zA1 ls) l := h
  show y ∈ l ++ zBt ls
  rcases zIt h with h | h
  · exact List.mem_append_left _ h
  · exact List.mem_append_right _ (zIA h)
theorem zKK {l : List Ent} {s : List Int} {x : Ent} (h : x ∈ zCX l s) : x ∈ l := by
 obtain ⟨_, q, _, _, hq⟩ := zEW (fun z hz => by
  obtain ⟨k, h1, _, h3⟩ := zDi (n := l.length) hz
  exact ⟨k, h1, h3⟩) (Nat.le_refl _) h
 exact List.mem_of_getElem? hq
theorem zQN {N : Int} {d : Eng} (h : EN N d) : EN N (zBm d).1 := by
 unfold zBm
 split
 ·
  split
  · exact h
  ·
   split
   · exact h
   · exact ⟨h.pos, h.seq, fun _ he => (by cases he), fun e he => (List.mem_append.1 (show e ∈ d.mem ++ zBt d.runs from he)).elim (h.mem e) (h.runs e)⟩
 · exact zIL h.pos
theorem snap_en {N : Int} {d : Eng} (h : EN N d) : EN N (zCA d).1 := by
 unfold zCA
 split
 ·
  split
  · exact h
  ·
   split
   · exact h
   · exact ⟨h.pos, h.seq, h.mem, h.runs⟩
 · exact zIL h.pos
theorem free_en {N a : Int} {d : Eng} (h : EN N d) : EN N (zCE d a).1 := by
 unfold zCE
 split
 · exact ⟨h.pos, h.seq, h.mem, h.runs⟩
 · exact zIL h.pos
theorem zNX {N : Int} {d : Eng} (h : EN N d) : EN N (zBD d).1 := by
 unfold zBD
 split
 ·
  split
  · exact h
  ·
   refine ⟨h.pos, h.seq, h.mem, fun e he => h.runs e ?_⟩
   have he : e ∈ zBt (if 0 < (zCX (zA1 d.runs) d.snaps).length then [zCX (zA1 d.runs) d.snaps] else []) := he
   split at he
   ·
    simp only [zBt, List.flatten_cons, List.flatten_nil, List.append_nil] at he
    exact zIA (zKK he)
   · cases he
 · exact zIL h.pos
theorem zPM {N : Int} {d : Eng} {ops : List Bop} (h : EN N d) (hn : ops.length ≤ 100) : EN (N + 100) (zBh d ops).1 := by
 have hp := h.pos
 have hs := h.seq
 unfold zBh
 split
 ·
  split
  · exact h.mono (by omega)
  ·
   split
   · exact h.mono (by omega)
   ·
    refine ⟨by omega, by show d.seq + (ops.length : Int) ≤ N + 100; omega, fun e he => ?_, fun e he => by have := h.runs e he; omega⟩
    rcases zIt he with he | he
    ·
     have := zEk he
     omega
    ·
     have := h.mem e he
     omega
 · exact zIL (by omega)
theorem zOo {N : Int} {bs : List Nat} {x : Eng × Nat} (h : EN N x.1) : EN (N + 100) (zCR bs x).1 := by
 have hk : EN (N + 100) x.1 := h.mono (by omega)
 unfold zCR
 split
 ·
  dsimp only
  split
  · exact (zQN h).mono (by omega)
  · exact hk
 split
 ·
  dsimp only
  split
  · exact (snap_en h).mono (by omega)
  · exact hk
 split
 ·
  dsimp only
  split
  · exact (zNX h).mono (by omega)
  · exact hk
 split
 ·
  split
  ·
   dsimp only
   split
   · exact (free_en h).mono (by omega)
   · exact hk
  · exact hk
 ·
  dsimp only
  split
  · exact zPM h (by have := zEe bs (zAH bs x.2 7); omega)
  · exact hk
theorem zKE {bs : List Nat} : ∀ (i : Nat) (x : Eng × Nat) {N : Int}, EN N x.1 → EN (N + 100 * i) (zCW bs i x).1
 | 0, _, _, h => h.mono (by omega)
 | i + 1, x, N, h => (zKE i (zCR bs x) (zOo h)).mono (by omega)
theorem zO5 (bs : List Nat) (p : Nat) : zAk bs p 9 ≤ 9 := by
 unfold zAk
 rw [if_neg (by decide), if_pos (by decide)]
 omega
theorem dbV_er (bs : List Nat) (p : Nat) : ER (dbV bs p) := by
 have h : EN (0 + 100 * (zAk bs p 9 : Nat)) (zCV bs p).1 := zKE _ (Eng.nil, zAH bs p 9) (zIL (Int.le_refl 0))
 have h9 := zO5 bs p
 have hr : (dbV bs p).runs = (zCV bs p).1.runs := by
  unfold dbV zHi zFg
  split <;> split <;> rfl
 refine ⟨fun e he => ?_⟩
 rw [zCO, hr] at he
 have := h.runs e he
 omega
end Go.Rl
namespace Go.Rl
variable {d : Eng} {u : ByteArray} {a p : Int} {l : List Ent}
theorem zEl (h : okB d.seq d.mem (tagT d.runs) d.snaps = true) : zCd (allI d) := zGj ((zDO cmpK_ok (zK2 h)).imp zC5)
theorem zC8 (hl : zCd l) : (visF l p).Pairwise (fun x y => ltB x.user y.user = true) := zDw (zEI hl)
theorem zKQ {s : List Pr} : zIU ⟨#[]⟩ ⟨#[]⟩ s = s := by
 unfold zIU
 rw [List.filter_eq_self]
 intro x _
 have : ltB x.user ⟨#[]⟩ = false := by
  have he : (⟨#[]⟩ : ByteArray).toList = [] := by rw [ByteArray.toList]; unfold ByteArray.toList.loop; rfl
  unfold ltB
  rw [he]
  cases x.user.toList <;> rfl
 simp [outP, this]
end Go.Rl
namespace Go.Rl
def opPr (o : Bop) : Pr := ⟨o.user, o.value⟩
def foldS (o : Bop) (r : List Pr × Bool) (x : Pr) : List Pr × Bool :=
 let r1 := if (!r.2 && !ltB x.user o.user) = true then (r.1 ++ [opPr o], true) else r
 if x.user ≠ o.user then (r1.1 ++ [x], r1.2) else r1
def foldN (l : List Pr) (o : Bop) (k : Nat) : List Pr × Bool := (l.take k).foldl (foldS o) ([], decide (o.kind = 0))
def foldO (l : List Pr) (o : Bop) : List Pr := if (foldN l o l.length).2 = true then (foldN l o l.length).1 else (foldN l o l.length).1 ++ [opPr o]
def foldF (l : List Pr) (ops : List Bop) : List Pr := ops.foldl foldO l
def PSort (l : List Pr) : Prop := l.Pairwise (fun x y => ltB x.user y.user = true)
def FoldA (l : List Pr) (o : Bop) (k : Nat) (r : List Pr × Bool) : Prop := r.2 = false ∧ o.kind ≠ 0 ∧ r.1 = l.take k ∧ ∀ y ∈ l.take k, ltB y.user o.user = true
def FoldB (l : List Pr) (o : Bop) (k : Nat) (r : List Pr × Bool) : Prop := r.2 = true ∧ (∀ x, x ∈ r.1 ↔ (x ∈ l.take k ∧ x.user ≠ o.user) ∨ (o.kind ≠ 0 ∧ x = opPr o)) ∧ PSort r.1 ∧ (o.kind ≠ 0 → ∃ y ∈ l.take k, ltB y.user o.user = false)
theorem zGz {l m : List Pr} (hl : PSort l) (hm : PSort m) (h : ∀ x, x ∈ l ↔ x ∈ m) : l = m :=
 zFx (R := fun x y : Pr => ltB x.user y.user = true) (fun _ q => by rw [zDL] at q; cases q) (fun _ _ q r => by rw [zHE q] at r; cases r) hl hm h
theorem zLY {u : ByteArray} {p : Int} {e : Ent} : asOf u p e = true ↔ e.user = u ∧ e.seq ≤ p := by simp [asOf]
end Go.Rl
namespace Go.Rl
variable {d : Eng} {ops : List Bop}
def zEm (d : Eng) (ops : List Bop) : Eng := ⟨d.seq + (ops.length : Int), zB4 cmpK (d.mem ++ zAq (d.seq + 1) ops), d.runs, d.snaps⟩
theorem zNa {s : Int} (h : zA7 s ops = true) : (1 ≤ ops.length ∧ ops.length ≤ 20) ∧ (1 ≤ s ∧ s ≤ 999999999980) ∧ ∀ e ∈ zAq s ops, zBc e = true := by
 simp only [zA7, Bool.and_eq_true, decide_eq_true_eq] at h
 refine ⟨zC7.1 h.1, by simpa [zAs] using h.2.1, fun e he => ?_⟩
 have := zD6.1 h.2.2 e he
 simpa using this
theorem zHl (d : Eng) (ops : List Bop) : (totI (zEm d ops)).Perm (totI d ++ zAq (d.seq + 1) ops) := by
 unfold totI zEm
 refine ((zBX _).append_right _).trans ?_
 rw [List.append_assoc, List.append_assoc]
 exact List.perm_append_comm.append_left _
theorem zNp (h : okB d.seq d.mem (tagT d.runs) d.snaps = true) : (totI d ++ zAq (d.seq + 1) ops).Pairwise (fun x y => x.seq ≠ y.seq) := by
 have h1 := (zC1 h).2.seqs
 refine List.pairwise_append.2 ⟨zDg h1, zMm _ _, fun x hx y hy => ?_⟩
 have := zEk hy
 have := zE4 h1 x hx
 omega
theorem zPJ (h : okB d.seq d.mem (tagT d.runs) d.snaps = true) (hb : zA7 (d.seq + 1) ops = true) (hn : (totI d).length + ops.length ≤ 400) : okB (zEm d ops).seq (zEm d ops).mem (tagT (zEm d ops).runs) (zEm d ops).snaps = true := by
 obtain ⟨hbase, hI⟩ := zC1 h
 obtain ⟨hbl, hbs, hbe⟩ := zNa hb
 have hb2 := hbase
 simp only [zBe, Bool.and_eq_true] at hb2
 obtain ⟨h1, h2, h3, h4⟩ := hb2
 have h1' : 0 ≤ d.seq ∧ d.seq ≤ 1000000000000 := by simpa [zAs] using h1
 have htl := zFM d
 have hml : (zB4 cmpK (d.mem ++ zAq (d.seq + 1) ops)).length = d.mem.length + ops.length := by rw [zDn, List.length_append, zB2]
 have hmem : ∀ e ∈ zB4 cmpK (d.mem ++ zAq (d.seq + 1) ops), e ∈ d.mem ∨ e ∈ zAq (d.seq + 1) ops := fun e he => List.mem_append.1 ((zBX _).mem_iff.1 he)
 have hbase' : zBe (zEm d ops).seq (zEm d ops).mem (tagT (zEm d ops).runs) (zEm d ops).snaps = true := by
  refine zO8 ?_ ?_ h3 h4
  ·
   show zAs (d.seq + (ops.length : Int)) 0 1000000000000 = true
   simp only [zAs, Bool.and_eq_true, decide_eq_true_eq]
   omega
  ·
   refine zLI ((zDO cmpK_ok (zHm h)).imp zC5) (by show (zB4 cmpK (d.mem ++ zAq (d.seq + 1) ops)).length ≤ 400; omega) (fun e he => ?_)
   rcases hmem e he with q | q
   · exact zGc h2 q
   · exact hbe e q
 have hp := zHl d ops
 refine (zIx hbase' ⟨?_, ?_, ?_, fun z hz => ?_⟩).symm
 ·
  show (totI (zEm d ops)).length ≤ 400
  rw [hp.length_eq, List.length_append, zB2]
  exact hn
 ·
  refine zIl ((hp.pairwise_iff (fun q => q.symm)).2 (zNp h)) (fun e he => ?_)
  show e.seq ≤ d.seq + (ops.length : Int)
  rcases List.mem_append.1 (hp.mem_iff.1 he) with q | q
  ·
   have := zE4 hI.seqs e q
   omega
  ·
   have := zEk q
   omega
 ·
  refine (zDu (fun e he => (zF7 (zDa hbase' (List.mem_append_left _ he))).1)).2 (fun e he x hx => ?_)
  rcases hmem e he with q | q
  · exact (zDu (fun e he => (zF7 (zDa hbase (List.mem_append_left _ he))).1)).1 hI.mem e q x hx
  ·
   have h5 := zEk q
   have h6 := zE4 hI.seqs x (List.mem_append_right _ hx)
   omega
 ·
  have := hI.last z hz
  show z ≤ d.seq + (ops.length : Int)
  omega
theorem zPh (h : okB d.seq d.mem (tagT d.runs) d.snaps = true) : zBn d (-1) ⟨#[]⟩ ⟨#[]⟩ = (visF (allI d) d.seq, 0) := by
 rw [zNz h (by simp [zFE]), zKQ]
 simp [askI]
theorem zEu (h : okB d.seq d.mem (tagT d.runs) d.snaps = true) : EB d := (zBr h).eb
end Go.Rl
namespace Go.Rl
end Go.Rl
namespace Go.Rl
noncomputable def zCH (d : Eng) : Eng × Int := if okI d = true then (if d.mem.length = 0 then (d, 4) else if 19 ≤ d.runs.length then (d, 3) else (⟨d.seq, [], d.mem :: d.runs, d.snaps⟩, 0)) else (Eng.nil, 1)
noncomputable def zCp (d : Eng) : Eng × Int × Int := if okI d = true then (if atI d.snaps d.seq = true then (d, d.seq, 0) else if d.snaps.length = 20 then (d, 0, 3) else (⟨d.seq, d.mem, d.runs, d.snaps ++ [d.seq]⟩, d.seq, 0)) else (Eng.nil, 0, 1)
def idxI (s : List Int) (a : Int) : Int := idxF (fun x => decide (a = x)) s
noncomputable def zGQ (d : Eng) (a : Int) : Eng × Int := if okI d = true then (if idxI d.snaps a < 0 then (d, 4) else (⟨d.seq, d.mem, d.runs, d.snaps.eraseIdx (idxI d.snaps a).toNat⟩, 0)) else (Eng.nil, 1)
def rowI (d : Eng) : List Ent := zB4 cmpK (ents (tagT d.runs))
def zDI (l : List Ent) : List (List Ent) := if 0 < l.length then [l] else []
noncomputable def zBg (d : Eng) : Eng × Int := if okI d = true then (if d.runs.length = 0 then (d, 4) else (⟨d.seq, d.mem, zDI (zCX (rowI d) d.snaps), d.snaps⟩, 0)) else (Eng.nil, 1)
variable {d : Eng} {a : Int}
theorem zQM (h : okB d.seq d.mem (tagT d.runs) d.snaps = false) : zCH d = (Eng.nil, 1) := if_neg (zNB h)
theorem zMc (h : okB d.seq d.mem (tagT d.runs) d.snaps = true) (h1 : d.mem.length = 0) : zCH d = (d, 4) := by rw [zCH, if_pos (show okI d = true from h), if_pos h1]
theorem zMb (h : okB d.seq d.mem (tagT d.runs) d.snaps = true) (h1 : ¬ d.mem.length = 0) (h2 : 19 ≤ d.runs.length) : zCH d = (d, 3) := by rw [zCH, if_pos (show okI d = true from h), if_neg h1, if_pos h2]
theorem zMa (h : okB d.seq d.mem (tagT d.runs) d.snaps = true) (h1 : ¬ d.mem.length = 0) (h2 : ¬ 19 ≤ d.runs.length) : zCH d = (⟨d.seq, [], d.mem :: d.runs, d.snaps⟩, 0) := by rw [zCH, if_pos (show okI d = true from h), if_neg h1, if_neg h2]
theorem zKl (h : okB d.seq d.mem (tagT d.runs) d.snaps = false) : zCp d = (Eng.nil, 0, 1) := if_neg (zNB h)
theorem zKm (h : okB d.seq d.mem (tagT d.runs) d.snaps = true) (h1 : atI d.snaps d.seq = true) : zCp d = (d, d.seq, 0) := by rw [zCp, if_pos (show okI d = true from h), if_pos h1]
theorem zKn (h : okB d.seq d.mem (tagT d.runs) d.snaps = true) (h1 : atI d.snaps d.seq = false) (h2 : d.snaps.length = 20) : zCp d = (d, 0, 3) := by rw [zCp, if_pos (show okI d = true from h), if_neg (by rw [h1]; decide), if_pos h2]
theorem zKk (h : okB d.seq d.mem (tagT d.runs) d.snaps = true) (h1 : atI d.snaps d.seq = false) (h2 : ¬ d.snaps.length = 20) : zCp d = (⟨d.seq, d.mem, d.runs, d.snaps ++ [d.seq]⟩, d.seq, 0) := by rw [zCp, if_pos (show okI d = true from h), if_neg (by rw [h1]; decide), if_neg h2]
theorem freei_w (h : okB d.seq d.mem (tagT d.runs) d.snaps = false) : zGQ d a = (Eng.nil, 1) := if_neg (zNB h)
theorem freei_n (h : okB d.seq d.mem (tagT d.runs) d.snaps = true) (h1 : idxI d.snaps a < 0) : zGQ d a = (d, 4) := by rw [zGQ, if_pos (show okI d = true from h), if_pos h1]
theorem zOe (h : okB d.seq d.mem (tagT d.runs) d.snaps = true) (h1 : ¬ idxI d.snaps a < 0) : zGQ d a = (⟨d.seq, d.mem, d.runs, d.snaps.eraseIdx (idxI d.snaps a).toNat⟩, 0) := by rw [zGQ, if_pos (show okI d = true from h), if_neg h1]
theorem compi_w (h : okB d.seq d.mem (tagT d.runs) d.snaps = false) : zBg d = (Eng.nil, 1) := if_neg (zNB h)
theorem zOx (h : okB d.seq d.mem (tagT d.runs) d.snaps = true) (h1 : d.runs.length = 0) : zBg d = (d, 4) := by rw [zBg, if_pos (show okI d = true from h), if_pos h1]
theorem zOw (h : okB d.seq d.mem (tagT d.runs) d.snaps = true) (h1 : ¬ d.runs.length = 0) : zBg d = (⟨d.seq, d.mem, zDI (zCX (rowI d) d.snaps), d.snaps⟩, 0) := by rw [zBg, if_pos (show okI d = true from h), if_neg h1]
theorem zJi (h : okB d.seq d.mem (tagT d.runs) d.snaps = true) : Dist cmpK (ents (tagT d.runs)) := (List.pairwise_append.1 (zK2 h)).2.1
theorem zL1 (d : Eng) : (rowI d).length = (ents (tagT d.runs)).length := zDn _
theorem zHy (h : okB d.seq d.mem (tagT d.runs) d.snaps = true) : (rowI d).length ≤ 400 := by
 have := zIe h
 have := zFM d
 have := zL1 d
 omega
theorem zGv (h : okB d.seq d.mem (tagT d.runs) d.snaps = true) : zAr (rowI d) = true :=
 zLI ((zDO cmpK_ok (zJi h)).imp zC5) (zHy h) (fun _ he => zDa (zC1 h).1 (List.mem_append_right _ ((zBX _).mem_iff.1 he)))
theorem zCZ (h : okB d.seq d.mem (tagT d.runs) d.snaps = true) : zBP d.snaps = true := by
 have hb := (zC1 h).1
 simp only [zBe, Bool.and_eq_true] at hb
 exact hb.2.2.2
theorem zDX (h : okB d.seq d.mem (tagT d.runs) d.snaps = true) : zAs d.seq 0 1000000000000 = true ∧ zAr d.mem = true ∧ zBQ (tagT d.runs) = true := by
 have hb := (zC1 h).1
 simp only [zBe, Bool.and_eq_true] at hb
 exact ⟨hb.1, hb.2.1, hb.2.2.1⟩
theorem zOy (h : okB d.seq d.mem (tagT d.runs) d.snaps = true) : zCX (rowI d) d.snaps = zBS (rowI d) d.snaps true := (zEB (zGv h) (zCZ h)).symm
end Go.Rl

/- Promises of functions, proved by walks over their operations; no conditions beyond those that each theorem states. -/
import Derived.Test.YtfdebanfenlglaaRtEq
import Derived.Test.YtfdebanfenlglaaReQ
set_option linter.unusedSimpArgs false
set_option linter.unusedVariables false
namespace Go.Rl
theorem lessE_of {a b : Ent} (h : cmpK a b < 0) : LessE a b := by
  by_cases h1 : LessE a b
  · exact h1
  · by_cases h2 : a.user = b.user ∧ a.seq = b.seq ∧ a.kind = b.kind
    · rw [cmpK_eq h2.1 h2.2.1 h2.2.2] at h; omega
    · rw [cmpK_gt h1 h2] at h; omega
theorem LessE.trans {a b c : Ent} (h : LessE a b) (k : LessE b c) : LessE a c := by
  rcases h with h | ⟨hu, h⟩
  · rcases k with k | ⟨ku, _⟩
    · exact .inl (ltB_trans h k)
    · exact .inl (by rw [← ku]; exact h)
  · rcases k with k | ⟨ku, k⟩
    · exact .inl (by rw [hu]; exact k)
    · refine .inr ⟨hu.trans ku, ?_⟩
      rcases h with h | ⟨h1, h2⟩
      · rcases k with k | ⟨k1, k2⟩
        · exact .inl (by omega)
        · exact .inl (by omega)
      · rcases k with k | ⟨k1, k2⟩
        · exact .inl (by omega)
        · exact .inr ⟨by omega, by omega⟩
theorem LessE.irrefl {a : Ent} (h : LessE a a) : False := by
  rcases h with h | ⟨_, h | ⟨_, h⟩⟩
  · rw [ltB_irr] at h; cases h
  · omega
  · omega
theorem ents_less {l : List Ent} (h : entsOk l = true) : ∀ (d i : Nat) (x e : Ent), l[i]? = some x → l[i + d + 1]? = some e → LessE x e
  | 0, i, x, e, hx, he => by
    simp only [entsOk, Bool.and_eq_true] at h
    have := allIx_get h.2 he
    simp only [okEnt, Nat.add_zero, Nat.add_sub_cancel, hx, Bool.and_eq_true, Bool.or_eq_true, decide_eq_true_eq] at this
    exact lessE_of (this.2.resolve_left (by omega))
  | d + 1, i, x, e, hx, he => by
    obtain ⟨y, hy⟩ : ∃ y, l[i + d + 1]? = some y := ⟨_, List.getElem?_eq_getElem (by have := (List.getElem?_eq_some_iff.1 he).1; omega)⟩
    exact (ents_less h d i x y hx hy).trans (ents_less h 0 (i + d + 1) y e hy (by rw [← he]; congr 1))
theorem ents_lt {l : List Ent} (h : entsOk l = true) {i j : Nat} {x e : Ent} (hij : i < j) (hx : l[i]? = some x) (he : l[j]? = some e) : LessE x e :=
  ents_less h (j - i - 1) i x e hx (by rw [← he]; congr 1; omega)
theorem ents_inj {l : List Ent} (h : entsOk l = true) {i j : Nat} {e : Ent} (hx : l[i]? = some e) (he : l[j]? = some e) : i = j := by
  rcases Nat.lt_trichotomy i j with hij | hij | hij
  · exact (ents_lt h hij hx he).irrefl.elim
  · exact hij
  · exact (ents_lt h hij he hx).irrefl.elim
/-! #### the needed places stand in order -/
theorem needF_lt {l : List Ent} {ps : List Int} {n : Nat} {z : Int} (h : z ∈ needF l ps n) : z < (n : Int) := by
  obtain ⟨k, h1, h2, _⟩ := needF_bnd (n := n) h
  omega
theorem needF_sorted (l : List Ent) (ps : List Int) : ∀ n, (needF l ps n).Pairwise (· < ·)
  | 0 => .nil
  | n + 1 => by
    rw [needF, List.pairwise_append]
    refine ⟨needF_sorted l ps n, ?_, fun a ha b hb => ?_⟩
    · cases l[n]? with
      | none => exact .nil
      | some e =>
        simp only
        split
        · exact List.pairwise_singleton _ _
        · exact .nil
    · have h1 := needF_lt ha
      cases hn : l[n]? with
      | none => rw [hn] at hb; cases hb
      | some e =>
        rw [hn] at hb
        simp only at hb
        split at hb
        · rw [List.mem_singleton] at hb; omega
        · cases hb
theorem sorted_get {zs : List Int} (h : zs.Pairwise (· < ·)) {i j : Nat} {x y : Int} (hij : i < j) (hx : zs[i]? = some x) (hy : zs[j]? = some y) : x < y := by
  obtain ⟨h1, rfl⟩ := List.getElem?_eq_some_iff.1 hx
  obtain ⟨h2, rfl⟩ := List.getElem?_eq_some_iff.1 hy
  exact (List.pairwise_iff_getElem.1 h) i j h1 h2 hij
theorem cstep_cases (b : Bool) (out : List Ent) (e : Ent) : (cstep b out e = e :: out) ∨ (cstep b out e = out ∧ b = true ∧ e.kind = 0 ∧ older out e = false) := by
  by_cases h : b = true ∧ e.kind = 0 ∧ older out e = false
  · exact .inr ⟨cstep_drop h.1 h.2.1 h.2.2, h⟩
  · exact .inl (cstep_keep h)
/-- What is kept of the last k of them. -/
theorem compU_mem {l : List Ent} {b : Bool} {zs : List Int} (hz : ∀ z ∈ zs, ∃ q : Nat, z = (q : Int) ∧ q < l.length) : ∀ {k : Nat} {x : Ent}, k ≤ zs.length → x ∈ compU l b zs k → ∃ (j q : Nat), zs.length - k ≤ j ∧ zs[j]? = some (q : Int) ∧ l[q]? = some x
  | 0, x, _, h => by simp [compU, Go.Proofs.Bw.upto, compP] at h
  | k + 1, x, hk, h => by
    obtain ⟨z, hzz⟩ : ∃ z, zs[zs.length - 1 - k]? = some z := ⟨_, List.getElem?_eq_getElem (by omega)⟩
    obtain ⟨q, rfl, hq⟩ := hz z (List.mem_of_getElem? hzz)
    obtain ⟨e, he⟩ : ∃ e, l[q]? = some e := ⟨_, List.getElem?_eq_getElem hq⟩
    have hs := compU_succ (l := l) (bot := b) (i := zs.length - 1 - k) (k := k) (by omega) hzz (e := e) (by simpa using he)
    rw [hs] at h
    have rec_ : x ∈ compU l b zs k → ∃ (j q : Nat), zs.length - (k + 1) ≤ j ∧ zs[j]? = some (q : Int) ∧ l[q]? = some x := fun hx => by
      obtain ⟨j, q', h1, h2, h3⟩ := compU_mem hz (by omega) hx
      exact ⟨j, q', by omega, h2, h3⟩
    rcases cstep_cases b (compU l b zs k) e with hc | ⟨hc, _⟩
    · rw [hc] at h
      rcases List.mem_cons.1 h with rfl | h
      · exact ⟨zs.length - 1 - k, q, by omega, hzz, he⟩
      · exact rec_ h
    · rw [hc] at h; exact rec_ h
/-- Each needed place's entry is nowhere behind. -/
theorem compU_new {l : List Ent} {b : Bool} {zs : List Int} (hl : entsOk l = true) (hs : zs.Pairwise (· < ·)) (hz : ∀ z ∈ zs, ∃ q : Nat, z = (q : Int) ∧ q < l.length) {i k q : Nat} {e : Ent} (hi : i + k + 1 = zs.length) (hzz : zs[i]? = some (q : Int)) (he : l[q]? = some e) : e ∉ compU l b zs k := fun h => by
  obtain ⟨j, q', h1, h2, h3⟩ := compU_mem hz (by omega) h
  have := sorted_get hs (show i < j by omega) hzz h2
  have := ents_inj hl he h3
  omega
/-- A step of the law: the entry is there, or it was a deletion at the bottom. -/
theorem shadow_step {l : List Ent} {b : Bool} {zs : List Int} {a : List Ent} (hl : entsOk l = true) (hs : zs.Pairwise (· < ·)) (hz : ∀ z ∈ zs, ∃ q : Nat, z = (q : Int) ∧ q < l.length) {i n q : Nat} {e : Ent} (hi : i < zs.length) (hzz : zs[i]? = some (q : Int)) (he : l[q]? = some e)
    (hd : a.drop n = compU l b zs (zs.length - i)) : (a[n]? = some e ∧ a.drop (n + 1) = compU l b zs (zs.length - (i + 1))) ∨ (a[n]? ≠ some e ∧ a.drop n = compU l b zs (zs.length - (i + 1)) ∧ b = true ∧ e.kind = 0) := by
  have hst := compU_succ (l := l) (bot := b) (i := i) (k := zs.length - (i + 1)) (by omega) hzz (e := e) (by simpa using he)
  rw [show zs.length - (i + 1) + 1 = zs.length - i by omega] at hst
  rw [hst] at hd
  have hnew := compU_new (b := b) hl hs hz (i := i) (k := zs.length - (i + 1)) (by omega) hzz he
  rcases cstep_cases b (compU l b zs (zs.length - (i + 1))) e with hc | ⟨hc, h2, h3, _⟩
  · rw [hc] at hd
    refine .inl ⟨?_, ?_⟩
    · have := congrArg (·[0]?) hd
      simpa using this
    · have := congrArg List.tail hd
      simpa using this
  · rw [hc] at hd
    refine .inr ⟨fun ha => hnew ?_, hd, h2, h3⟩
    rw [← hd]
    have : (a.drop n)[0]? = some e := by simpa using ha
    exact List.mem_of_getElem? this
theorem shadow_end {l : List Ent} {b : Bool} {zs : List Int} {a : List Ent} {i n : Nat} (hi : zs.length ≤ i) (hn : n ≤ a.length) (hd : a.drop n = compU l b zs (zs.length - i)) : n = a.length := by
  rw [show zs.length - i = 0 by omega] at hd
  have h0 : a.drop n = [] := hd
  have := congrArg List.length h0
  simp only [List.length_drop, List.length_nil] at this
  omega
theorem neededF_ok {l : List Ent} {s : List Int} (h1 : entsOk l = true) (h2 : snapsOk s = true) : neededF l s = needF l (pointsF s) l.length := if_pos ⟨h1, h2⟩
theorem compactedF_ok {l : List Ent} {s : List Int} {b : Bool} (h1 : entsOk l = true) (h2 : snapsOk s = true) : compactedF l s b = compU l b (needF l (pointsF s) l.length) (needF l (pointsF s) l.length).length := if_pos ⟨h1, h2⟩
end Go.Rl
namespace Go.Rl
theorem shadow_hit {x : Option Ent} {e e2 : Ent} {D1 D2 : Prop} (h : (x = some e ∧ D1) ∨ (x ≠ some e ∧ D2)) (he : x = some e2) (hs : e2 = e) : x = some e ∧ D1 := by
  rcases h with h | h
  · exact h
  · exact absurd (by rw [he, hs]) h.1
theorem shadow_miss {x : Option Ent} {e e2 : Ent} {D1 D2 : Prop} (h : (x = some e ∧ D1) ∨ (x ≠ some e ∧ D2)) (he : x = some e2) (hs : ¬ e2 = e) : D2 := by
  rcases h with h | h
  · rw [he] at h; exact absurd (Option.some.inj h.1) hs
  · exact h.2
theorem shadow_none {a : List Ent} {n : Nat} {e : Ent} {D1 D2 : Prop} (h : (a[n]? = some e ∧ D1) ∨ (a[n]? ≠ some e ∧ D2)) (hn : a.length ≤ n) : D2 := by
  rcases h with h | h
  · rw [List.getElem?_eq_none hn] at h; cases h.1
  · exact h.2
end Go.Rl
namespace Go.Rl
open Go.Proofs
theorem en27 : ∀ vs w, (callFunc 27 vs).run Try.prog w = .ok (.enter 27 vs) w := enters Try.func27 (by decide) rfl
theorem en28 : ∀ vs w, (callFunc 28 vs).run Try.prog w = .ok (.enter 28 vs) w := enters Try.func28 (by decide) rfl
theorem en30 : ∀ vs w, (callFunc 30 vs).run Try.prog w = .ok (.enter 30 vs) w := enters Try.func30 (by decide) rfl
set_option maxRecDepth 100000 in
theorem ent_eqIn (a b : Ent) (w : World) : (Op.equalIn 10000 44 (.agg ⟨[.string a.user, .int .i64 a.seq, .int .i64 a.kind, .string a.value]⟩) (.agg ⟨[.string b.user, .int .i64 b.seq, .int .i64 b.kind, .string b.value]⟩)).run Try.prog w = .ok (decide (a = b)) w := by
  rw [show (10000 : Nat) = 9999 + 1 from rfl, run_equalIn_agg w 9999 44 _ _ Try.underlying44 (by kernel_rfl)]
  rw [show (Try.prog.fieldsOf 44).toList = [⟨"Key", 42, 0, false, "", "", 0⟩, ⟨"Value", 9, 3, false, "", "", 32⟩] from rfl]
  rw [show (9999 : Nat) = 9998 + 1 from rfl]
  have hb : ∀ x y : ByteArray, x.toList = y.toList ↔ x = y := fun x y => ⟨toList_inj, fun h => by rw [h]⟩
  have hk : ∀ w, (Op.equalIn 9999 42 (.agg ⟨[.string a.user, .int .i64 a.seq, .int .i64 a.kind]⟩) (.agg ⟨[.string b.user, .int .i64 b.seq, .int .i64 b.kind]⟩)).run Try.prog w = .ok (decide ((a.user, a.seq, a.kind) = (b.user, b.seq, b.kind))) w := fun w => by
    rw [show (9999 : Nat) = 9998 + 1 from rfl, run_equalIn_agg w 9998 42 _ _ Try.underlying42 (by kernel_rfl)]
    rw [show (Try.prog.fieldsOf 42).toList = [⟨"User", 9, 0, false, "", "", 0⟩, ⟨"Seq", 2, 1, false, "", "", 16⟩, ⟨"Kind", 2, 2, false, "", "", 24⟩] from rfl]
    rw [show (9998 : Nat) = 9997 + 1 from rfl]
    simp [Op.eqFields, part, Try.isAgg9, Try.sizeOf9, Try.isAgg2, Try.sizeOf2, run_equalIn_string (h := Try.underlying9), run_equalIn_int (h := Try.underlying2), hb]
    cases a; cases b
    simp only [Prod.mk.injEq]
    split
    · split
      · split <;> simp_all
      · simp_all
    · simp_all
  simp [Op.eqFields, part, Try.isAgg9, Try.sizeOf9, Try.isAgg42, Try.sizeOf42, hk, run_equalIn_string (h := Try.underlying9), hb]
  cases a; cases b
  simp only [Ent.mk.injEq]
  split
  · simp_all
  · split <;> simp_all
set_option maxRecDepth 1000000 in
set_option maxHeartbeats 2000000 in
theorem sameInts_con (a b : List Int) (hl : a.length ≤ 1000000000) : Con Try.prog 30 [.one (PV.sl false 1 (pvI a)), .one (PV.sl false 1 (pvI b))] [] [.one (.v (.bool (decide (a = b))))] := by
  refine con_of_tr Try.func30 rfl rfl rfl rfl ?_
  have hla := pvI_length a
  have hlb := pvI_length b
  refine tr_seq ?_
  refine tr_region rfl (.run [] [] rfl (st_assign rfl) .nil) ?_
  refine tr_seq ?_
  refine tr_seq ?_
  refine tr_region rfl (.run [] [] rfl (st_move rfl) (.run [] [] rfl (st_len_fro rfl rfl Try.underlying23) (.run [] [] rfl (st_move rfl) (.run [] [] rfl (st_len_fro rfl rfl Try.underlying23) (.run [] [] rfl (st_neq rfl rfl rfl) .nil))))) ?_
  refine tr_if (t := (!(decide (((pvI a).length : Int) = ((pvI b).length : Int))))) rfl (fun h1 => ?_) (fun h1 => ?_)
  · skip
    replace h1 : ¬ (((pvI a).length : Int) = ((pvI b).length : Int)) := of_decide_eq_false (bnot_t h1)
    refine tr_seq ?_
    refine tr_region rfl (.run [] [] rfl (st_assign rfl) .nil) ?_
    refine tr_ret ?_
    exact ends [_] [] (.cons (.tmp (bool_eq (decide_eq_false (fun e => by subst e; omega)).symm)) .nil) (.cons (.one .v (.v _)) .nil) (by decide) trivial
  · skip
    replace h1 : ((pvI a).length : Int) = ((pvI b).length : Int) := of_decide_eq_true (bnot_f h1)
    refine tr_skip ?_
    refine tr_seq ?_
    refine tr_seq ?_
    refine tr_region rfl (.run [] [] rfl (st_assign rfl) .nil) ?_
    refine tr_block ?_
    refine tr_loopS (σ := Nat) (fun i => mk [(0, .p none (.sl false 1 (pvI a))), (1, .p none (.sl false 1 (pvI b))), (5, .p none (.v (.int .i64 (i:Int))))] [] []) (fun i => i ≤ a.length ∧ ∀ j, j < i → a[j]? = b[j]?) (fun i => a.length - i) 0 ⟨Nat.zero_le _, fun j hj => absurd hj (Nat.not_lt_zero j)⟩ (wk_mk ⟨rfl, ⟨rfl, ⟨(int_eq (by omega)), trivial⟩⟩⟩ trivial trivial rfl) ?_
    rintro i hG
    replace hG : i ≤ a.length ∧ ∀ j, j < i → a[j]? = b[j]? := hG
    obtain ⟨hi, hG⟩ := hG
    refine tr_seq ?_
    refine tr_seq ?_
    refine tr_region rfl (.run [] [] rfl (st_move rfl) (.run [] [] rfl (st_move rfl) (.run [] [] rfl (st_len_fro rfl rfl Try.underlying23) (.run [] [] rfl (st_lss rfl rfl rfl) .nil)))) ?_
    refine tr_if (t := decide ((i:Int) < ((pvI a).length : Int))) rfl (fun h2 => ?_) (fun h2 => ?_)
    · skip
      replace h2 := of_decide_eq_true h2
      refine tr_skip ?_
      refine tr_seq ?_
      refine tr_block ?_
      refine tr_seq ?_
      obtain ⟨e, he⟩ : ∃ e, a[i]? = some e := ⟨_, List.getElem?_eq_getElem (by (have hL := pvI_length a; omega))⟩
      have hlte := (List.getElem?_eq_some_iff.1 he).1
      obtain ⟨e2, he2⟩ : ∃ e, b[i]? = some e := ⟨_, List.getElem?_eq_getElem (by (have hL := pvI_length b; omega))⟩
      have hlte2 := (List.getElem?_eq_some_iff.1 he2).1
      refine tr_regionD mixed rfl (.run [] [] rfl (st_move rfl) (.run [] [] rfl (st_move rfl) (.run [] [] rfl (st_idx_fro rfl rfl rfl Try.underlying23 Try.sizeOf2 rfl (by omega) (pvI_get he)) (.run [] [] rfl (st_load_fea1 rfl rfl Try.isAgg2 rfl) (.run [] [] rfl (st_move rfl) (.run [] [] rfl (st_move rfl) (.run [] [] rfl (st_idx_fro rfl rfl rfl Try.underlying23 Try.sizeOf2 rfl (by omega) (pvI_get he2)) (.run [] [] rfl (st_load_fea1 rfl rfl Try.isAgg2 rfl) (.run [] [] rfl (st_neq rfl rfl rfl) .nil))))))))) (by kernel_rfl) ?_
      refine tr_if (t := (!(decide (e = e2)))) rfl (fun h3 => ?_) (fun h3 => ?_)
      · skip
        replace h3 : ¬ (e = e2) := of_decide_eq_false (bnot_t h3)
        refine tr_seq ?_
        refine tr_region rfl (.run [] [] rfl (st_assign rfl) .nil) ?_
        refine tr_ret ?_
        exact ends [_] [] (.cons (.tmp (bool_eq (decide_eq_false (glist_ne he he2 h3)).symm)) .nil) (.cons (.one .v (.v _)) .nil) (by decide) trivial
      · skip
        replace h3 : e = e2 := of_decide_eq_true (bnot_f h3)
        refine tr_skip ?_
        refine tr_region rfl (.run [] [] rfl (st_move rfl) (.run [] [] rfl (st_addn rfl rfl rfl (by omega)) (.run [] [] rfl (st_assign rfl) .nil))) ?_
        refine nxt (Q := fun _ _ => False) (z := i) (i + 1) ?_ ?_ ?_
        · show (i + 1) ≤ a.length ∧ ∀ j, j < (i + 1) → a[j]? = b[j]?
          exact ⟨by omega, glist_step hG he he2 h3⟩
        · show a.length - (i + 1) < a.length - i
          omega
        · exact wk_mk ⟨rfl, ⟨rfl, ⟨(int_eq (by omega)), trivial⟩⟩⟩ trivial trivial rfl
    · skip
      replace h2 := of_decide_eq_false h2
      refine tr_exit ?_
      refine tr_seq ?_
      refine tr_region rfl (.run [] [] rfl (st_assign rfl) .nil) ?_
      refine tr_ret ?_
      exact ends [_] [] (.cons (.tmp (bool_eq (decide_eq_true (glist_all (by omega) (by omega) hG)).symm)) .nil) (.cons (.one .v (.v _)) .nil) (by decide) trivial
theorem sameInts_self (a : List Int) (hl : a.length ≤ 1000000000) : Con Try.prog 30 [.one (PV.sl false 1 (pvI a)), .one (PV.sl false 1 (pvI a))] [] [.one (.v (.bool true))] := by
  simpa using sameInts_con a a hl
set_option maxRecDepth 1000000 in
set_option maxHeartbeats 2000000 in
theorem law_shadowed_con {γ : Gho} {cv : Value} {bs : List Nat} (hc : CodeAt γ cv bs) : ConG γ Try.prog 4 [.one (PV.v (cv))] [] [.one (.v (.bool true))] := by
  refine con_of_tr Try.func4 rfl rfl rfl rfl ?_
  refine tr_seq ?_
  refine tr_region rfl (.run [] [] rfl (st_assign rfl) .nil) ?_
  refine tr_seq ?_
  refine tr_seq ?_
  refine tr_region rfl (.run [] [] rfl (st_move rfl) (.run [1200] [] rfl (st_callG (.inr rfl) rfl 1200 (X := []) en27 rfl (.val nod) (.cons (.one (.bor .v)) .nil) (by decide) all_nil .nil (big_con hc) rfl rfl (nle rfl)) .nil)) ?_
  refine tr_if (t := decide (1048576 < (bs.length : Int))) rfl (fun h1 => ?_) (fun h1 => ?_)
  · skip
    replace h1 := of_decide_eq_true h1
    refine tr_seq ?_
    refine tr_region rfl (.run [] [] rfl (st_assign rfl) .nil) ?_
    refine tr_ret ?_
    exact ends [_] [] (.cons (.tmp rfl) .nil) (.cons (.one .v (.v _)) .nil) (by decide) trivial
  · skip
    replace h1 := of_decide_eq_false h1
    refine tr_skip ?_
    refine tr_seq ?_
    refine tr_region rfl (.run [] [] rfl (st_move rfl) (.run [1500, 1501, 1502] [] rfl (st_callG (.inr rfl) rfl 1500 (X := []) en28 rfl (.val nod) (.cons (.one (.bor .v)) .nil) (by decide) all_nil .nil (drawCompacted_con hc (by omega)) rfl rfl (nle rfl)) (.run [] [] rfl (st_move rfl) (.run [] [] rfl (st_extract rfl rfl rfl) (.run [] [] rfl (st_extract rfl rfl rfl) (.run [] [] rfl (st_extract rfl rfl rfl) (.run [] [] rfl (st_assign rfl) (.run [] [] rfl (st_assign rfl) (.run [] [] rfl (st_assign rfl) .nil))))))))) ?_
    refine tr_seq ?_
    have hdl := (entsR_ok (bs := bs) (p := 0) (most := 14) (Nat.zero_le _)).1
    have hds := (snapsR_ok (bs := bs) (p := (entsR bs 0 14).2) ((entsR_ok (Nat.zero_le _)).2)).1
    generalize onceV bs (snapsP bs (entsR bs 0 14).2) 2 = b
    generalize (snapsV bs (entsR bs 0 14).2) = s at hds ⊢
    generalize (entsR bs 0 14).1 = l at hdl ⊢
    have hle := pvE_length l
    have hls := pvI_length s
    refine tr_wk (s' := mk [(3, .sl 1500 0 ((pvE l).length)), (4, .sl 1501 0 ((pvI s).length)), (5, .p none (.v (.bool b)))] [] [(1500, 4, pvE l), (1501, 1, pvI s)]) ?_ ?_
    · exact wk_mk ⟨rfl, ⟨rfl, ⟨rfl, trivial⟩⟩⟩ trivial ⟨rfl, ⟨rfl, trivial⟩⟩ rfl
    refine tr_region rfl (.run [] [] rfl (st_move rfl) (.run [] [] rfl (st_move rfl) (.run [] [] rfl (st_move rfl) (.run [1500, 1501, 2200] [] rfl (st_call rfl 2200 (X := []) en29 rfl (.val nod) (.cons (.one (.bor (.all (len := (pvE l).length) (xs := pvE l) rfl rfl (by decide)))) (.cons (.one (.bor (.all (len := (pvI s).length) (xs := pvI s) rfl rfl (by decide)))) (.cons (.one (.bor .v)) .nil))) (by decide) all_nil .nil (progCompacted_con2 l s b (by omega) (by omega)) rfl rfl (nle rfl)) (.run [] [] rfl (st_assign rfl) .nil))))) ?_
    refine tr_seq ?_
    have hcl := compactedF_len l s b
    have hnl := needed_len l s
    have hlc := pvE_length (compactedF l s b)
    have hln := pvI_length (neededF l s)
    refine tr_region rfl (.run [] [] rfl (st_move rfl) (.run [] [] rfl (st_move rfl) (.run [1500, 1501, 2500] [] rfl (st_call rfl 2500 (X := []) en21 rfl (.val nod) (.cons (.one (.bor (.all (len := (pvE l).length) (xs := pvE l) rfl rfl (by decide)))) (.cons (.one (.bor (.all (len := (pvI s).length) (xs := pvI s) rfl rfl (by decide)))) .nil)) (by decide) all_nil .nil (progNeeded_con l s (by omega) (by omega)) rfl rfl (nle rfl)) (.run [] [] rfl (st_assign rfl) .nil)))) ?_
    refine tr_seq ?_
    refine tr_seq ?_
    refine tr_wk (s' := mk [(3, .sl 1500 0 ((pvE l).length)), (4, .sl 1501 0 ((pvI s).length)), (5, .p none (.v (.bool b))), (6, .sl 2200 0 ((pvE (compactedF l s b)).length)), (7, .sl 2500 0 ((pvI (neededF l s)).length))] [] [(1500, 4, pvE l), (1501, 1, pvI s), (2200, 4, pvE (compactedF l s b)), (2500, 1, pvI (neededF l s))]) ?_ ?_
    · exact wk_mk ⟨rfl, ⟨rfl, ⟨rfl, ⟨rfl, ⟨rfl, trivial⟩⟩⟩⟩⟩ trivial ⟨rfl, ⟨rfl, ⟨rfl, ⟨rfl, trivial⟩⟩⟩⟩ rfl
    rcases bfc (!(entsOk l)) with h2 | h2
    · have h2' := h2
      replace h2' : (entsOk l) = true := bnot_f h2'
      refine tr_region rfl (.run [] [] rfl (st_move rfl) (.run [] [] rfl (st_move rfl) (.run [] [] rfl (st_move rfl) (.run [1500, 1501, 2900] [] rfl (st_call rfl 2900 (X := []) en18 rfl (.val nod) (.cons (.one (.bor (.all (len := (pvE l).length) (xs := pvE l) rfl rfl (by decide)))) (.cons (.one (.bor (.all (len := (pvI s).length) (xs := pvI s) rfl rfl (by decide)))) .nil)) (by decide) all_nil .nil (specNeeded_con l s (by omega) (by omega)) rfl rfl (nle rfl)) (.run [2500, 2900, 3000] [] rfl (st_call rfl 3000 (X := []) en30 rfl (.val nod) (.cons (.one (.bor (.all (len := (pvI (neededF l s)).length) (xs := pvI (neededF l s)) rfl rfl (by decide)))) (.cons (.one (.bor (.all (len := (pvI (neededF l s)).length) (xs := pvI (neededF l s)) rfl rfl (by decide)))) .nil)) (by decide) all_nil .nil (sameInts_self (neededF l s) (by omega)) rfl rfl (nle rfl)) (.run [] [] rfl (st_not (b := true) rfl rfl) (.run [] [] rfl (st_move rfl) (.run [] [] rfl (st_move rfl) (.run [1500, 3400] [] rfl (st_call rfl 3400 (X := []) en31 rfl (.val nod) (.cons (.one (.bor (.all (len := (pvE l).length) (xs := pvE l) rfl rfl (by decide)))) .nil) (by decide) all_nil .nil (specEntriesOk_con l (by omega)) rfl rfl (nle rfl)) (.run [] [] rfl (st_eq (st_not (b := entsOk l) rfl rfl) (by exact congrArg (fun b => AV.p none (.v (.bool b))) h2)) (.run [] [] rfl (st_pick (t := false) rfl rfl) (.run [] [] rfl (st_move rfl) (.run [] [] rfl (st_move rfl) (.run [1501, 3900] [] rfl (st_call rfl 3900 (X := []) en32 rfl (.val nod) (.cons (.one (.bor (.all (len := (pvI s).length) (xs := pvI s) rfl rfl (by decide)))) .nil) (by decide) all_nil .nil (specSnapsOk_con s (by omega)) rfl rfl (nle rfl)) (.run [] [] rfl (st_not (b := snapsOk s) rfl rfl) (.run [] [] rfl (st_pick (t := false) rfl rfl) .nil)))))))))))))))) ?_
      refine tr_if (t := (!(snapsOk s))) rfl (fun h3 => ?_) (fun h3 => ?_)
      · skip
        replace h3 : (snapsOk s) = false := bnot_t h3
        refine tr_seq ?_
        refine tr_wk (s' := mk [(3, .sl 1500 0 ((pvE l).length)), (4, .sl 1501 0 ((pvI s).length)), (5, .p none (.v (.bool b))), (6, .sl 2200 0 ((pvE (compactedF l s b)).length)), (7, .sl 2500 0 ((pvI (neededF l s)).length))] [] [(1500, 4, pvE l), (1501, 1, pvI s), (2200, 4, pvE (compactedF l s b)), (2500, 1, pvI (neededF l s))]) ?_ ?_
        · exact wk_mk ⟨rfl, ⟨rfl, ⟨rfl, ⟨rfl, ⟨rfl, trivial⟩⟩⟩⟩⟩ trivial ⟨rfl, ⟨rfl, ⟨rfl, ⟨rfl, trivial⟩⟩⟩⟩ rfl
        refine tr_region rfl (.run [] [] rfl (st_move rfl) (.run [] [] rfl (st_move rfl) (.run [] [] rfl (st_move rfl) (.run [1500, 1501, 4500] [] rfl (st_call rfl 4500 (X := []) en18 rfl (.val nod) (.cons (.one (.bor (.all (len := (pvE l).length) (xs := pvE l) rfl rfl (by decide)))) (.cons (.one (.bor (.all (len := (pvI s).length) (xs := pvI s) rfl rfl (by decide)))) .nil)) (by decide) all_nil .nil (specNeeded_con l s (by omega) (by omega)) rfl rfl (nle rfl)) (.run [2500, 4500, 4600] [] rfl (st_call rfl 4600 (X := []) en30 rfl (.val nod) (.cons (.one (.bor (.all (len := (pvI (neededF l s)).length) (xs := pvI (neededF l s)) rfl rfl (by decide)))) (.cons (.one (.bor (.all (len := (pvI (neededF l s)).length) (xs := pvI (neededF l s)) rfl rfl (by decide)))) .nil)) (by decide) all_nil .nil (sameInts_self (neededF l s) (by omega)) rfl rfl (nle rfl)) (.run [] [] rfl (st_move rfl) (.run [] [] rfl (st_move rfl) (.run [] [] rfl (st_len_row rfl rfl Try.underlying26) (.run [] [] rfl (st_move rfl) (.run [] [] rfl (st_move rfl) (.run [] [] rfl (st_move rfl) (.run [1500, 1501, 5300] [] rfl (st_call rfl 5300 (X := []) en33 rfl (.val nod) (.cons (.one (.bor (.all (len := (pvE l).length) (xs := pvE l) rfl rfl (by decide)))) (.cons (.one (.bor (.all (len := (pvI s).length) (xs := pvI s) rfl rfl (by decide)))) (.cons (.one (.bor .v)) .nil))) (by decide) all_nil .nil (specCompacted_con l s b (by omega) (by omega)) rfl rfl (nle rfl)) (.run [] [] rfl (st_len_row rfl rfl Try.underlying26) (.run [] [] rfl (st_eq (st_eql rfl rfl rfl) (bool_eq (decide_eq_true (by simp)))) (.run [] [] rfl (st_pick (t := true) rfl rfl) (.run [] [] rfl (st_assign rfl) .nil)))))))))))))))) ?_
        refine tr_ret ?_
        exact ends [_] [] (.cons (.tmp rfl) .nil) (.cons (.one .v (.v _)) .nil) (by decide) trivial
      · skip
        replace h3 : (snapsOk s) = true := bnot_f h3
        refine tr_skip ?_
        refine tr_seq ?_
        have hok : entsOk l = true := h2'
        have hos : snapsOk s = true := h3
        have hnd := neededF_ok hok hos
        have hcd := compactedF_ok (b := b) hok hos
        obtain ⟨a, ha⟩ : ∃ a, a = compactedF l s b := ⟨_, rfl⟩
        obtain ⟨zs, hzs⟩ : ∃ zs, zs = neededF l s := ⟨_, rfl⟩
        have hsd : zs.Pairwise (· < ·) := by rw [hzs, hnd]; exact needF_sorted _ _ _
        have hzb : ∀ z ∈ zs, ∃ q : Nat, z = (q : Int) ∧ q < l.length := fun z hz => by rw [hzs, hnd] at hz; obtain ⟨k, h1, _, h3⟩ := needF_bnd (n := l.length) hz; exact ⟨k, h1, h3⟩
        have hau : a = compU l b zs zs.length := by rw [ha, hcd, hzs, hnd]
        refine tr_wk (s' := mk [(3, .sl 1500 0 ((pvE l).length)), (5, .p none (.v (.bool b))), (6, .sl 2200 0 ((pvE (compactedF l s b)).length)), (7, .sl 2500 0 ((pvI (neededF l s)).length))] [] [(1500, 4, pvE l), (2200, 4, pvE (compactedF l s b)), (2500, 1, pvI (neededF l s))]) ?_ ?_
        · exact wk_mk ⟨rfl, ⟨rfl, ⟨rfl, ⟨rfl, trivial⟩⟩⟩⟩ trivial ⟨rfl, ⟨rfl, ⟨rfl, trivial⟩⟩⟩ rfl
        refine tr_region rfl (.run [] [] rfl (st_assign rfl) .nil) ?_
        refine tr_seq ?_
        refine tr_seq ?_
        refine tr_region rfl (.run [] [] rfl (st_assign rfl) .nil) ?_
        refine tr_block ?_
        refine tr_loopS (σ := Nat × Nat) (fun (i, n) => mk [(3, .sl 1500 0 ((pvE l).length)), (5, .p none (.v (.bool b))), (6, .sl 2200 0 ((pvE (compactedF l s b)).length)), (7, .sl 2500 0 ((pvI (neededF l s)).length)), (8, .p none (.v (.int .i64 (n:Int)))), (9, .p none (.v (.int .i64 (i:Int))))] [] [(1500, 4, pvE l), (2200, 4, pvE (compactedF l s b)), (2500, 1, pvI (neededF l s))]) (fun (i, n) => i ≤ zs.length ∧ n ≤ a.length ∧ a.drop n = compU l b zs (zs.length - i)) (fun (i, n) => zs.length - i) (0, 0) ⟨Nat.zero_le _, Nat.zero_le _, by rw [List.drop_zero, Nat.sub_zero]; exact hau⟩ (wk_mk ⟨rfl, ⟨rfl, ⟨rfl, ⟨rfl, ⟨(int_eq (by omega)), ⟨(int_eq (by omega)), trivial⟩⟩⟩⟩⟩⟩ trivial ⟨rfl, ⟨rfl, ⟨rfl, trivial⟩⟩⟩ rfl) ?_
        rintro ⟨i, n⟩ hG
        replace hG : i ≤ zs.length ∧ n ≤ a.length ∧ a.drop n = compU l b zs (zs.length - i) := hG
        obtain ⟨hi, hn, hd⟩ := hG
        have hzl : zs.length = (neededF l s).length := by rw [hzs]
        have hal : a.length = (compactedF l s b).length := by rw [ha]
        refine tr_seq ?_
        refine tr_seq ?_
        refine tr_region rfl (.run [] [] rfl (st_move rfl) (.run [] [] rfl (st_move rfl) (.run [] [] rfl (st_len_row rfl rfl Try.underlying23) (.run [] [] rfl (st_lss rfl rfl rfl) .nil)))) ?_
        refine tr_if (t := decide ((i:Int) < ((pvI (neededF l s)).length : Int))) rfl (fun h4 => ?_) (fun h4 => ?_)
        · skip
          replace h4 := of_decide_eq_true h4
          refine tr_skip ?_
          refine tr_seq ?_
          refine tr_block ?_
          refine tr_seq ?_
          obtain ⟨z, hz⟩ : ∃ z, zs[i]? = some z := ⟨_, List.getElem?_eq_getElem (by omega)⟩
          obtain ⟨q, rfl, hql⟩ := hzb z (List.mem_of_getElem? hz)
          obtain ⟨e, he⟩ : ∃ e, l[q]? = some e := ⟨_, List.getElem?_eq_getElem hql⟩
          have hst := shadow_step hok hsd hzb (by omega) hz he hd
          refine tr_region rfl (.run [] [] rfl (st_move rfl) (.run [] [] rfl (st_move rfl) (.run [] [] rfl (st_move rfl) (.run [] [] rfl (st_idx_row0 i rfl rfl rfl rfl Try.underlying23 Try.sizeOf2 rfl rfl (by omega)) (.run [] [] rfl (st_load_ea1 rfl rfl rfl (pvI_get (by rw [← hzs]; exact hz)) Try.isAgg2 rfl) (.run [] [] rfl (st_idx_row0 q rfl rfl rfl rfl Try.underlying26 Try.sizeOf44 rfl rfl (by omega)) (.run [] [] rfl (st_load_ea rfl rfl rfl (pvE_get he) Try.isAgg44 Try.sizeOf44 (nle rfl)) (.run [] [10] rfl (st_allocZ rfl 10 inf44 rfl (by decide) rfl (by decide)) (.run [] [] rfl (st_store_box rfl rfl rfl rfl rfl Try.sizeOf44 rfl (nle rfl)) .nil))))))))) ?_
          refine tr_seq ?_
          refine tr_wk (s' := mk [(3, .sl 1500 0 ((pvE l).length)), (5, .p none (.v (.bool b))), (6, .sl 2200 0 ((pvE (compactedF l s b)).length)), (7, .sl 2500 0 ((pvI (neededF l s)).length)), (8, .p none (.v (.int .i64 (n:Int)))), (9, .p none (.v (.int .i64 (i:Int)))), (10, .ptr 10 0)] [(10, [.p none (.v (.string e.user)), .p none (.v (.int .i64 e.seq)), .p none (.v (.int .i64 e.kind)), .p none (.v (.string e.value))])] [(1500, 4, pvE l), (2200, 4, pvE (compactedF l s b)), (2500, 1, pvI (neededF l s))]) ?_ ?_
          · exact wk_mk ⟨rfl, ⟨rfl, ⟨rfl, ⟨rfl, ⟨rfl, ⟨rfl, ⟨rfl, trivial⟩⟩⟩⟩⟩⟩⟩ ⟨rfl, trivial⟩ ⟨rfl, ⟨rfl, ⟨rfl, trivial⟩⟩⟩ rfl
          rcases bfc (decide ((n:Int) < ((pvE (compactedF l s b)).length : Int))) with h5 | h5
          · have h5' := h5
            replace h5' := of_decide_eq_false h5'
            refine tr_regionD mixed rfl (.run [] [] rfl (st_move rfl) (.run [] [] rfl (st_move rfl) (.run [] [] rfl (st_len_row rfl rfl Try.underlying26) (.run [] [] rfl (st_eq (st_lss rfl rfl rfl) (by exact congrArg (fun b => AV.p none (.v (.bool b))) h5)) (.run [] [] rfl (st_move rfl) (.not rfl (.not rfl (.not rfl (.not rfl (.not rfl (.not rfl (.run [] [] rfl (st_pick (t := false) rfl rfl) .nil)))))))))))) (by kernel_rfl) ?_
            refine tr_if (t := false) rfl (fun h => nomatch h) (fun _ => ?_)
            refine tr_seq ?_
            have hm := (shadow_none hst (by omega))
            refine tr_wk (s' := mk [(3, .sl 1500 0 ((pvE l).length)), (5, .p none (.v (.bool b))), (6, .sl 2200 0 ((pvE (compactedF l s b)).length)), (7, .sl 2500 0 ((pvI (neededF l s)).length)), (8, .p none (.v (.int .i64 (n:Int)))), (9, .p none (.v (.int .i64 (i:Int)))), (10, .ptr 10 0)] [(10, [.p none (.v (.string e.user)), .p none (.v (.int .i64 e.seq)), .p none (.v (.int .i64 e.kind)), .p none (.v (.string e.value))])] [(1500, 4, pvE l), (2200, 4, pvE (compactedF l s b)), (2500, 1, pvI (neededF l s))]) ?_ ?_
            · exact wk_mk ⟨rfl, ⟨rfl, ⟨rfl, ⟨rfl, ⟨rfl, ⟨rfl, ⟨rfl, trivial⟩⟩⟩⟩⟩⟩⟩ ⟨rfl, trivial⟩ ⟨rfl, ⟨rfl, ⟨rfl, trivial⟩⟩⟩ rfl
            rcases bfc (!b) with h6 | h6
            · have h6' := h6
              replace h6' : b = true := bnot_f h6'
              refine tr_region rfl (.run [] [] rfl (st_move rfl) (.run [] [] rfl (st_eq (st_not (b := b) rfl rfl) (by exact congrArg (fun b => AV.p none (.v (.bool b))) h6)) (.run [] [] rfl (st_move rfl) (.run [] [] rfl (st_faddr_box rfl rfl Try.underlying44 rfl Try.sizeOf42 (by decide)) (.run [] [] rfl (st_faddr_box rfl rfl Try.underlying42 rfl Try.sizeOf2 (by decide)) (.run [] [] rfl (st_load_box1 rfl rfl rfl Try.isAgg2 rfl) (.run [] [] rfl (st_neq rfl rfl rfl) (.run [] [] rfl (st_pick (t := false) rfl rfl) .nil)))))))) ?_
              refine tr_if (t := (!(decide (e.kind = 0)))) rfl (fun h7 => ?_) (fun h7 => ?_)
              · skip
                replace h7 : ¬ (e.kind = 0) := of_decide_eq_false (bnot_t h7)
                exact absurd hm.2.2 h7
              · skip
                replace h7 : e.kind = 0 := of_decide_eq_true (bnot_f h7)
                refine tr_skip ?_
                refine tr_region rfl (.run [] [] rfl (st_move rfl) (.run [] [] rfl (st_addn rfl rfl rfl (by omega)) (.run [] [] rfl (st_assign rfl) .nil))) ?_
                refine nxt (Q := fun _ _ => False) (z := (i, n)) (i + 1, n) ?_ ?_ ?_
                · show (i + 1) ≤ zs.length ∧ n ≤ a.length ∧ a.drop n = compU l b zs (zs.length - (i + 1))
                  exact ⟨by omega, hn, hm.1⟩
                · show zs.length - (i + 1) < zs.length - i
                  omega
                · exact wk_mk ⟨rfl, ⟨rfl, ⟨rfl, ⟨rfl, ⟨rfl, ⟨(int_eq (by omega)), trivial⟩⟩⟩⟩⟩⟩ trivial ⟨rfl, ⟨rfl, ⟨rfl, trivial⟩⟩⟩ rfl
            · have h6' := h6
              replace h6' : b = false := bnot_t h6'
              rw [hm.2.1] at h6'; cases h6'
          · have h5' := h5
            replace h5' := of_decide_eq_true h5'
            obtain ⟨e2, he2⟩ : ∃ e, (compactedF l s b)[n]? = some e := ⟨_, List.getElem?_eq_getElem (by (have hL := pvE_length (compactedF l s b); omega))⟩
            have hlte2 := (List.getElem?_eq_some_iff.1 he2).1
            refine tr_regionD mixed rfl (.run [] [] rfl (st_move rfl) (.run [] [] rfl (st_move rfl) (.run [] [] rfl (st_len_row rfl rfl Try.underlying26) (.run [] [] rfl (st_eq (st_lss rfl rfl rfl) (by exact congrArg (fun b => AV.p none (.v (.bool b))) h5)) (.run [] [] rfl (st_move rfl) (.run [] [] rfl (st_move rfl) (.run [] [] rfl (st_move rfl) (.run [] [] rfl (st_idx_row0 n rfl rfl rfl rfl Try.underlying26 Try.sizeOf44 rfl rfl (by omega)) (.run [] [] rfl (st_load_ea rfl rfl rfl (pvE_get he2) Try.isAgg44 Try.sizeOf44 (nle rfl)) (.run [] [] rfl (st_load_box rfl rfl rfl Try.isAgg44 Try.sizeOf44 (nle rfl)) (.run [] [] rfl (st_aeql rfl rfl rfl rfl rfl Try.eqGuardType44 (fun w => ent_eqIn e2 e w)) (.run [] [] rfl (st_pick (t := true) rfl rfl) .nil)))))))))))) (by kernel_rfl) ?_
            refine tr_if (t := decide (e2 = e)) rfl (fun h8 => ?_) (fun h8 => ?_)
            · skip
              replace h8 := of_decide_eq_true h8
              refine tr_region rfl (.run [] [] rfl (st_move rfl) (.run [] [] rfl (st_addn rfl rfl rfl (by omega)) (.run [] [] rfl (st_assign rfl) .nil))) ?_
              refine tr_wk (s' := mk [(3, .sl 1500 0 ((pvE l).length)), (5, .p none (.v (.bool b))), (6, .sl 2200 0 ((pvE (compactedF l s b)).length)), (7, .sl 2500 0 ((pvI (neededF l s)).length)), (8, .p none (.v (.int .i64 ((n:Int) + 1)))), (9, .p none (.v (.int .i64 (i:Int)))), (75, .sl 2200 0 ((pvE (compactedF l s b)).length)), (76, .p none (.v (.int .i64 (n:Int)))), (77, .ea 2200 n 0), (78, .agg [.p none (.v (.string e2.user)), .p none (.v (.int .i64 e2.seq)), .p none (.v (.int .i64 e2.kind)), .p none (.v (.string e2.value))]), (79, .agg [.p none (.v (.string e.user)), .p none (.v (.int .i64 e.seq)), .p none (.v (.int .i64 e.kind)), .p none (.v (.string e.value))]), (80, .p none (.v (.bool (decide (e2 = e)))))] [] [(1500, 4, pvE l), (2200, 4, pvE (compactedF l s b)), (2500, 1, pvI (neededF l s))]) ?_ ?_
              · exact wk_mk ⟨rfl, ⟨rfl, ⟨rfl, ⟨rfl, ⟨rfl, ⟨rfl, ⟨rfl, ⟨rfl, ⟨rfl, ⟨rfl, ⟨rfl, ⟨rfl, trivial⟩⟩⟩⟩⟩⟩⟩⟩⟩⟩⟩⟩ trivial ⟨rfl, ⟨rfl, ⟨rfl, trivial⟩⟩⟩ rfl
              refine tr_region rfl (.run [] [] rfl (st_move rfl) (.run [] [] rfl (st_addn rfl rfl rfl (by omega)) (.run [] [] rfl (st_assign rfl) .nil))) ?_
              refine nxt (Q := fun _ _ => False) (z := (i, n)) (i + 1, n + 1) ?_ ?_ ?_
              · show (i + 1) ≤ zs.length ∧ (n + 1) ≤ a.length ∧ a.drop (n + 1) = compU l b zs (zs.length - (i + 1))
                exact ⟨by omega, by omega, (shadow_hit hst (by rw [ha]; exact he2) h8).2⟩
              · show zs.length - (i + 1) < zs.length - i
                omega
              · exact wk_mk ⟨rfl, ⟨rfl, ⟨rfl, ⟨rfl, ⟨(int_eq (by omega)), ⟨(int_eq (by omega)), trivial⟩⟩⟩⟩⟩⟩ trivial ⟨rfl, ⟨rfl, ⟨rfl, trivial⟩⟩⟩ rfl
            · skip
              replace h8 := of_decide_eq_false h8
              refine tr_seq ?_
              have hm := (shadow_miss hst (by rw [ha]; exact he2) h8)
              refine tr_wk (s' := mk [(3, .sl 1500 0 ((pvE l).length)), (5, .p none (.v (.bool b))), (6, .sl 2200 0 ((pvE (compactedF l s b)).length)), (7, .sl 2500 0 ((pvI (neededF l s)).length)), (8, .p none (.v (.int .i64 (n:Int)))), (9, .p none (.v (.int .i64 (i:Int)))), (10, .ptr 10 0), (75, .sl 2200 0 ((pvE (compactedF l s b)).length)), (76, .p none (.v (.int .i64 (n:Int)))), (77, .ea 2200 n 0), (78, .agg [.p none (.v (.string e2.user)), .p none (.v (.int .i64 e2.seq)), .p none (.v (.int .i64 e2.kind)), .p none (.v (.string e2.value))]), (79, .agg [.p none (.v (.string e.user)), .p none (.v (.int .i64 e.seq)), .p none (.v (.int .i64 e.kind)), .p none (.v (.string e.value))]), (80, .p none (.v (.bool (decide (e2 = e)))))] [(10, [.p none (.v (.string e.user)), .p none (.v (.int .i64 e.seq)), .p none (.v (.int .i64 e.kind)), .p none (.v (.string e.value))])] [(1500, 4, pvE l), (2200, 4, pvE (compactedF l s b)), (2500, 1, pvI (neededF l s))]) ?_ ?_
              · exact wk_mk ⟨rfl, ⟨rfl, ⟨rfl, ⟨rfl, ⟨rfl, ⟨rfl, ⟨rfl, ⟨rfl, ⟨rfl, ⟨rfl, ⟨rfl, ⟨rfl, ⟨rfl, trivial⟩⟩⟩⟩⟩⟩⟩⟩⟩⟩⟩⟩⟩ ⟨rfl, trivial⟩ ⟨rfl, ⟨rfl, ⟨rfl, trivial⟩⟩⟩ rfl
              rcases bfc (!b) with h9 | h9
              · have h9' := h9
                replace h9' : b = true := bnot_f h9'
                refine tr_region rfl (.run [] [] rfl (st_move rfl) (.run [] [] rfl (st_eq (st_not (b := b) rfl rfl) (by exact congrArg (fun b => AV.p none (.v (.bool b))) h9)) (.run [] [] rfl (st_move rfl) (.run [] [] rfl (st_faddr_box rfl rfl Try.underlying44 rfl Try.sizeOf42 (by decide)) (.run [] [] rfl (st_faddr_box rfl rfl Try.underlying42 rfl Try.sizeOf2 (by decide)) (.run [] [] rfl (st_load_box1 rfl rfl rfl Try.isAgg2 rfl) (.run [] [] rfl (st_neq rfl rfl rfl) (.run [] [] rfl (st_pick (t := false) rfl rfl) .nil)))))))) ?_
                refine tr_if (t := (!(decide (e.kind = 0)))) rfl (fun h10 => ?_) (fun h10 => ?_)
                · skip
                  replace h10 : ¬ (e.kind = 0) := of_decide_eq_false (bnot_t h10)
                  exact absurd hm.2.2 h10
                · skip
                  replace h10 : e.kind = 0 := of_decide_eq_true (bnot_f h10)
                  refine tr_skip ?_
                  refine tr_region rfl (.run [] [] rfl (st_move rfl) (.run [] [] rfl (st_addn rfl rfl rfl (by omega)) (.run [] [] rfl (st_assign rfl) .nil))) ?_
                  refine nxt (Q := fun _ _ => False) (z := (i, n)) (i + 1, n) ?_ ?_ ?_
                  · show (i + 1) ≤ zs.length ∧ n ≤ a.length ∧ a.drop n = compU l b zs (zs.length - (i + 1))
                    exact ⟨by omega, hn, hm.1⟩
                  · show zs.length - (i + 1) < zs.length - i
                    omega
                  · exact wk_mk ⟨rfl, ⟨rfl, ⟨rfl, ⟨rfl, ⟨rfl, ⟨(int_eq (by omega)), trivial⟩⟩⟩⟩⟩⟩ trivial ⟨rfl, ⟨rfl, ⟨rfl, trivial⟩⟩⟩ rfl
              · have h9' := h9
                replace h9' : b = false := bnot_t h9'
                rw [hm.2.1] at h9'; cases h9'
        · skip
          replace h4 := of_decide_eq_false h4
          refine tr_exit ?_
          refine tr_seq ?_
          have hend := shadow_end (by omega) hn hd
          refine tr_region rfl (.run [] [] rfl (st_move rfl) (.run [] [] rfl (st_move rfl) (.run [] [] rfl (st_len_row rfl rfl Try.underlying26) (.run [] [] rfl (st_eql rfl rfl rfl) (.run [] [] rfl (st_assign rfl) .nil))))) ?_
          refine tr_ret ?_
          exact ends [_] [] (.cons (.tmp (bool_eq (decide_eq_true (by omega)))) .nil) (.cons (.one .v (.v _)) .nil) (by decide) trivial
    · have h2' := h2
      replace h2' : (entsOk l) = false := bnot_t h2'
      refine tr_region rfl (.run [] [] rfl (st_move rfl) (.run [] [] rfl (st_move rfl) (.run [] [] rfl (st_move rfl) (.run [1500, 1501, 2900] [] rfl (st_call rfl 2900 (X := []) en18 rfl (.val nod) (.cons (.one (.bor (.all (len := (pvE l).length) (xs := pvE l) rfl rfl (by decide)))) (.cons (.one (.bor (.all (len := (pvI s).length) (xs := pvI s) rfl rfl (by decide)))) .nil)) (by decide) all_nil .nil (specNeeded_con l s (by omega) (by omega)) rfl rfl (nle rfl)) (.run [2500, 2900, 3000] [] rfl (st_call rfl 3000 (X := []) en30 rfl (.val nod) (.cons (.one (.bor (.all (len := (pvI (neededF l s)).length) (xs := pvI (neededF l s)) rfl rfl (by decide)))) (.cons (.one (.bor (.all (len := (pvI (neededF l s)).length) (xs := pvI (neededF l s)) rfl rfl (by decide)))) .nil)) (by decide) all_nil .nil (sameInts_self (neededF l s) (by omega)) rfl rfl (nle rfl)) (.run [] [] rfl (st_not (b := true) rfl rfl) (.run [] [] rfl (st_move rfl) (.run [] [] rfl (st_move rfl) (.run [1500, 3400] [] rfl (st_call rfl 3400 (X := []) en31 rfl (.val nod) (.cons (.one (.bor (.all (len := (pvE l).length) (xs := pvE l) rfl rfl (by decide)))) .nil) (by decide) all_nil .nil (specEntriesOk_con l (by omega)) rfl rfl (nle rfl)) (.run [] [] rfl (st_eq (st_not (b := entsOk l) rfl rfl) (by exact congrArg (fun b => AV.p none (.v (.bool b))) h2)) (.run [] [] rfl (st_pick (t := false) rfl rfl) (.run [] [] rfl (st_move rfl) (.not rfl (.not rfl (.not rfl (.run [] [] rfl (st_pick (t := true) rfl rfl) .nil)))))))))))))))) ?_
      refine tr_if (t := true) rfl (fun _ => ?_) (fun h => nomatch h)
      refine tr_seq ?_
      refine tr_wk (s' := mk [(3, .sl 1500 0 ((pvE l).length)), (4, .sl 1501 0 ((pvI s).length)), (5, .p none (.v (.bool b))), (6, .sl 2200 0 ((pvE (compactedF l s b)).length)), (7, .sl 2500 0 ((pvI (neededF l s)).length))] [] [(1500, 4, pvE l), (1501, 1, pvI s), (2200, 4, pvE (compactedF l s b)), (2500, 1, pvI (neededF l s))]) ?_ ?_
      · exact wk_mk ⟨rfl, ⟨rfl, ⟨rfl, ⟨rfl, ⟨rfl, trivial⟩⟩⟩⟩⟩ trivial ⟨rfl, ⟨rfl, ⟨rfl, ⟨rfl, trivial⟩⟩⟩⟩ rfl
      refine tr_region rfl (.run [] [] rfl (st_move rfl) (.run [] [] rfl (st_move rfl) (.run [] [] rfl (st_move rfl) (.run [1500, 1501, 4500] [] rfl (st_call rfl 4500 (X := []) en18 rfl (.val nod) (.cons (.one (.bor (.all (len := (pvE l).length) (xs := pvE l) rfl rfl (by decide)))) (.cons (.one (.bor (.all (len := (pvI s).length) (xs := pvI s) rfl rfl (by decide)))) .nil)) (by decide) all_nil .nil (specNeeded_con l s (by omega) (by omega)) rfl rfl (nle rfl)) (.run [2500, 4500, 4600] [] rfl (st_call rfl 4600 (X := []) en30 rfl (.val nod) (.cons (.one (.bor (.all (len := (pvI (neededF l s)).length) (xs := pvI (neededF l s)) rfl rfl (by decide)))) (.cons (.one (.bor (.all (len := (pvI (neededF l s)).length) (xs := pvI (neededF l s)) rfl rfl (by decide)))) .nil)) (by decide) all_nil .nil (sameInts_self (neededF l s) (by omega)) rfl rfl (nle rfl)) (.run [] [] rfl (st_move rfl) (.run [] [] rfl (st_move rfl) (.run [] [] rfl (st_len_row rfl rfl Try.underlying26) (.run [] [] rfl (st_move rfl) (.run [] [] rfl (st_move rfl) (.run [] [] rfl (st_move rfl) (.run [1500, 1501, 5300] [] rfl (st_call rfl 5300 (X := []) en33 rfl (.val nod) (.cons (.one (.bor (.all (len := (pvE l).length) (xs := pvE l) rfl rfl (by decide)))) (.cons (.one (.bor (.all (len := (pvI s).length) (xs := pvI s) rfl rfl (by decide)))) (.cons (.one (.bor .v)) .nil))) (by decide) all_nil .nil (specCompacted_con l s b (by omega) (by omega)) rfl rfl (nle rfl)) (.run [] [] rfl (st_len_row rfl rfl Try.underlying26) (.run [] [] rfl (st_eq (st_eql rfl rfl rfl) (bool_eq (decide_eq_true (by simp)))) (.run [] [] rfl (st_pick (t := true) rfl rfl) (.run [] [] rfl (st_assign rfl) .nil)))))))))))))))) ?_
      refine tr_ret ?_
      exact ends [_] [] (.cons (.tmp rfl) .nil) (.cons (.one .v (.v _)) .nil) (by decide) trivial
end Go.Rl

/- Promises of functions, proved by walks over their operations; no conditions beyond those that each theorem states. -/
import Derived.Test.YtmjfdldfaeaolaaRtDi
import Derived.Test.YtmjfdldfaeaolaaRmC
import Derived.Test.YtmjfdldfaeaolaaProg
namespace Go.Rl
open Go.Proofs
theorem inf5 : (Try.prog.info? 5).map (fun i => (i.zero, i.size, i.bytes)) = some (some (.int .u8 0), 1, 1) := by kernel_rfl
theorem inf69 : (Try.prog.info? 69).map (fun i => (i.zero, i.size, i.bytes)) = some (some (.agg #[.string ⟨#[]⟩, .string ⟨#[]⟩]), 2, 32) := by kernel_rfl
theorem inf36 : (Try.prog.info? 36).map (fun i => (i.zero, i.size, i.bytes)) = some (some (.agg #[.int .i64 0, .string ⟨#[]⟩, .string ⟨#[]⟩, .string ⟨#[]⟩]), 4, 56) := by kernel_rfl
theorem en84 : ∀ vs w, (callFunc 84 vs).run Try.prog w = .ok (.enter 84 vs) w := enters Try.func84 (by decide) rfl
theorem en83 : ∀ vs w, (callFunc 83 vs).run Try.prog w = .ok (.enter 83 vs) w := enters Try.func83 (by decide) rfl
theorem en82 : ∀ vs w, (callFunc 82 vs).run Try.prog w = .ok (.enter 82 vs) w := enters Try.func82 (by decide) rfl
theorem en86 : ∀ vs w, (callFunc 86 vs).run Try.prog w = .ok (.enter 86 vs) w := enters Try.func86 (by decide) rfl
theorem en85 : ∀ vs w, (callFunc 85 vs).run Try.prog w = .ok (.enter 85 vs) w := enters Try.func85 (by decide) rfl
theorem en30 : ∀ vs w, (callFunc 30 vs).run Try.prog w = .ok (.enter 30 vs) w := enters Try.func30 (by decide) rfl
theorem en29 : ∀ vs w, (callFunc 29 vs).run Try.prog w = .ok (.enter 29 vs) w := enters Try.func29 (by decide) rfl
theorem mixed : Try.prog.follows .mixedOrders = true := by kernel_rfl
def wFil (e : Fil) : Nat := e.name.size + e.data.size
def markFil (k i : Nat) : Fil := ⟨markT (k + 2 * i), markT (k + 2 * i + 1)⟩
theorem markFil_ext {e : Fil} {x0 x1} (h0 : e.name = x0) (h1 : e.data = x1) : e = ⟨x0, x1⟩ := by cases e; simp_all
def wDOp (e : DOp) : Nat := e.name.size + e.dest.size + e.data.size
def markDOp (k i : Nat) : DOp := ⟨((k + 4 * i : Nat) : Int), markT (k + 4 * i + 1), markT (k + 4 * i + 2), markT (k + 4 * i + 3)⟩
theorem markDOp_ext {e : DOp} {x0 x1 x2 x3} (h0 : e.kind = x0) (h1 : e.name = x1) (h2 : e.dest = x2) (h3 : e.data = x3) : e = ⟨x0, x1, x2, x3⟩ := by cases e; simp_all
set_option maxRecDepth 1000000 in
theorem markText_con (k : Nat) (hk : k ≤ 1099511627776) : Con Try.prog 86 [.one (PV.v (.int .i64 (k:Int)))] [] [.one (.v (.string (markT k)))] := by
  refine con_of_tr Try.func86 rfl rfl rfl rfl ?_
  refine tr_seq ?_
  refine tr_region rfl (.run [] [] rfl (st_assign rfl) .nil) ?_
  refine tr_seq ?_
  refine tr_seq ?_
  refine tr_region rfl (.run [] [] rfl (st_move rfl) (.run [] [] rfl (st_leq rfl rfl rfl) .nil)) ?_
  refine tr_if (t := decide ((k:Int) ≤ 0)) rfl (fun h1 => ?_) (fun h1 => ?_)
  · skip
    replace h1 := of_decide_eq_true h1
    refine tr_seq ?_
    refine tr_region rfl (.run [] [] rfl (st_assign rfl) .nil) ?_
    refine tr_ret ?_
    exact ends [_] [] (.cons (.tmp (str_eq (by simp [markT, show k = 0 by omega]))) .nil) (.cons (.one .v (.v _)) .nil) (by decide) trivial
  · skip
    replace h1 := of_decide_eq_false h1
    refine tr_skip ?_
    refine tr_seq ?_
    refine tr_region rfl (.run [] [] rfl (st_assign rfl) .nil) ?_
    refine tr_seq ?_
    refine tr_block ?_
    refine tr_loopS (σ := Nat × ByteArray × Nat) (fun (n, acc, f) => mk [(0, .p none (.v (.int .i64 (n:Int)))), (3, .p none (.v (.string acc)))] [] []) (fun (n, acc, f) => n ≤ f ∧ n + acc.size ≤ k ∧ dig k k ⟨#[]⟩ = dig f n acc) (fun (n, acc, f) => n) (k, ⟨#[]⟩, k) ⟨Nat.le_refl _, Nat.le_refl _, rfl⟩ (wk_mk ⟨rfl, ⟨rfl, trivial⟩⟩ trivial trivial rfl) ?_
    rintro ⟨n, acc, f⟩ hG
    replace hG : n ≤ f ∧ n + acc.size ≤ k ∧ dig k k ⟨#[]⟩ = dig f n acc := hG
    obtain ⟨hG, hG2, hG3⟩ := hG
    refine tr_seq ?_
    refine tr_seq ?_
    refine tr_region rfl (.run [] [] rfl (st_move rfl) (.run [] [] rfl (st_gtr rfl rfl rfl) .nil)) ?_
    refine tr_if (t := decide (0 < (n:Int))) rfl (fun h2 => ?_) (fun h2 => ?_)
    · skip
      replace h2 := of_decide_eq_true h2
      refine tr_skip ?_
      refine tr_block ?_
      refine tr_seq ?_
      refine tr_region rfl (.run [] [] rfl (st_move rfl) (.run [] [] rfl (st_rem rfl rfl rfl (by decide)) (.run [] [] rfl (st_addn rfl rfl rfl (by have h1 := Int.tmod_lt_of_pos (n : Int) (show (0:Int) < 10 by decide); have h2 := Int.tmod_nonneg 10 (show (0:Int) ≤ (n:Int) by omega); omega)) (.run [] [] rfl (st_conv rfl rfl Try.underlying3 Try.underlying5) (.run [1200] [] rfl (st_buildSlice rfl 1200 Try.underlying22 inf5 (nle rfl) (by decide) rfl rfl rfl (.cons .v .nil) (by decide) rfl (by decide) rfl (by decide) rfl) (.run [] [] rfl (st_strN [IntKind.u8.wrap (48 + (n:Int).tmod 10)] rfl rfl (.give (len := 1) (xs := [[PV.v (.int .u8 (IntKind.u8.wrap (48 + ((n:Int).tmod 10))))]]) rfl rfl) rfl rfl Try.underlying22 Try.underlying9 Try.underlying5) (.run [] [] rfl (st_move rfl) (.run [] [] rfl (st_sadd rfl rfl rfl (by rw [strOf_one]; omega)) (.run [] [] rfl (st_assign rfl) .nil))))))))) ?_
      refine tr_region rfl (.run [] [] rfl (st_move rfl) (.run [] [] rfl (st_quo rfl rfl rfl (by decide)) (.run [] [] rfl (st_assign rfl) .nil))) ?_
      refine nxt (Q := fun _ _ => False) (z := (n, acc, f)) (n / 10, strOf [IntKind.u8.wrap (48 + (n:Int).tmod 10)] ++ acc, f - 1) ?_ ?_ ?_
      · show (n / 10) ≤ (f - 1) ∧ (n / 10) + (strOf [IntKind.u8.wrap (48 + (n:Int).tmod 10)] ++ acc).size ≤ k ∧ dig k k ⟨#[]⟩ = dig (f - 1) (n / 10) (strOf [IntKind.u8.wrap (48 + (n:Int).tmod 10)] ++ acc)
        exact ⟨by omega, by rw [size_app, strOf_one]; omega, dig_next hG hG3 (by omega)⟩
      · show (n / 10) < n
        omega
      · exact wk_mk ⟨(int_eq (by exact quo_nat n (by omega))), ⟨(str_eq (by rfl)), trivial⟩⟩ trivial trivial rfl
    · skip
      replace h2 := of_decide_eq_false h2
      refine tr_exit ?_
      refine tr_seq ?_
      refine tr_region rfl (.run [] [] rfl (st_move rfl) (.run [] [] rfl (st_sadd rfl rfl rfl (by have hz : (⟨#[109]⟩ : ByteArray).size = 1 := rfl; omega)) (.run [] [] rfl (st_assign rfl) .nil))) ?_
      refine tr_ret ?_
      exact ends [_] [] (.cons (.tmp (str_eq (by rw [markT, if_neg (by omega), hG3, show n = 0 by omega, dig_zero]))) .nil) (.cons (.one .v (.v _)) .nil) (by decide) trivial
set_option maxRecDepth 1000000 in
theorem toFile_con (a : Fil) : Con Try.prog 83 [.agg [PV.v (.string a.name), PV.v (.string a.data)]] [] [.agg [.v (.string a.name), .v (.string a.data)]] := by
  refine con_of_tr Try.func83 rfl rfl rfl rfl ?_
  refine tr_seq ?_
  refine tr_region rfl (.run [] [1] rfl (st_box rfl 1 rfl rfl (by decide) rfl (by decide)) (.run [] [2] rfl (st_allocZ rfl 2 inf69 rfl (by decide) rfl (by decide)) .nil)) ?_
  refine tr_seq ?_
  refine tr_region rfl (.run [] [3] rfl (st_allocZ rfl 3 inf69 rfl (by decide) rfl (by decide)) .nil) ?_
  refine tr_seq ?_
  refine tr_region rfl (.run [] [] rfl (st_faddr_box rfl rfl Try.underlying105 rfl Try.sizeOf9 (by decide)) (.run [] [] rfl (st_load_box1 rfl rfl rfl Try.isAgg9 rfl) (.run [] [] rfl (st_faddr_box rfl rfl Try.underlying69 rfl Try.sizeOf9 (by decide)) (.run [] [] rfl (st_store_box rfl rfl rfl rfl rfl Try.sizeOf9 rfl (nle rfl)) .nil)))) ?_
  refine tr_seq ?_
  refine tr_region rfl (.run [] [] rfl (st_faddr_box rfl rfl Try.underlying105 rfl Try.sizeOf9 (by decide)) (.run [] [] rfl (st_load_box1 rfl rfl rfl Try.isAgg9 rfl) (.run [] [] rfl (st_faddr_box rfl rfl Try.underlying69 rfl Try.sizeOf9 (by decide)) (.run [] [] rfl (st_store_box rfl rfl rfl rfl rfl Try.sizeOf9 rfl (nle rfl)) .nil)))) ?_
  refine tr_seq ?_
  refine tr_region rfl (.run [] [] rfl (st_load_box rfl rfl rfl Try.isAgg69 Try.sizeOf69 (nle rfl)) (.run [] [] rfl (st_store_box rfl rfl rfl rfl rfl Try.sizeOf69 rfl (nle rfl)) .nil)) ?_
  refine tr_ret ?_
  exact ends [_] [] (.cons (.cell rfl rfl Try.isAgg69 Try.sizeOf69 (nle rfl)) .nil) (.cons (.agg (.cons .v (.cons .v .nil)) (cl_cons (.v _) (cl_cons (.v _) cl_nil))) .nil) (by decide) trivial
set_option maxRecDepth 1000000 in
theorem eqFile_con (a b : Fil) : Con Try.prog 84 [.agg [PV.v (.string a.name), PV.v (.string a.data)], .agg [PV.v (.string b.name), PV.v (.string b.data)]] [] [.one (.v (.bool (decide (a = b))))] := by
  refine con_of_tr Try.func84 rfl rfl rfl rfl ?_
  refine tr_seq ?_
  refine tr_region rfl (.run [] [2] rfl (st_box rfl 2 rfl rfl (by decide) rfl (by decide)) (.run [] [3] rfl (st_box rfl 3 rfl rfl (by decide) rfl (by decide)) (.run [] [] rfl (st_assign rfl) .nil))) ?_
  refine tr_seq ?_
  refine tr_seq ?_
  refine tr_region rfl (.run [] [] rfl (st_faddr_box rfl rfl Try.underlying69 rfl Try.sizeOf9 (by decide)) (.run [] [] rfl (st_load_box1 rfl rfl rfl Try.isAgg9 rfl) (.run [] [] rfl (st_faddr_box rfl rfl Try.underlying69 rfl Try.sizeOf9 (by decide)) (.run [] [] rfl (st_load_box1 rfl rfl rfl Try.isAgg9 rfl) (.run [] [] rfl (st_sneq rfl rfl rfl) .nil))))) ?_
  refine tr_if (t := (!(decide (a.name = b.name)))) rfl (fun h1 => ?_) (fun h1 => ?_)
  · skip
    replace h1 : ¬ (a.name = b.name) := of_decide_eq_false (bnot_t h1)
    refine tr_seq ?_
    refine tr_region rfl (.run [] [] rfl (st_assign rfl) .nil) ?_
    refine tr_ret ?_
    exact ends [_] [] (.cons (.tmp (bool_eq (decide_eq_false (fun h => h1 (by subst h; rfl))).symm)) .nil) (.cons (.one .v (.v _)) .nil) (by decide) trivial
  · skip
    replace h1 : a.name = b.name := of_decide_eq_true (bnot_f h1)
    refine tr_skip ?_
    refine tr_seq ?_
    refine tr_seq ?_
    refine tr_region rfl (.run [] [] rfl (st_faddr_box rfl rfl Try.underlying69 rfl Try.sizeOf9 (by decide)) (.run [] [] rfl (st_load_box1 rfl rfl rfl Try.isAgg9 rfl) (.run [] [] rfl (st_faddr_box rfl rfl Try.underlying69 rfl Try.sizeOf9 (by decide)) (.run [] [] rfl (st_load_box1 rfl rfl rfl Try.isAgg9 rfl) (.run [] [] rfl (st_sneq rfl rfl rfl) .nil))))) ?_
    refine tr_if (t := (!(decide (a.data = b.data)))) rfl (fun h2 => ?_) (fun h2 => ?_)
    · skip
      replace h2 : ¬ (a.data = b.data) := of_decide_eq_false (bnot_t h2)
      refine tr_seq ?_
      refine tr_region rfl (.run [] [] rfl (st_assign rfl) .nil) ?_
      refine tr_ret ?_
      exact ends [_] [] (.cons (.tmp (bool_eq (decide_eq_false (fun h => h2 (by subst h; rfl))).symm)) .nil) (.cons (.one .v (.v _)) .nil) (by decide) trivial
    · skip
      replace h2 : a.data = b.data := of_decide_eq_true (bnot_f h2)
      refine tr_skip ?_
      refine tr_seq ?_
      refine tr_region rfl (.run [] [] rfl (st_assign rfl) .nil) ?_
      refine tr_ret ?_
      exact ends [_] [] (.cons (.tmp (bool_eq (decide_eq_true (by cases a; cases b; simp_all)).symm)) .nil) (.cons (.one .v (.v _)) .nil) (by decide) trivial
set_option maxRecDepth 1000000 in
theorem eqFileS_con (a b : List Fil) (hl : a.length ≤ 1000000000) : Con Try.prog 60 [.one (PV.sl false 2 (pvF a)), .one (PV.sl false 2 (pvF b))] [] [.one (.v (.bool (decide (a = b))))] := by
  refine con_of_tr Try.func60 rfl rfl rfl rfl ?_
  have hla := pvF_length a
  have hlb := pvF_length b
  refine tr_seq ?_
  refine tr_region rfl (.run [] [] rfl (st_assign rfl) .nil) ?_
  refine tr_seq ?_
  refine tr_seq ?_
  refine tr_region rfl (.run [] [] rfl (st_move rfl) (.run [] [] rfl (st_len_fro rfl rfl Try.underlying24) (.run [] [] rfl (st_move rfl) (.run [] [] rfl (st_len_fro rfl rfl Try.underlying24) (.run [] [] rfl (st_neq rfl rfl rfl) .nil))))) ?_
  refine tr_if (t := (!(decide (((pvF a).length : Int) = ((pvF b).length : Int))))) rfl (fun h1 => ?_) (fun h1 => ?_)
  · skip
    replace h1 : ¬ (((pvF a).length : Int) = ((pvF b).length : Int)) := of_decide_eq_false (bnot_t h1)
    refine tr_seq ?_
    refine tr_region rfl (.run [] [] rfl (st_assign rfl) .nil) ?_
    refine tr_ret ?_
    exact ends [_] [] (.cons (.tmp (bool_eq (decide_eq_false (fun e => by subst e; omega)).symm)) .nil) (.cons (.one .v (.v _)) .nil) (by decide) trivial
  · skip
    replace h1 : ((pvF a).length : Int) = ((pvF b).length : Int) := of_decide_eq_true (bnot_f h1)
    refine tr_skip ?_
    refine tr_seq ?_
    refine tr_seq ?_
    refine tr_region rfl (.run [] [] rfl (st_assign rfl) .nil) ?_
    refine tr_block ?_
    refine tr_loopS (σ := Nat) (fun i => mk [(0, .p none (.sl false 2 (pvF a))), (1, .p none (.sl false 2 (pvF b))), (5, .p none (.v (.int .i64 (i:Int))))] [] []) (fun i => i ≤ a.length ∧ ∀ j, j < i → a[j]? = b[j]?) (fun i => a.length - i) 0 ⟨Nat.zero_le _, fun j hj => absurd hj (Nat.not_lt_zero j)⟩ (wk_mk ⟨rfl, ⟨rfl, ⟨(int_eq (by omega)), trivial⟩⟩⟩ trivial trivial rfl) ?_
    rintro i hG
    replace hG : i ≤ a.length ∧ ∀ j, j < i → a[j]? = b[j]? := hG
    obtain ⟨hi, hG⟩ := hG
    refine tr_seq ?_
    refine tr_seq ?_
    refine tr_region rfl (.run [] [] rfl (st_move rfl) (.run [] [] rfl (st_move rfl) (.run [] [] rfl (st_len_fro rfl rfl Try.underlying24) (.run [] [] rfl (st_lss rfl rfl rfl) .nil)))) ?_
    refine tr_if (t := decide ((i:Int) < ((pvF a).length : Int))) rfl (fun h2 => ?_) (fun h2 => ?_)
    · skip
      replace h2 := of_decide_eq_true h2
      refine tr_skip ?_
      refine tr_seq ?_
      refine tr_block ?_
      refine tr_seq ?_
      obtain ⟨e, he⟩ : ∃ e, a[i]? = some e := ⟨_, List.getElem?_eq_getElem (by (have hL := pvF_length a; omega))⟩
      have hlte := (List.getElem?_eq_some_iff.1 he).1
      obtain ⟨e2, he2⟩ : ∃ e, b[i]? = some e := ⟨_, List.getElem?_eq_getElem (by (have hL := pvF_length b; omega))⟩
      have hlte2 := (List.getElem?_eq_some_iff.1 he2).1
      refine tr_regionD mixed rfl (.run [] [] rfl (st_move rfl) (.run [] [] rfl (st_move rfl) (.run [] [] rfl (st_idx_fro rfl rfl rfl Try.underlying24 Try.sizeOf69 rfl (by omega) (pvF_get he)) (.run [] [] rfl (st_load_fea rfl rfl Try.isAgg69 Try.sizeOf69 (nle rfl)) (.run [] [] rfl (st_move rfl) (.run [] [] rfl (st_move rfl) (.run [] [] rfl (st_idx_fro rfl rfl rfl Try.underlying24 Try.sizeOf69 rfl (by omega) (pvF_get he2)) (.run [] [] rfl (st_load_fea rfl rfl Try.isAgg69 Try.sizeOf69 (nle rfl)) (.run [2500] [] rfl (st_call rfl 2500 (X := []) en84 rfl (.val nod) (.cons (.agg (.cons (.bor .v) (.cons (.bor .v) .nil))) (.cons (.agg (.cons (.bor .v) (.cons (.bor .v) .nil))) .nil)) (by decide) all_nil .nil (eqFile_con e e2) rfl rfl (nle rfl)) (.run [] [] rfl (st_not (b := decide (e = e2)) rfl rfl) .nil)))))))))) (by kernel_rfl) ?_
      refine tr_if (t := (!(decide (e = e2)))) rfl (fun h3 => ?_) (fun h3 => ?_)
      · skip
        replace h3 : ¬ (e = e2) := of_decide_eq_false (bnot_t h3)
        refine tr_seq ?_
        refine tr_region rfl (.run [] [] rfl (st_assign rfl) .nil) ?_
        refine tr_ret ?_
        exact ends [_] [] (.cons (.tmp (bool_eq (decide_eq_false (glist_ne he he2 h3)).symm)) .nil) (.cons (.one .v (.v _)) .nil) (by decide) trivial
      · skip
        replace h3 : e = e2 := of_decide_eq_true (bnot_f h3)
        refine tr_skip ?_
        refine tr_wk (s' := mk [(0, .p none (.sl false 2 (pvF a))), (1, .p none (.sl false 2 (pvF b))), (5, .p none (.v (.int .i64 (i:Int))))] [] []) ?_ ?_
        · exact wk_mk ⟨rfl, ⟨rfl, ⟨rfl, trivial⟩⟩⟩ trivial trivial rfl
        refine tr_region rfl (.run [] [] rfl (st_move rfl) (.run [] [] rfl (st_addn rfl rfl rfl (by omega)) (.run [] [] rfl (st_assign rfl) .nil))) ?_
        refine nxt (Q := fun _ _ => False) (z := i) (i + 1) ?_ ?_ ?_
        · show (i + 1) ≤ a.length ∧ ∀ j, j < (i + 1) → a[j]? = b[j]?
          exact ⟨by omega, glist_step hG he he2 h3⟩
        · show a.length - (i + 1) < a.length - i
          omega
        · exact wk_mk ⟨rfl, ⟨rfl, ⟨(int_eq (by omega)), trivial⟩⟩⟩ trivial trivial rfl
    · skip
      replace h2 := of_decide_eq_false h2
      refine tr_exit ?_
      refine tr_seq ?_
      refine tr_region rfl (.run [] [] rfl (st_assign rfl) .nil) ?_
      refine tr_ret ?_
      exact ends [_] [] (.cons (.tmp (bool_eq (decide_eq_true (glist_all (by omega) (by omega) hG)).symm)) .nil) (.cons (.one .v (.v _)) .nil) (by decide) trivial
set_option maxRecDepth 1000000 in
theorem toFileS_con (l : List Fil) (hl : l.length ≤ 2000000) : Con Try.prog 58 [.one (PV.sl false 2 (pvF l))] [] [.one (.sl true 2 (pvF l))] := by
  refine con_of_tr Try.func58 rfl rfl rfl rfl ?_
  have hle := pvF_length l
  refine tr_seq ?_
  refine tr_region rfl (.run [] [] rfl (st_assign rfl) .nil) ?_
  refine tr_seq ?_
  refine tr_region rfl (.run [] [] rfl (st_move rfl) (.run [] [] rfl (st_len_fro rfl rfl Try.underlying47) (.run [700] [] rfl (st_make rfl 700 (l := (pvF l).length) (c := (pvF l).length) rfl rfl Try.underlying24 inf69 rfl rfl (by decide) rfl (by decide) (Nat.le_refl _) (by omega) (by simp only [maxLen]; omega)) (.run [] [] rfl (st_assign rfl) .nil)))) ?_
  refine tr_seq ?_
  refine tr_seq ?_
  refine tr_region rfl (.run [] [] rfl (st_assign rfl) .nil) ?_
  refine tr_block ?_
  refine tr_loopS (σ := Nat) (fun i => mk [(0, .p none (.sl false 2 (pvF l))), (3, .sl 700 0 ((pvF l).length)), (4, .p none (.v (.int .i64 (i:Int))))] [] [(700, 2, pvF (l.take i) ++ List.replicate (l.length - i) [PV.v (.string ⟨#[]⟩), PV.v (.string ⟨#[]⟩)])]) (fun i => i ≤ l.length) (fun i => l.length - i) 0 (by simp) (wk_mk ⟨rfl, ⟨rfl, ⟨(int_eq (by omega)), trivial⟩⟩⟩ trivial ⟨(congrArg (fun x => some (2, x)) (by exact gto_zero)), trivial⟩ rfl) ?_
  rintro i hG
  replace hG : i ≤ l.length := hG
  refine tr_seq ?_
  refine tr_seq ?_
  refine tr_region rfl (.run [] [] rfl (st_move rfl) (.run [] [] rfl (st_move rfl) (.run [] [] rfl (st_len_fro rfl rfl Try.underlying47) (.run [] [] rfl (st_lss rfl rfl rfl) .nil)))) ?_
  refine tr_if (t := decide ((i:Int) < ((pvF l).length : Int))) rfl (fun h1 => ?_) (fun h1 => ?_)
  · skip
    replace h1 := of_decide_eq_true h1
    refine tr_skip ?_
    refine tr_seq ?_
    refine tr_block ?_
    obtain ⟨e, he⟩ : ∃ e, l[i]? = some e := ⟨_, List.getElem?_eq_getElem (by (have hL := pvF_length l; omega))⟩
    have hlte := (List.getElem?_eq_some_iff.1 he).1
    refine tr_region rfl (.run [] [] rfl (st_move rfl) (.run [] [] rfl (st_move rfl) (.run [] [] rfl (st_move rfl) (.run [] [] rfl (st_move rfl) (.run [] [] rfl (st_idx_fro rfl rfl rfl Try.underlying47 Try.sizeOf105 rfl (by omega) (pvF_get he)) (.run [] [] rfl (st_load_fea rfl rfl Try.isAgg105 Try.sizeOf105 (nle rfl)) (.run [2000, 2001] [] rfl (st_call rfl 2000 (X := []) en83 rfl (.val nod) (.cons (.agg (.cons (.bor .v) (.cons (.bor .v) .nil))) .nil) (by decide) all_nil .nil (toFile_con e) rfl rfl (nle rfl)) (.run [] [] rfl (st_idx_row0 i rfl rfl rfl rfl Try.underlying24 Try.sizeOf69 rfl rfl (by omega)) (.run [] [] rfl (st_store_row rfl rfl rfl (FlatP.nf (gto_flat (pvF_flat _) (by simp [PV.isV]))) (by exact gto_get hlte) rfl rfl (.cons .v (.cons .v .nil)) Try.sizeOf69 rfl (nle rfl)) .nil))))))))) ?_
    refine tr_region rfl (.run [] [] rfl (st_move rfl) (.run [] [] rfl (st_addn rfl rfl rfl (by omega)) (.run [] [] rfl (st_assign rfl) .nil))) ?_
    refine nxt (Q := fun _ _ => False) (z := i) (i + 1) ?_ ?_ ?_
    · show (i + 1) ≤ l.length
      omega
    · show l.length - (i + 1) < l.length - i
      omega
    · exact wk_mk ⟨rfl, ⟨rfl, ⟨(int_eq (by omega)), trivial⟩⟩⟩ trivial ⟨(congrArg (fun x => some (2, x)) (by exact gto_step he rfl)), trivial⟩ rfl
  · skip
    replace h1 := of_decide_eq_false h1
    refine tr_exit ?_
    refine tr_seq ?_
    refine tr_region rfl (.run [] [] rfl (st_move rfl) (.run [] [] rfl (st_assign rfl) .nil)) ?_
    refine tr_ret ?_
    exact ends [_] [700] (.cons (.tmp rfl) .nil) (.cons (.one (.row (len := (pvF l).length) (xs := pvF l) (congrArg (fun x => some (2, x)) (gto_all (by omega))) rfl) (.sl _ _ (FlatP.clean (pvF_flat l)))) .nil) (by decide) trivial
set_option maxRecDepth 1000000 in
theorem szFile_con (e : Fil) (left : Int) (h0 : 0 ≤ left ∧ left ≤ 1048576) (hb : e.name.size ≤ 9223372036854775807 ∧ e.data.size ≤ 9223372036854775807) : Con Try.prog 82 [.agg [PV.v (.string e.name), PV.v (.string e.data)], .one (PV.v (.int .i64 left))] [] [.one (.v (.int .i64 (szOne (wFil e) left)))] := by
  refine con_of_tr Try.func82 rfl rfl rfl rfl ?_
  refine tr_seq ?_
  refine tr_region rfl (.run [] [2] rfl (st_box rfl 2 rfl rfl (by decide) rfl (by decide)) (.run [] [] rfl (st_assign rfl) .nil)) ?_
  refine tr_seq ?_
  refine tr_region rfl (.run [] [] rfl (st_move rfl) (.run [] [] rfl (st_faddr_box rfl rfl Try.underlying105 rfl Try.sizeOf9 (by decide)) (.run [] [] rfl (st_load_box1 rfl rfl rfl Try.isAgg9 rfl) (.run [] [] rfl (st_len_str rfl rfl Try.underlying9) (.run [] [] rfl (st_subn rfl rfl rfl (by omega)) (.run [] [] rfl (st_assign rfl) .nil)))))) ?_
  refine tr_seq ?_
  refine tr_seq ?_
  refine tr_region rfl (.run [] [] rfl (st_move rfl) (.run [] [] rfl (st_lss rfl rfl rfl) .nil)) ?_
  refine tr_if (t := decide ((left - (e.name.size : Int)) < 0)) rfl (fun h1 => ?_) (fun h1 => ?_)
  · skip
    replace h1 := of_decide_eq_true h1
    refine tr_seq ?_
    refine tr_region rfl (.run [] [] rfl (st_assign rfl) .nil) ?_
    refine tr_ret ?_
    exact ends [_] [] (.cons (.tmp (int_eq (szOne_lt (by have hw : wFil e = e.name.size + e.data.size := rfl; omega)))) .nil) (.cons (.one .v (.v _)) .nil) (by decide) trivial
  · skip
    replace h1 := of_decide_eq_false h1
    refine tr_skip ?_
    refine tr_seq ?_
    refine tr_region rfl (.run [] [] rfl (st_move rfl) (.run [] [] rfl (st_faddr_box rfl rfl Try.underlying105 rfl Try.sizeOf9 (by decide)) (.run [] [] rfl (st_load_box1 rfl rfl rfl Try.isAgg9 rfl) (.run [] [] rfl (st_len_str rfl rfl Try.underlying9) (.run [] [] rfl (st_subn rfl rfl rfl (by omega)) (.run [] [] rfl (st_assign rfl) .nil)))))) ?_
    refine tr_seq ?_
    refine tr_seq ?_
    refine tr_wk (s' := mk [(1, .p none (.v (.int .i64 ((left - (e.name.size : Int)) - (e.data.size : Int)))))] [] []) ?_ ?_
    · exact wk_mk ⟨rfl, trivial⟩ trivial trivial rfl
    refine tr_region rfl (.run [] [] rfl (st_move rfl) (.run [] [] rfl (st_lss rfl rfl rfl) .nil)) ?_
    refine tr_if (t := decide (((left - (e.name.size : Int)) - (e.data.size : Int)) < 0)) rfl (fun h2 => ?_) (fun h2 => ?_)
    · skip
      replace h2 := of_decide_eq_true h2
      refine tr_seq ?_
      refine tr_region rfl (.run [] [] rfl (st_assign rfl) .nil) ?_
      refine tr_ret ?_
      exact ends [_] [] (.cons (.tmp (int_eq (szOne_lt (by have hw : wFil e = e.name.size + e.data.size := rfl; omega)))) .nil) (.cons (.one .v (.v _)) .nil) (by decide) trivial
    · skip
      replace h2 := of_decide_eq_false h2
      refine tr_skip ?_
      refine tr_seq ?_
      refine tr_region rfl (.run [] [] rfl (st_move rfl) (.run [] [] rfl (st_assign rfl) .nil)) ?_
      refine tr_ret ?_
      exact ends [_] [] (.cons (.tmp (int_eq (szOne_ge (by have hw : wFil e = e.name.size + e.data.size := rfl; omega)))) .nil) (.cons (.one .v (.v _)) .nil) (by decide) trivial
set_option maxRecDepth 1000000 in
theorem szFileS_con (l : List Fil) (left : Int) (h0 : 0 ≤ left ∧ left ≤ 1048576) (hl : l.length ≤ 9223372036854775807) (hn : ∀ e ∈ l, e.name.size ≤ 9223372036854775807 ∧ e.data.size ≤ 9223372036854775807) : Con Try.prog 56 [.one (PV.sl false 2 (pvF l)), .one (PV.v (.int .i64 left))] [] [.one (.v (.int .i64 (szS wFil l left)))] := by
  refine con_of_tr Try.func56 rfl rfl rfl rfl ?_
  have hle := pvF_length l
  refine tr_seq ?_
  refine tr_region rfl (.run [] [] rfl (st_assign rfl) .nil) ?_
  refine tr_seq ?_
  refine tr_region rfl (.run [] [] rfl (st_move rfl) (.run [] [] rfl (st_move rfl) (.run [] [] rfl (st_len_fro rfl rfl Try.underlying47) (.run [] [] rfl (st_subn rfl rfl rfl (by omega)) (.run [] [] rfl (st_assign rfl) .nil))))) ?_
  refine tr_seq ?_
  refine tr_seq ?_
  refine tr_region rfl (.run [] [] rfl (st_move rfl) (.run [] [] rfl (st_lss rfl rfl rfl) .nil)) ?_
  refine tr_if (t := decide ((left - ((pvF l).length : Int)) < 0)) rfl (fun h1 => ?_) (fun h1 => ?_)
  · skip
    replace h1 := of_decide_eq_true h1
    refine tr_seq ?_
    refine tr_region rfl (.run [] [] rfl (st_assign rfl) .nil) ?_
    refine tr_ret ?_
    exact ends [_] [] (.cons (.tmp (int_eq (by rw [szS, if_pos (by omega)]))) .nil) (.cons (.one .v (.v _)) .nil) (by decide) trivial
  · skip
    replace h1 := of_decide_eq_false h1
    refine tr_skip ?_
    refine tr_seq ?_
    refine tr_seq ?_
    refine tr_region rfl (.run [] [] rfl (st_assign rfl) .nil) ?_
    refine tr_block ?_
    refine tr_loopS (σ := Nat × Int) (fun (i, x) => mk [(0, .p none (.sl false 2 (pvF l))), (1, .p none (.v (.int .i64 x))), (5, .p none (.v (.int .i64 (i:Int))))] [] []) (fun (i, x) => i ≤ l.length ∧ (0 ≤ x ∧ x ≤ 1048576) ∧ szS wFil l left = szL wFil (l.drop i) x) (fun (i, x) => l.length - i) (0, left - ((pvF l).length : Int)) ⟨Nat.zero_le _, by omega, by rw [hle]; exact if_neg (by omega)⟩ (wk_mk ⟨rfl, ⟨rfl, ⟨(int_eq (by omega)), trivial⟩⟩⟩ trivial trivial rfl) ?_
    rintro ⟨i, x⟩ hG
    replace hG : i ≤ l.length ∧ (0 ≤ x ∧ x ≤ 1048576) ∧ szS wFil l left = szL wFil (l.drop i) x := hG
    obtain ⟨hG, hG2, hG3⟩ := hG
    refine tr_seq ?_
    refine tr_seq ?_
    refine tr_region rfl (.run [] [] rfl (st_move rfl) (.run [] [] rfl (st_move rfl) (.run [] [] rfl (st_len_fro rfl rfl Try.underlying47) (.run [] [] rfl (st_lss rfl rfl rfl) .nil)))) ?_
    refine tr_if (t := decide ((i:Int) < ((pvF l).length : Int))) rfl (fun h2 => ?_) (fun h2 => ?_)
    · skip
      replace h2 := of_decide_eq_true h2
      refine tr_skip ?_
      refine tr_seq ?_
      refine tr_block ?_
      refine tr_seq ?_
      obtain ⟨e, he⟩ : ∃ e, l[i]? = some e := ⟨_, List.getElem?_eq_getElem (by (have hL := pvF_length l; omega))⟩
      have hlte := (List.getElem?_eq_some_iff.1 he).1
      refine tr_region rfl (.run [] [] rfl (st_move rfl) (.run [] [] rfl (st_move rfl) (.run [] [] rfl (st_idx_fro rfl rfl rfl Try.underlying47 Try.sizeOf105 rfl (by omega) (pvF_get he)) (.run [] [] rfl (st_load_fea rfl rfl Try.isAgg105 Try.sizeOf105 (nle rfl)) (.run [] [] rfl (st_move rfl) (.run [2300] [] rfl (st_call rfl 2300 (X := []) en82 rfl (.val nod) (.cons (.agg (.cons (.bor .v) (.cons (.bor .v) .nil))) (.cons (.one (.bor .v)) .nil)) (by decide) all_nil .nil (szFile_con e x hG2 (hn e (List.mem_of_getElem? he))) rfl rfl (nle rfl)) (.run [] [] rfl (st_assign rfl) .nil))))))) ?_
      refine tr_seq ?_
      refine tr_region rfl (.run [] [] rfl (st_move rfl) (.run [] [] rfl (st_lss rfl rfl rfl) .nil)) ?_
      refine tr_if (t := decide ((szOne (wFil e) x) < 0)) rfl (fun h3 => ?_) (fun h3 => ?_)
      · skip
        replace h3 := of_decide_eq_true h3
        refine tr_seq ?_
        refine tr_region rfl (.run [] [] rfl (st_assign rfl) .nil) ?_
        refine tr_ret ?_
        exact ends [_] [] (.cons (.tmp (int_eq (gsz_stop he h3 hG2.1 hG3).symm)) .nil) (.cons (.one .v (.v _)) .nil) (by decide) trivial
      · skip
        replace h3 := of_decide_eq_false h3
        refine tr_skip ?_
        refine tr_region rfl (.run [] [] rfl (st_move rfl) (.run [] [] rfl (st_addn rfl rfl rfl (by omega)) (.run [] [] rfl (st_assign rfl) .nil))) ?_
        refine nxt (Q := fun _ _ => False) (z := (i, x)) (i + 1, szOne (wFil e) x) ?_ ?_ ?_
        · show (i + 1) ≤ l.length ∧ (0 ≤ (szOne (wFil e) x) ∧ (szOne (wFil e) x) ≤ 1048576) ∧ szS wFil l left = szL wFil (l.drop (i + 1)) (szOne (wFil e) x)
          exact ⟨by omega, gsz_next he hG2 h3 hG3⟩
        · show l.length - (i + 1) < l.length - i
          omega
        · exact wk_mk ⟨rfl, ⟨rfl, ⟨(int_eq (by omega)), trivial⟩⟩⟩ trivial trivial rfl
    · skip
      replace h2 := of_decide_eq_false h2
      refine tr_exit ?_
      refine tr_seq ?_
      refine tr_region rfl (.run [] [] rfl (st_move rfl) (.run [] [] rfl (st_assign rfl) .nil)) ?_
      refine tr_ret ?_
      exact ends [_] [] (.cons (.tmp (int_eq (gsz_end (by omega) hG3).symm)) .nil) (.cons (.one .v (.v _)) .nil) (by decide) trivial
set_option maxRecDepth 1000000 in
theorem markFileS_con (l : List Fil) (k : Nat) (hk : k + 2 * l.length ≤ 1099511627776) : Con Try.prog 62 [.one (.sl true 2 (pvF l)), .one (PV.v (.int .i64 (k:Int)))] [some (pvF (marksG markFil k l.length))] [.one (.v (.int .i64 ((k + 2 * l.length : Nat) : Int)))] := by
  refine con_of_tr Try.func62 rfl rfl rfl rfl ?_
  have hle := pvF_length l
  refine tr_seq ?_
  refine tr_region rfl (.run [] [] rfl (st_assign rfl) .nil) ?_
  refine tr_seq ?_
  refine tr_seq ?_
  refine tr_region rfl (.run [] [] rfl (st_assign rfl) .nil) ?_
  refine tr_block ?_
  refine tr_loopS (σ := Nat) (fun i => mk [(0, .sl 100000 0 ((pvF l).length)), (1, .p none (.v (.int .i64 ((k + 2 * i : Nat) : Int)))), (5, .p none (.v (.int .i64 (i:Int))))] [] [(100000, 2, pvF (marksG markFil k i ++ l.drop i))]) (fun i => i ≤ l.length) (fun i => l.length - i) 0 (by simp) (wk_mk ⟨rfl, ⟨(int_eq (by omega)), ⟨(int_eq (by omega)), trivial⟩⟩⟩ trivial ⟨(congrArg (fun x => some (2, x)) (by rfl)), trivial⟩ rfl) ?_
  rintro i hG
  replace hG : i ≤ l.length := hG
  refine tr_seq ?_
  refine tr_seq ?_
  refine tr_region rfl (.run [] [] rfl (st_move rfl) (.run [] [] rfl (st_move rfl) (.run [] [] rfl (st_len_row rfl rfl Try.underlying24) (.run [] [] rfl (st_lss rfl rfl rfl) .nil)))) ?_
  refine tr_if (t := decide ((i:Int) < ((pvF l).length : Int))) rfl (fun h1 => ?_) (fun h1 => ?_)
  · skip
    replace h1 := of_decide_eq_true h1
    refine tr_skip ?_
    refine tr_seq ?_
    refine tr_block ?_
    refine tr_seq ?_
    obtain ⟨e, he⟩ : ∃ e, l[i]? = some e := ⟨_, List.getElem?_eq_getElem (by omega)⟩
    refine tr_region rfl (.run [] [] rfl (st_move rfl) (.run [] [] rfl (st_move rfl) (.run [] [] rfl (st_move rfl) (.run [1500] [] rfl (st_call rfl 1500 (X := []) en86 rfl (.val nod) (.cons (.one (.bor .v)) .nil) (by decide) all_nil .nil (markText_con (k + 2 * i) (by omega)) rfl rfl (nle rfl)) (.run [] [] rfl (st_idx_row0 i rfl rfl rfl rfl Try.underlying24 Try.sizeOf69 rfl rfl (by omega)) (.run [] [] rfl (st_faddr_ea rfl rfl Try.underlying69 rfl Try.sizeOf9 (by decide)) (.run [] [] rfl (st_store_row rfl rfl rfl (FlatP.nf (pvF_flat _)) (by exact gmc_get (mk := markFil) he) rfl rfl (.cons .v .nil) Try.sizeOf9 rfl (nle rfl)) .nil))))))) ?_
    refine tr_seq ?_
    refine tr_region rfl (.run [] [] rfl (st_move rfl) (.run [] [] rfl (st_eq (st_addn rfl rfl rfl (by omega)) ((show (AV.p none (.v (.int .i64 (((k + 2 * i : Nat) : Int) + 1)))) = AV.p none (.v (.int .i64 ((k + 2 * i + 1 : Nat) : Int))) from int_eq (by omega)))) (.run [] [] rfl (st_assign rfl) .nil))) ?_
    refine tr_seq ?_
    refine tr_wk (s' := mk [(0, .sl 100000 0 ((pvF l).length)), (1, .p none (.v (.int .i64 ((k + 2 * i + 1 : Nat) : Int)))), (5, .p none (.v (.int .i64 (i:Int))))] [] [(100000, 2, (pvF (marksG markFil k i ++ l.drop i)).set i [PV.v (.string (markT (k + 2 * i))), PV.v (.string e.data)])]) ?_ ?_
    · exact wk_mk ⟨rfl, ⟨rfl, ⟨rfl, trivial⟩⟩⟩ trivial ⟨rfl, trivial⟩ rfl
    refine tr_region rfl (.run [] [] rfl (st_move rfl) (.run [] [] rfl (st_move rfl) (.run [] [] rfl (st_move rfl) (.run [2300] [] rfl (st_call rfl 2300 (X := []) en86 rfl (.val nod) (.cons (.one (.bor .v)) .nil) (by decide) all_nil .nil (markText_con (k + 2 * i + 1) (by omega)) rfl rfl (nle rfl)) (.run [] [] rfl (st_idx_row0 i rfl rfl rfl rfl Try.underlying24 Try.sizeOf69 rfl rfl (by omega)) (.run [] [] rfl (st_faddr_ea rfl rfl Try.underlying69 rfl Try.sizeOf9 (by decide)) (.run [] [] rfl (st_store_row rfl rfl rfl (FlatP.nf (FlatP.set (i := i) (cs := [PV.v (.string (markT (k + 2 * i))), PV.v (.string e.data)]) (pvF_flat _) rfl)) (set_self (b := [PV.v (.string (markT (k + 2 * i))), PV.v (.string e.data)]) (by exact gmc_get (mk := markFil) he)) rfl rfl (.cons .v .nil) Try.sizeOf9 rfl (nle rfl)) .nil))))))) ?_
    refine tr_region rfl (.run [] [] rfl (st_move rfl) (.run [] [] rfl (st_addn rfl rfl rfl (by omega)) (.run [] [] rfl (st_assign rfl) .nil))) ?_
    refine tr_region rfl (.run [] [] rfl (st_move rfl) (.run [] [] rfl (st_addn rfl rfl rfl (by omega)) (.run [] [] rfl (st_assign rfl) .nil))) ?_
    refine nxt (Q := fun _ _ => False) (z := i) (i + 1) ?_ ?_ ?_
    · show (i + 1) ≤ l.length
      omega
    · show l.length - (i + 1) < l.length - i
      omega
    · exact wk_mk ⟨rfl, ⟨(int_eq (by omega)), ⟨(int_eq (by omega)), trivial⟩⟩⟩ trivial ⟨(congrArg (fun x => some (2, x)) (by rw [List.set_set]; exact gmc_step (mk := markFil) he)), trivial⟩ rfl
  · skip
    replace h1 := of_decide_eq_false h1
    refine tr_exit ?_
    refine tr_seq ?_
    refine tr_region rfl (.run [] [] rfl (st_move rfl) (.run [] [] rfl (st_assign rfl) .nil)) ?_
    refine tr_ret ?_
    exact ends [_] [] (.cons (.tmp (int_eq (by rw [show i = l.length by omega]))) .nil) (.cons (.one .v (.v _)) .nil) (by decide) (outs1 (congrArg (fun x => some (2, x)) (congrArg pvF (gmc_all (by omega) (by omega)))) (pvF_flat _) (by decide))
set_option maxRecDepth 1000000 in
theorem heldFileS_con (l : List Fil) (k : Nat) (hk : k + 2 * l.length ≤ 1099511627776) : Con Try.prog 64 [.one (PV.sl false 2 (pvF l)), .one (PV.v (.int .i64 (k:Int)))] [] [.one (.v (.int .i64 (heldG markFil 2 k l)))] := by
  refine con_of_tr Try.func64 rfl rfl rfl rfl ?_
  have hle := pvF_length l
  refine tr_seq ?_
  refine tr_region rfl (.run [] [] rfl (st_assign rfl) .nil) ?_
  refine tr_seq ?_
  refine tr_seq ?_
  refine tr_region rfl (.run [] [] rfl (st_assign rfl) .nil) ?_
  refine tr_block ?_
  refine tr_loopS (σ := Nat) (fun i => mk [(0, .p none (.sl false 2 (pvF l))), (1, .p none (.v (.int .i64 ((k + 2 * i : Nat) : Int)))), (5, .p none (.v (.int .i64 (i:Int))))] [] []) (fun i => i ≤ l.length ∧ ∀ j (e : Fil), j < i → l[j]? = some e → e = markFil k j) (fun i => l.length - i) 0 ⟨Nat.zero_le _, fun _ _ h => absurd h (Nat.not_lt_zero _)⟩ (wk_mk ⟨rfl, ⟨(int_eq (by omega)), ⟨(int_eq (by omega)), trivial⟩⟩⟩ trivial trivial rfl) ?_
  rintro i hG
  replace hG : i ≤ l.length ∧ ∀ j (e : Fil), j < i → l[j]? = some e → e = markFil k j := hG
  obtain ⟨hi, hG⟩ := hG
  refine tr_seq ?_
  refine tr_seq ?_
  refine tr_region rfl (.run [] [] rfl (st_move rfl) (.run [] [] rfl (st_move rfl) (.run [] [] rfl (st_len_fro rfl rfl Try.underlying24) (.run [] [] rfl (st_lss rfl rfl rfl) .nil)))) ?_
  refine tr_if (t := decide ((i:Int) < ((pvF l).length : Int))) rfl (fun h1 => ?_) (fun h1 => ?_)
  · skip
    replace h1 := of_decide_eq_true h1
    refine tr_skip ?_
    refine tr_seq ?_
    refine tr_block ?_
    refine tr_seq ?_
    refine tr_seq ?_
    obtain ⟨e, he⟩ : ∃ e, l[i]? = some e := ⟨_, List.getElem?_eq_getElem (by (have hL := pvF_length l; omega))⟩
    have hlte := (List.getElem?_eq_some_iff.1 he).1
    refine tr_regionD mixed rfl (.run [] [] rfl (st_move rfl) (.run [] [] rfl (st_move rfl) (.run [] [] rfl (st_idx_fro rfl rfl rfl Try.underlying24 Try.sizeOf69 rfl (by omega) (pvF_get he)) (.run [] [] rfl (st_faddr_fea rfl rfl Try.underlying69 rfl Try.sizeOf9 (by decide)) (.run [] [] rfl (st_load_fea1 rfl rfl Try.isAgg9 rfl) (.run [] [] rfl (st_move rfl) (.run [1800] [] rfl (st_call rfl 1800 (X := []) en86 rfl (.val nod) (.cons (.one (.bor .v)) .nil) (by decide) all_nil .nil (markText_con (k + 2 * i) (by omega)) rfl rfl (nle rfl)) (.run [] [] rfl (st_sneq rfl rfl rfl) .nil)))))))) (by kernel_rfl) ?_
    refine tr_if (t := (!(decide (e.name = (markT (k + 2 * i)))))) rfl (fun h2 => ?_) (fun h2 => ?_)
    · skip
      replace h2 : ¬ (e.name = (markT (k + 2 * i))) := of_decide_eq_false (bnot_t h2)
      refine tr_seq ?_
      refine tr_region rfl (.run [] [] rfl (st_assign rfl) .nil) ?_
      refine tr_ret ?_
      exact ends [_] [] (.cons (.tmp (int_eq (by rw [heldG, if_neg (gheld_ne he (fun h => h2 (congrArg Fil.name h)))]))) .nil) (.cons (.one .v (.v _)) .nil) (by decide) trivial
    · skip
      replace h2 : e.name = (markT (k + 2 * i)) := of_decide_eq_true (bnot_f h2)
      refine tr_skip ?_
      refine tr_seq ?_
      refine tr_region rfl (.run [] [] rfl (st_move rfl) (.run [] [] rfl (st_eq (st_addn rfl rfl rfl (by omega)) ((show (AV.p none (.v (.int .i64 (((k + 2 * i : Nat) : Int) + 1)))) = AV.p none (.v (.int .i64 ((k + 2 * i + 1 : Nat) : Int))) from int_eq (by omega)))) (.run [] [] rfl (st_assign rfl) .nil))) ?_
      refine tr_seq ?_
      refine tr_seq ?_
      refine tr_wk (s' := mk [(0, .p none (.sl false 2 (pvF l))), (1, .p none (.v (.int .i64 ((k + 2 * i + 1 : Nat) : Int)))), (5, .p none (.v (.int .i64 (i:Int))))] [] []) ?_ ?_
      · exact wk_mk ⟨rfl, ⟨rfl, ⟨rfl, trivial⟩⟩⟩ trivial trivial rfl
      refine tr_regionD mixed rfl (.run [] [] rfl (st_move rfl) (.run [] [] rfl (st_move rfl) (.run [] [] rfl (st_idx_fro rfl rfl rfl Try.underlying24 Try.sizeOf69 rfl (by omega) (pvF_get he)) (.run [] [] rfl (st_faddr_fea rfl rfl Try.underlying69 rfl Try.sizeOf9 (by decide)) (.run [] [] rfl (st_load_fea1 rfl rfl Try.isAgg9 rfl) (.run [] [] rfl (st_move rfl) (.run [2800] [] rfl (st_call rfl 2800 (X := []) en86 rfl (.val nod) (.cons (.one (.bor .v)) .nil) (by decide) all_nil .nil (markText_con (k + 2 * i + 1) (by omega)) rfl rfl (nle rfl)) (.run [] [] rfl (st_sneq rfl rfl rfl) .nil)))))))) (by kernel_rfl) ?_
      refine tr_if (t := (!(decide (e.data = (markT (k + 2 * i + 1)))))) rfl (fun h3 => ?_) (fun h3 => ?_)
      · skip
        replace h3 : ¬ (e.data = (markT (k + 2 * i + 1))) := of_decide_eq_false (bnot_t h3)
        refine tr_seq ?_
        refine tr_region rfl (.run [] [] rfl (st_assign rfl) .nil) ?_
        refine tr_ret ?_
        exact ends [_] [] (.cons (.tmp (int_eq (by rw [heldG, if_neg (gheld_ne he (fun h => h3 (congrArg Fil.data h)))]))) .nil) (.cons (.one .v (.v _)) .nil) (by decide) trivial
      · skip
        replace h3 : e.data = (markT (k + 2 * i + 1)) := of_decide_eq_true (bnot_f h3)
        refine tr_skip ?_
        refine tr_region rfl (.run [] [] rfl (st_move rfl) (.run [] [] rfl (st_addn rfl rfl rfl (by omega)) (.run [] [] rfl (st_assign rfl) .nil))) ?_
        refine tr_region rfl (.run [] [] rfl (st_move rfl) (.run [] [] rfl (st_addn rfl rfl rfl (by omega)) (.run [] [] rfl (st_assign rfl) .nil))) ?_
        refine nxt (Q := fun _ _ => False) (z := i) (i + 1) ?_ ?_ ?_
        · show (i + 1) ≤ l.length ∧ ∀ j (e : Fil), j < (i + 1) → l[j]? = some e → e = markFil k j
          exact ⟨by omega, gheld_step hG he (markFil_ext h2 h3)⟩
        · show l.length - (i + 1) < l.length - i
          omega
        · exact wk_mk ⟨rfl, ⟨(int_eq (by omega)), ⟨(int_eq (by omega)), trivial⟩⟩⟩ trivial trivial rfl
  · skip
    replace h1 := of_decide_eq_false h1
    refine tr_exit ?_
    refine tr_seq ?_
    refine tr_region rfl (.run [] [] rfl (st_move rfl) (.run [] [] rfl (st_assign rfl) .nil)) ?_
    refine tr_ret ?_
    exact ends [_] [] (.cons (.tmp (int_eq (by rw [heldG, if_pos (gheld_all (by omega) hG)]; omega))) .nil) (.cons (.one .v (.v _)) .nil) (by decide) trivial
set_option maxRecDepth 1000000 in
theorem toDOp_con (a : DOp) : Con Try.prog 30 [.agg [PV.v (.int .i64 a.kind), PV.v (.string a.name), PV.v (.string a.dest), PV.v (.string a.data)]] [] [.agg [.v (.int .i64 a.kind), .v (.string a.name), .v (.string a.dest), .v (.string a.data)]] := by
  refine con_of_tr Try.func30 rfl rfl rfl rfl ?_
  refine tr_seq ?_
  refine tr_region rfl (.run [] [1] rfl (st_box rfl 1 rfl rfl (by decide) rfl (by decide)) (.run [] [2] rfl (st_allocZ rfl 2 inf36 rfl (by decide) rfl (by decide)) .nil)) ?_
  refine tr_seq ?_
  refine tr_region rfl (.run [] [3] rfl (st_allocZ rfl 3 inf36 rfl (by decide) rfl (by decide)) .nil) ?_
  refine tr_seq ?_
  refine tr_region rfl (.run [] [] rfl (st_faddr_box rfl rfl Try.underlying56 rfl Try.sizeOf2 (by decide)) (.run [] [] rfl (st_load_box1 rfl rfl rfl Try.isAgg2 rfl) (.run [] [] rfl (st_faddr_box rfl rfl Try.underlying36 rfl Try.sizeOf2 (by decide)) (.run [] [] rfl (st_store_box rfl rfl rfl rfl rfl Try.sizeOf2 rfl (nle rfl)) .nil)))) ?_
  refine tr_seq ?_
  refine tr_region rfl (.run [] [] rfl (st_faddr_box rfl rfl Try.underlying56 rfl Try.sizeOf9 (by decide)) (.run [] [] rfl (st_load_box1 rfl rfl rfl Try.isAgg9 rfl) (.run [] [] rfl (st_faddr_box rfl rfl Try.underlying36 rfl Try.sizeOf9 (by decide)) (.run [] [] rfl (st_store_box rfl rfl rfl rfl rfl Try.sizeOf9 rfl (nle rfl)) .nil)))) ?_
  refine tr_seq ?_
  refine tr_region rfl (.run [] [] rfl (st_faddr_box rfl rfl Try.underlying56 rfl Try.sizeOf9 (by decide)) (.run [] [] rfl (st_load_box1 rfl rfl rfl Try.isAgg9 rfl) (.run [] [] rfl (st_faddr_box rfl rfl Try.underlying36 rfl Try.sizeOf9 (by decide)) (.run [] [] rfl (st_store_box rfl rfl rfl rfl rfl Try.sizeOf9 rfl (nle rfl)) .nil)))) ?_
  refine tr_seq ?_
  refine tr_wk (s' := mk [(1, .ptr 1 0), (2, .ptr 2 0), (3, .ptr 3 0)] [(1, [.p none (.v (.int .i64 a.kind)), .p none (.v (.string a.name)), .p none (.v (.string a.dest)), .p none (.v (.string a.data))]), (2, [.p none (.v (.int .i64 0)), .p none (.v (.string ⟨#[]⟩)), .p none (.v (.string ⟨#[]⟩)), .p none (.v (.string ⟨#[]⟩))]), (3, [.p none (.v (.int .i64 a.kind)), .p none (.v (.string a.name)), .p none (.v (.string a.dest)), .p none (.v (.string ⟨#[]⟩))])] []) ?_ ?_
  · exact wk_mk ⟨rfl, ⟨rfl, ⟨rfl, trivial⟩⟩⟩ ⟨rfl, ⟨rfl, ⟨rfl, trivial⟩⟩⟩ trivial rfl
  refine tr_region rfl (.run [] [] rfl (st_faddr_box rfl rfl Try.underlying56 rfl Try.sizeOf9 (by decide)) (.run [] [] rfl (st_load_box1 rfl rfl rfl Try.isAgg9 rfl) (.run [] [] rfl (st_faddr_box rfl rfl Try.underlying36 rfl Try.sizeOf9 (by decide)) (.run [] [] rfl (st_store_box rfl rfl rfl rfl rfl Try.sizeOf9 rfl (nle rfl)) .nil)))) ?_
  refine tr_seq ?_
  refine tr_region rfl (.run [] [] rfl (st_load_box rfl rfl rfl Try.isAgg36 Try.sizeOf36 (nle rfl)) (.run [] [] rfl (st_store_box rfl rfl rfl rfl rfl Try.sizeOf36 rfl (nle rfl)) .nil)) ?_
  refine tr_ret ?_
  exact ends [_] [] (.cons (.cell rfl rfl Try.isAgg36 Try.sizeOf36 (nle rfl)) .nil) (.cons (.agg (.cons .v (.cons .v (.cons .v (.cons .v .nil)))) (cl_cons (.v _) (cl_cons (.v _) (cl_cons (.v _) (cl_cons (.v _) cl_nil))))) .nil) (by decide) trivial
set_option maxRecDepth 1000000 in
theorem eqDOp_con (a b : DOp) : Con Try.prog 85 [.agg [PV.v (.int .i64 a.kind), PV.v (.string a.name), PV.v (.string a.dest), PV.v (.string a.data)], .agg [PV.v (.int .i64 b.kind), PV.v (.string b.name), PV.v (.string b.dest), PV.v (.string b.data)]] [] [.one (.v (.bool (decide (a = b))))] := by
  refine con_of_tr Try.func85 rfl rfl rfl rfl ?_
  refine tr_seq ?_
  refine tr_region rfl (.run [] [2] rfl (st_box rfl 2 rfl rfl (by decide) rfl (by decide)) (.run [] [3] rfl (st_box rfl 3 rfl rfl (by decide) rfl (by decide)) (.run [] [] rfl (st_assign rfl) .nil))) ?_
  refine tr_seq ?_
  refine tr_seq ?_
  refine tr_region rfl (.run [] [] rfl (st_faddr_box rfl rfl Try.underlying36 rfl Try.sizeOf2 (by decide)) (.run [] [] rfl (st_load_box1 rfl rfl rfl Try.isAgg2 rfl) (.run [] [] rfl (st_faddr_box rfl rfl Try.underlying36 rfl Try.sizeOf2 (by decide)) (.run [] [] rfl (st_load_box1 rfl rfl rfl Try.isAgg2 rfl) (.run [] [] rfl (st_neq rfl rfl rfl) .nil))))) ?_
  refine tr_if (t := (!(decide (a.kind = b.kind)))) rfl (fun h1 => ?_) (fun h1 => ?_)
  · skip
    replace h1 : ¬ (a.kind = b.kind) := of_decide_eq_false (bnot_t h1)
    refine tr_seq ?_
    refine tr_region rfl (.run [] [] rfl (st_assign rfl) .nil) ?_
    refine tr_ret ?_
    exact ends [_] [] (.cons (.tmp (bool_eq (decide_eq_false (fun h => h1 (by subst h; rfl))).symm)) .nil) (.cons (.one .v (.v _)) .nil) (by decide) trivial
  · skip
    replace h1 : a.kind = b.kind := of_decide_eq_true (bnot_f h1)
    refine tr_skip ?_
    refine tr_seq ?_
    refine tr_seq ?_
    refine tr_region rfl (.run [] [] rfl (st_faddr_box rfl rfl Try.underlying36 rfl Try.sizeOf9 (by decide)) (.run [] [] rfl (st_load_box1 rfl rfl rfl Try.isAgg9 rfl) (.run [] [] rfl (st_faddr_box rfl rfl Try.underlying36 rfl Try.sizeOf9 (by decide)) (.run [] [] rfl (st_load_box1 rfl rfl rfl Try.isAgg9 rfl) (.run [] [] rfl (st_sneq rfl rfl rfl) .nil))))) ?_
    refine tr_if (t := (!(decide (a.name = b.name)))) rfl (fun h2 => ?_) (fun h2 => ?_)
    · skip
      replace h2 : ¬ (a.name = b.name) := of_decide_eq_false (bnot_t h2)
      refine tr_seq ?_
      refine tr_region rfl (.run [] [] rfl (st_assign rfl) .nil) ?_
      refine tr_ret ?_
      exact ends [_] [] (.cons (.tmp (bool_eq (decide_eq_false (fun h => h2 (by subst h; rfl))).symm)) .nil) (.cons (.one .v (.v _)) .nil) (by decide) trivial
    · skip
      replace h2 : a.name = b.name := of_decide_eq_true (bnot_f h2)
      refine tr_skip ?_
      refine tr_seq ?_
      refine tr_seq ?_
      refine tr_wk (s' := mk [(2, .ptr 2 0), (3, .ptr 3 0)] [(2, [.p none (.v (.int .i64 a.kind)), .p none (.v (.string a.name)), .p none (.v (.string a.dest)), .p none (.v (.string a.data))]), (3, [.p none (.v (.int .i64 b.kind)), .p none (.v (.string b.name)), .p none (.v (.string b.dest)), .p none (.v (.string b.data))])] []) ?_ ?_
      · exact wk_mk ⟨rfl, ⟨rfl, trivial⟩⟩ ⟨rfl, ⟨rfl, trivial⟩⟩ trivial rfl
      refine tr_region rfl (.run [] [] rfl (st_faddr_box rfl rfl Try.underlying36 rfl Try.sizeOf9 (by decide)) (.run [] [] rfl (st_load_box1 rfl rfl rfl Try.isAgg9 rfl) (.run [] [] rfl (st_faddr_box rfl rfl Try.underlying36 rfl Try.sizeOf9 (by decide)) (.run [] [] rfl (st_load_box1 rfl rfl rfl Try.isAgg9 rfl) (.run [] [] rfl (st_sneq rfl rfl rfl) .nil))))) ?_
      refine tr_if (t := (!(decide (a.dest = b.dest)))) rfl (fun h3 => ?_) (fun h3 => ?_)
      · skip
        replace h3 : ¬ (a.dest = b.dest) := of_decide_eq_false (bnot_t h3)
        refine tr_seq ?_
        refine tr_region rfl (.run [] [] rfl (st_assign rfl) .nil) ?_
        refine tr_ret ?_
        exact ends [_] [] (.cons (.tmp (bool_eq (decide_eq_false (fun h => h3 (by subst h; rfl))).symm)) .nil) (.cons (.one .v (.v _)) .nil) (by decide) trivial
      · skip
        replace h3 : a.dest = b.dest := of_decide_eq_true (bnot_f h3)
        refine tr_skip ?_
        refine tr_seq ?_
        refine tr_seq ?_
        refine tr_region rfl (.run [] [] rfl (st_faddr_box rfl rfl Try.underlying36 rfl Try.sizeOf9 (by decide)) (.run [] [] rfl (st_load_box1 rfl rfl rfl Try.isAgg9 rfl) (.run [] [] rfl (st_faddr_box rfl rfl Try.underlying36 rfl Try.sizeOf9 (by decide)) (.run [] [] rfl (st_load_box1 rfl rfl rfl Try.isAgg9 rfl) (.run [] [] rfl (st_sneq rfl rfl rfl) .nil))))) ?_
        refine tr_if (t := (!(decide (a.data = b.data)))) rfl (fun h4 => ?_) (fun h4 => ?_)
        · skip
          replace h4 : ¬ (a.data = b.data) := of_decide_eq_false (bnot_t h4)
          refine tr_seq ?_
          refine tr_region rfl (.run [] [] rfl (st_assign rfl) .nil) ?_
          refine tr_ret ?_
          exact ends [_] [] (.cons (.tmp (bool_eq (decide_eq_false (fun h => h4 (by subst h; rfl))).symm)) .nil) (.cons (.one .v (.v _)) .nil) (by decide) trivial
        · skip
          replace h4 : a.data = b.data := of_decide_eq_true (bnot_f h4)
          refine tr_skip ?_
          refine tr_seq ?_
          refine tr_region rfl (.run [] [] rfl (st_assign rfl) .nil) ?_
          refine tr_ret ?_
          exact ends [_] [] (.cons (.tmp (bool_eq (decide_eq_true (by cases a; cases b; simp_all)).symm)) .nil) (.cons (.one .v (.v _)) .nil) (by decide) trivial
set_option maxRecDepth 1000000 in
theorem eqDOpS_con (a b : List DOp) (hl : a.length ≤ 1000000000) : Con Try.prog 61 [.one (PV.sl false 4 (pvD a)), .one (PV.sl false 4 (pvD b))] [] [.one (.v (.bool (decide (a = b))))] := by
  refine con_of_tr Try.func61 rfl rfl rfl rfl ?_
  have hla := pvD_length a
  have hlb := pvD_length b
  refine tr_seq ?_
  refine tr_region rfl (.run [] [] rfl (st_assign rfl) .nil) ?_
  refine tr_seq ?_
  refine tr_seq ?_
  refine tr_region rfl (.run [] [] rfl (st_move rfl) (.run [] [] rfl (st_len_fro rfl rfl Try.underlying25) (.run [] [] rfl (st_move rfl) (.run [] [] rfl (st_len_fro rfl rfl Try.underlying25) (.run [] [] rfl (st_neq rfl rfl rfl) .nil))))) ?_
  refine tr_if (t := (!(decide (((pvD a).length : Int) = ((pvD b).length : Int))))) rfl (fun h1 => ?_) (fun h1 => ?_)
  · skip
    replace h1 : ¬ (((pvD a).length : Int) = ((pvD b).length : Int)) := of_decide_eq_false (bnot_t h1)
    refine tr_seq ?_
    refine tr_region rfl (.run [] [] rfl (st_assign rfl) .nil) ?_
    refine tr_ret ?_
    exact ends [_] [] (.cons (.tmp (bool_eq (decide_eq_false (fun e => by subst e; omega)).symm)) .nil) (.cons (.one .v (.v _)) .nil) (by decide) trivial
  · skip
    replace h1 : ((pvD a).length : Int) = ((pvD b).length : Int) := of_decide_eq_true (bnot_f h1)
    refine tr_skip ?_
    refine tr_seq ?_
    refine tr_seq ?_
    refine tr_region rfl (.run [] [] rfl (st_assign rfl) .nil) ?_
    refine tr_block ?_
    refine tr_loopS (σ := Nat) (fun i => mk [(0, .p none (.sl false 4 (pvD a))), (1, .p none (.sl false 4 (pvD b))), (5, .p none (.v (.int .i64 (i:Int))))] [] []) (fun i => i ≤ a.length ∧ ∀ j, j < i → a[j]? = b[j]?) (fun i => a.length - i) 0 ⟨Nat.zero_le _, fun j hj => absurd hj (Nat.not_lt_zero j)⟩ (wk_mk ⟨rfl, ⟨rfl, ⟨(int_eq (by omega)), trivial⟩⟩⟩ trivial trivial rfl) ?_
    rintro i hG
    replace hG : i ≤ a.length ∧ ∀ j, j < i → a[j]? = b[j]? := hG
    obtain ⟨hi, hG⟩ := hG
    refine tr_seq ?_
    refine tr_seq ?_
    refine tr_region rfl (.run [] [] rfl (st_move rfl) (.run [] [] rfl (st_move rfl) (.run [] [] rfl (st_len_fro rfl rfl Try.underlying25) (.run [] [] rfl (st_lss rfl rfl rfl) .nil)))) ?_
    refine tr_if (t := decide ((i:Int) < ((pvD a).length : Int))) rfl (fun h2 => ?_) (fun h2 => ?_)
    · skip
      replace h2 := of_decide_eq_true h2
      refine tr_skip ?_
      refine tr_seq ?_
      refine tr_block ?_
      refine tr_seq ?_
      obtain ⟨e, he⟩ : ∃ e, a[i]? = some e := ⟨_, List.getElem?_eq_getElem (by (have hL := pvD_length a; omega))⟩
      have hlte := (List.getElem?_eq_some_iff.1 he).1
      obtain ⟨e2, he2⟩ : ∃ e, b[i]? = some e := ⟨_, List.getElem?_eq_getElem (by (have hL := pvD_length b; omega))⟩
      have hlte2 := (List.getElem?_eq_some_iff.1 he2).1
      refine tr_regionD mixed rfl (.run [] [] rfl (st_move rfl) (.run [] [] rfl (st_move rfl) (.run [] [] rfl (st_idx_fro rfl rfl rfl Try.underlying25 Try.sizeOf36 rfl (by omega) (pvD_get he)) (.run [] [] rfl (st_load_fea rfl rfl Try.isAgg36 Try.sizeOf36 (nle rfl)) (.run [] [] rfl (st_move rfl) (.run [] [] rfl (st_move rfl) (.run [] [] rfl (st_idx_fro rfl rfl rfl Try.underlying25 Try.sizeOf36 rfl (by omega) (pvD_get he2)) (.run [] [] rfl (st_load_fea rfl rfl Try.isAgg36 Try.sizeOf36 (nle rfl)) (.run [2500] [] rfl (st_call rfl 2500 (X := []) en85 rfl (.val nod) (.cons (.agg (.cons (.bor .v) (.cons (.bor .v) (.cons (.bor .v) (.cons (.bor .v) .nil))))) (.cons (.agg (.cons (.bor .v) (.cons (.bor .v) (.cons (.bor .v) (.cons (.bor .v) .nil))))) .nil)) (by decide) all_nil .nil (eqDOp_con e e2) rfl rfl (nle rfl)) (.run [] [] rfl (st_not (b := decide (e = e2)) rfl rfl) .nil)))))))))) (by kernel_rfl) ?_
      refine tr_if (t := (!(decide (e = e2)))) rfl (fun h3 => ?_) (fun h3 => ?_)
      · skip
        replace h3 : ¬ (e = e2) := of_decide_eq_false (bnot_t h3)
        refine tr_seq ?_
        refine tr_region rfl (.run [] [] rfl (st_assign rfl) .nil) ?_
        refine tr_ret ?_
        exact ends [_] [] (.cons (.tmp (bool_eq (decide_eq_false (glist_ne he he2 h3)).symm)) .nil) (.cons (.one .v (.v _)) .nil) (by decide) trivial
      · skip
        replace h3 : e = e2 := of_decide_eq_true (bnot_f h3)
        refine tr_skip ?_
        refine tr_wk (s' := mk [(0, .p none (.sl false 4 (pvD a))), (1, .p none (.sl false 4 (pvD b))), (5, .p none (.v (.int .i64 (i:Int))))] [] []) ?_ ?_
        · exact wk_mk ⟨rfl, ⟨rfl, ⟨rfl, trivial⟩⟩⟩ trivial trivial rfl
        refine tr_region rfl (.run [] [] rfl (st_move rfl) (.run [] [] rfl (st_addn rfl rfl rfl (by omega)) (.run [] [] rfl (st_assign rfl) .nil))) ?_
        refine nxt (Q := fun _ _ => False) (z := i) (i + 1) ?_ ?_ ?_
        · show (i + 1) ≤ a.length ∧ ∀ j, j < (i + 1) → a[j]? = b[j]?
          exact ⟨by omega, glist_step hG he he2 h3⟩
        · show a.length - (i + 1) < a.length - i
          omega
        · exact wk_mk ⟨rfl, ⟨rfl, ⟨(int_eq (by omega)), trivial⟩⟩⟩ trivial trivial rfl
    · skip
      replace h2 := of_decide_eq_false h2
      refine tr_exit ?_
      refine tr_seq ?_
      refine tr_region rfl (.run [] [] rfl (st_assign rfl) .nil) ?_
      refine tr_ret ?_
      exact ends [_] [] (.cons (.tmp (bool_eq (decide_eq_true (glist_all (by omega) (by omega) hG)).symm)) .nil) (.cons (.one .v (.v _)) .nil) (by decide) trivial
set_option maxRecDepth 1000000 in
theorem toDOpS_con (l : List DOp) (hl : l.length ≤ 2000000) : Con Try.prog 59 [.one (PV.sl false 4 (pvD l))] [] [.one (.sl true 4 (pvD l))] := by
  refine con_of_tr Try.func59 rfl rfl rfl rfl ?_
  have hle := pvD_length l
  refine tr_seq ?_
  refine tr_region rfl (.run [] [] rfl (st_assign rfl) .nil) ?_
  refine tr_seq ?_
  refine tr_region rfl (.run [] [] rfl (st_move rfl) (.run [] [] rfl (st_len_fro rfl rfl Try.underlying48) (.run [700] [] rfl (st_make rfl 700 (l := (pvD l).length) (c := (pvD l).length) rfl rfl Try.underlying25 inf36 rfl rfl (by decide) rfl (by decide) (Nat.le_refl _) (by omega) (by simp only [maxLen]; omega)) (.run [] [] rfl (st_assign rfl) .nil)))) ?_
  refine tr_seq ?_
  refine tr_seq ?_
  refine tr_region rfl (.run [] [] rfl (st_assign rfl) .nil) ?_
  refine tr_block ?_
  refine tr_loopS (σ := Nat) (fun i => mk [(0, .p none (.sl false 4 (pvD l))), (3, .sl 700 0 ((pvD l).length)), (4, .p none (.v (.int .i64 (i:Int))))] [] [(700, 4, pvD (l.take i) ++ List.replicate (l.length - i) [PV.v (.int .i64 0), PV.v (.string ⟨#[]⟩), PV.v (.string ⟨#[]⟩), PV.v (.string ⟨#[]⟩)])]) (fun i => i ≤ l.length) (fun i => l.length - i) 0 (by simp) (wk_mk ⟨rfl, ⟨rfl, ⟨(int_eq (by omega)), trivial⟩⟩⟩ trivial ⟨(congrArg (fun x => some (4, x)) (by exact gto_zero)), trivial⟩ rfl) ?_
  rintro i hG
  replace hG : i ≤ l.length := hG
  refine tr_seq ?_
  refine tr_seq ?_
  refine tr_region rfl (.run [] [] rfl (st_move rfl) (.run [] [] rfl (st_move rfl) (.run [] [] rfl (st_len_fro rfl rfl Try.underlying48) (.run [] [] rfl (st_lss rfl rfl rfl) .nil)))) ?_
  refine tr_if (t := decide ((i:Int) < ((pvD l).length : Int))) rfl (fun h1 => ?_) (fun h1 => ?_)
  · skip
    replace h1 := of_decide_eq_true h1
    refine tr_skip ?_
    refine tr_seq ?_
    refine tr_block ?_
    obtain ⟨e, he⟩ : ∃ e, l[i]? = some e := ⟨_, List.getElem?_eq_getElem (by (have hL := pvD_length l; omega))⟩
    have hlte := (List.getElem?_eq_some_iff.1 he).1
    refine tr_region rfl (.run [] [] rfl (st_move rfl) (.run [] [] rfl (st_move rfl) (.run [] [] rfl (st_move rfl) (.run [] [] rfl (st_move rfl) (.run [] [] rfl (st_idx_fro rfl rfl rfl Try.underlying48 Try.sizeOf56 rfl (by omega) (pvD_get he)) (.run [] [] rfl (st_load_fea rfl rfl Try.isAgg56 Try.sizeOf56 (nle rfl)) (.run [2000, 2001, 2002, 2003] [] rfl (st_call rfl 2000 (X := []) en30 rfl (.val nod) (.cons (.agg (.cons (.bor .v) (.cons (.bor .v) (.cons (.bor .v) (.cons (.bor .v) .nil))))) .nil) (by decide) all_nil .nil (toDOp_con e) rfl rfl (nle rfl)) (.run [] [] rfl (st_idx_row0 i rfl rfl rfl rfl Try.underlying25 Try.sizeOf36 rfl rfl (by omega)) (.run [] [] rfl (st_store_row rfl rfl rfl (FlatP.nf (gto_flat (pvD_flat _) (by simp [PV.isV]))) (by exact gto_get hlte) rfl rfl (.cons .v (.cons .v (.cons .v (.cons .v .nil)))) Try.sizeOf36 rfl (nle rfl)) .nil))))))))) ?_
    refine tr_region rfl (.run [] [] rfl (st_move rfl) (.run [] [] rfl (st_addn rfl rfl rfl (by omega)) (.run [] [] rfl (st_assign rfl) .nil))) ?_
    refine nxt (Q := fun _ _ => False) (z := i) (i + 1) ?_ ?_ ?_
    · show (i + 1) ≤ l.length
      omega
    · show l.length - (i + 1) < l.length - i
      omega
    · exact wk_mk ⟨rfl, ⟨rfl, ⟨(int_eq (by omega)), trivial⟩⟩⟩ trivial ⟨(congrArg (fun x => some (4, x)) (by exact gto_step he rfl)), trivial⟩ rfl
  · skip
    replace h1 := of_decide_eq_false h1
    refine tr_exit ?_
    refine tr_seq ?_
    refine tr_region rfl (.run [] [] rfl (st_move rfl) (.run [] [] rfl (st_assign rfl) .nil)) ?_
    refine tr_ret ?_
    exact ends [_] [700] (.cons (.tmp rfl) .nil) (.cons (.one (.row (len := (pvD l).length) (xs := pvD l) (congrArg (fun x => some (4, x)) (gto_all (by omega))) rfl) (.sl _ _ (FlatP.clean (pvD_flat l)))) .nil) (by decide) trivial
set_option maxRecDepth 1000000 in
theorem szDOp_con (e : DOp) (left : Int) (h0 : 0 ≤ left ∧ left ≤ 1048576) (hb : e.name.size ≤ 9223372036854775807 ∧ e.dest.size ≤ 9223372036854775807 ∧ e.data.size ≤ 9223372036854775807) : Con Try.prog 29 [.agg [PV.v (.int .i64 e.kind), PV.v (.string e.name), PV.v (.string e.dest), PV.v (.string e.data)], .one (PV.v (.int .i64 left))] [] [.one (.v (.int .i64 (szOne (wDOp e) left)))] := by
  refine con_of_tr Try.func29 rfl rfl rfl rfl ?_
  refine tr_seq ?_
  refine tr_region rfl (.run [] [2] rfl (st_box rfl 2 rfl rfl (by decide) rfl (by decide)) (.run [] [] rfl (st_assign rfl) .nil)) ?_
  refine tr_seq ?_
  refine tr_region rfl (.run [] [] rfl (st_move rfl) (.run [] [] rfl (st_faddr_box rfl rfl Try.underlying56 rfl Try.sizeOf9 (by decide)) (.run [] [] rfl (st_load_box1 rfl rfl rfl Try.isAgg9 rfl) (.run [] [] rfl (st_len_str rfl rfl Try.underlying9) (.run [] [] rfl (st_subn rfl rfl rfl (by omega)) (.run [] [] rfl (st_assign rfl) .nil)))))) ?_
  refine tr_seq ?_
  refine tr_seq ?_
  refine tr_region rfl (.run [] [] rfl (st_move rfl) (.run [] [] rfl (st_lss rfl rfl rfl) .nil)) ?_
  refine tr_if (t := decide ((left - (e.name.size : Int)) < 0)) rfl (fun h1 => ?_) (fun h1 => ?_)
  · skip
    replace h1 := of_decide_eq_true h1
    refine tr_seq ?_
    refine tr_region rfl (.run [] [] rfl (st_assign rfl) .nil) ?_
    refine tr_ret ?_
    exact ends [_] [] (.cons (.tmp (int_eq (szOne_lt (by have hw : wDOp e = e.name.size + e.dest.size + e.data.size := rfl; omega)))) .nil) (.cons (.one .v (.v _)) .nil) (by decide) trivial
  · skip
    replace h1 := of_decide_eq_false h1
    refine tr_skip ?_
    refine tr_seq ?_
    refine tr_region rfl (.run [] [] rfl (st_move rfl) (.run [] [] rfl (st_faddr_box rfl rfl Try.underlying56 rfl Try.sizeOf9 (by decide)) (.run [] [] rfl (st_load_box1 rfl rfl rfl Try.isAgg9 rfl) (.run [] [] rfl (st_len_str rfl rfl Try.underlying9) (.run [] [] rfl (st_subn rfl rfl rfl (by omega)) (.run [] [] rfl (st_assign rfl) .nil)))))) ?_
    refine tr_seq ?_
    refine tr_seq ?_
    refine tr_wk (s' := mk [(1, .p none (.v (.int .i64 ((left - (e.name.size : Int)) - (e.dest.size : Int))))), (2, .ptr 2 0)] [(2, [.p none (.v (.int .i64 e.kind)), .p none (.v (.string e.name)), .p none (.v (.string e.dest)), .p none (.v (.string e.data))])] []) ?_ ?_
    · exact wk_mk ⟨rfl, ⟨rfl, trivial⟩⟩ ⟨rfl, trivial⟩ trivial rfl
    refine tr_region rfl (.run [] [] rfl (st_move rfl) (.run [] [] rfl (st_lss rfl rfl rfl) .nil)) ?_
    refine tr_if (t := decide (((left - (e.name.size : Int)) - (e.dest.size : Int)) < 0)) rfl (fun h2 => ?_) (fun h2 => ?_)
    · skip
      replace h2 := of_decide_eq_true h2
      refine tr_seq ?_
      refine tr_region rfl (.run [] [] rfl (st_assign rfl) .nil) ?_
      refine tr_ret ?_
      exact ends [_] [] (.cons (.tmp (int_eq (szOne_lt (by have hw : wDOp e = e.name.size + e.dest.size + e.data.size := rfl; omega)))) .nil) (.cons (.one .v (.v _)) .nil) (by decide) trivial
    · skip
      replace h2 := of_decide_eq_false h2
      refine tr_skip ?_
      refine tr_seq ?_
      refine tr_region rfl (.run [] [] rfl (st_move rfl) (.run [] [] rfl (st_faddr_box rfl rfl Try.underlying56 rfl Try.sizeOf9 (by decide)) (.run [] [] rfl (st_load_box1 rfl rfl rfl Try.isAgg9 rfl) (.run [] [] rfl (st_len_str rfl rfl Try.underlying9) (.run [] [] rfl (st_subn rfl rfl rfl (by omega)) (.run [] [] rfl (st_assign rfl) .nil)))))) ?_
      refine tr_seq ?_
      refine tr_seq ?_
      refine tr_region rfl (.run [] [] rfl (st_move rfl) (.run [] [] rfl (st_lss rfl rfl rfl) .nil)) ?_
      refine tr_if (t := decide ((((left - (e.name.size : Int)) - (e.dest.size : Int)) - (e.data.size : Int)) < 0)) rfl (fun h3 => ?_) (fun h3 => ?_)
      · skip
        replace h3 := of_decide_eq_true h3
        refine tr_seq ?_
        refine tr_region rfl (.run [] [] rfl (st_assign rfl) .nil) ?_
        refine tr_ret ?_
        exact ends [_] [] (.cons (.tmp (int_eq (szOne_lt (by have hw : wDOp e = e.name.size + e.dest.size + e.data.size := rfl; omega)))) .nil) (.cons (.one .v (.v _)) .nil) (by decide) trivial
      · skip
        replace h3 := of_decide_eq_false h3
        refine tr_skip ?_
        refine tr_seq ?_
        refine tr_region rfl (.run [] [] rfl (st_move rfl) (.run [] [] rfl (st_assign rfl) .nil)) ?_
        refine tr_ret ?_
        exact ends [_] [] (.cons (.tmp (int_eq (szOne_ge (by have hw : wDOp e = e.name.size + e.dest.size + e.data.size := rfl; omega)))) .nil) (.cons (.one .v (.v _)) .nil) (by decide) trivial
set_option maxRecDepth 1000000 in
theorem szDOpS_con (l : List DOp) (left : Int) (h0 : 0 ≤ left ∧ left ≤ 1048576) (hl : l.length ≤ 9223372036854775807) (hn : ∀ e ∈ l, e.name.size ≤ 9223372036854775807 ∧ e.dest.size ≤ 9223372036854775807 ∧ e.data.size ≤ 9223372036854775807) : Con Try.prog 57 [.one (PV.sl false 4 (pvD l)), .one (PV.v (.int .i64 left))] [] [.one (.v (.int .i64 (szS wDOp l left)))] := by
  refine con_of_tr Try.func57 rfl rfl rfl rfl ?_
  have hle := pvD_length l
  refine tr_seq ?_
  refine tr_region rfl (.run [] [] rfl (st_assign rfl) .nil) ?_
  refine tr_seq ?_
  refine tr_region rfl (.run [] [] rfl (st_move rfl) (.run [] [] rfl (st_move rfl) (.run [] [] rfl (st_len_fro rfl rfl Try.underlying48) (.run [] [] rfl (st_subn rfl rfl rfl (by omega)) (.run [] [] rfl (st_assign rfl) .nil))))) ?_
  refine tr_seq ?_
  refine tr_seq ?_
  refine tr_region rfl (.run [] [] rfl (st_move rfl) (.run [] [] rfl (st_lss rfl rfl rfl) .nil)) ?_
  refine tr_if (t := decide ((left - ((pvD l).length : Int)) < 0)) rfl (fun h1 => ?_) (fun h1 => ?_)
  · skip
    replace h1 := of_decide_eq_true h1
    refine tr_seq ?_
    refine tr_region rfl (.run [] [] rfl (st_assign rfl) .nil) ?_
    refine tr_ret ?_
    exact ends [_] [] (.cons (.tmp (int_eq (by rw [szS, if_pos (by omega)]))) .nil) (.cons (.one .v (.v _)) .nil) (by decide) trivial
  · skip
    replace h1 := of_decide_eq_false h1
    refine tr_skip ?_
    refine tr_seq ?_
    refine tr_seq ?_
    refine tr_region rfl (.run [] [] rfl (st_assign rfl) .nil) ?_
    refine tr_block ?_
    refine tr_loopS (σ := Nat × Int) (fun (i, x) => mk [(0, .p none (.sl false 4 (pvD l))), (1, .p none (.v (.int .i64 x))), (5, .p none (.v (.int .i64 (i:Int))))] [] []) (fun (i, x) => i ≤ l.length ∧ (0 ≤ x ∧ x ≤ 1048576) ∧ szS wDOp l left = szL wDOp (l.drop i) x) (fun (i, x) => l.length - i) (0, left - ((pvD l).length : Int)) ⟨Nat.zero_le _, by omega, by rw [hle]; exact if_neg (by omega)⟩ (wk_mk ⟨rfl, ⟨rfl, ⟨(int_eq (by omega)), trivial⟩⟩⟩ trivial trivial rfl) ?_
    rintro ⟨i, x⟩ hG
    replace hG : i ≤ l.length ∧ (0 ≤ x ∧ x ≤ 1048576) ∧ szS wDOp l left = szL wDOp (l.drop i) x := hG
    obtain ⟨hG, hG2, hG3⟩ := hG
    refine tr_seq ?_
    refine tr_seq ?_
    refine tr_region rfl (.run [] [] rfl (st_move rfl) (.run [] [] rfl (st_move rfl) (.run [] [] rfl (st_len_fro rfl rfl Try.underlying48) (.run [] [] rfl (st_lss rfl rfl rfl) .nil)))) ?_
    refine tr_if (t := decide ((i:Int) < ((pvD l).length : Int))) rfl (fun h2 => ?_) (fun h2 => ?_)
    · skip
      replace h2 := of_decide_eq_true h2
      refine tr_skip ?_
      refine tr_seq ?_
      refine tr_block ?_
      refine tr_seq ?_
      obtain ⟨e, he⟩ : ∃ e, l[i]? = some e := ⟨_, List.getElem?_eq_getElem (by (have hL := pvD_length l; omega))⟩
      have hlte := (List.getElem?_eq_some_iff.1 he).1
      refine tr_region rfl (.run [] [] rfl (st_move rfl) (.run [] [] rfl (st_move rfl) (.run [] [] rfl (st_idx_fro rfl rfl rfl Try.underlying48 Try.sizeOf56 rfl (by omega) (pvD_get he)) (.run [] [] rfl (st_load_fea rfl rfl Try.isAgg56 Try.sizeOf56 (nle rfl)) (.run [] [] rfl (st_move rfl) (.run [2300] [] rfl (st_call rfl 2300 (X := []) en29 rfl (.val nod) (.cons (.agg (.cons (.bor .v) (.cons (.bor .v) (.cons (.bor .v) (.cons (.bor .v) .nil))))) (.cons (.one (.bor .v)) .nil)) (by decide) all_nil .nil (szDOp_con e x hG2 (hn e (List.mem_of_getElem? he))) rfl rfl (nle rfl)) (.run [] [] rfl (st_assign rfl) .nil))))))) ?_
      refine tr_seq ?_
      refine tr_region rfl (.run [] [] rfl (st_move rfl) (.run [] [] rfl (st_lss rfl rfl rfl) .nil)) ?_
      refine tr_if (t := decide ((szOne (wDOp e) x) < 0)) rfl (fun h3 => ?_) (fun h3 => ?_)
      · skip
        replace h3 := of_decide_eq_true h3
        refine tr_seq ?_
        refine tr_region rfl (.run [] [] rfl (st_assign rfl) .nil) ?_
        refine tr_ret ?_
        exact ends [_] [] (.cons (.tmp (int_eq (gsz_stop he h3 hG2.1 hG3).symm)) .nil) (.cons (.one .v (.v _)) .nil) (by decide) trivial
      · skip
        replace h3 := of_decide_eq_false h3
        refine tr_skip ?_
        refine tr_region rfl (.run [] [] rfl (st_move rfl) (.run [] [] rfl (st_addn rfl rfl rfl (by omega)) (.run [] [] rfl (st_assign rfl) .nil))) ?_
        refine nxt (Q := fun _ _ => False) (z := (i, x)) (i + 1, szOne (wDOp e) x) ?_ ?_ ?_
        · show (i + 1) ≤ l.length ∧ (0 ≤ (szOne (wDOp e) x) ∧ (szOne (wDOp e) x) ≤ 1048576) ∧ szS wDOp l left = szL wDOp (l.drop (i + 1)) (szOne (wDOp e) x)
          exact ⟨by omega, gsz_next he hG2 h3 hG3⟩
        · show l.length - (i + 1) < l.length - i
          omega
        · exact wk_mk ⟨rfl, ⟨rfl, ⟨(int_eq (by omega)), trivial⟩⟩⟩ trivial trivial rfl
    · skip
      replace h2 := of_decide_eq_false h2
      refine tr_exit ?_
      refine tr_seq ?_
      refine tr_region rfl (.run [] [] rfl (st_move rfl) (.run [] [] rfl (st_assign rfl) .nil)) ?_
      refine tr_ret ?_
      exact ends [_] [] (.cons (.tmp (int_eq (gsz_end (by omega) hG3).symm)) .nil) (.cons (.one .v (.v _)) .nil) (by decide) trivial
set_option maxRecDepth 1000000 in
theorem markDOpS_con (l : List DOp) (k : Nat) (hk : k + 4 * l.length ≤ 1099511627776) : Con Try.prog 63 [.one (.sl true 4 (pvD l)), .one (PV.v (.int .i64 (k:Int)))] [some (pvD (marksG markDOp k l.length))] [.one (.v (.int .i64 ((k + 4 * l.length : Nat) : Int)))] := by
  refine con_of_tr Try.func63 rfl rfl rfl rfl ?_
  have hle := pvD_length l
  refine tr_seq ?_
  refine tr_region rfl (.run [] [] rfl (st_assign rfl) .nil) ?_
  refine tr_seq ?_
  refine tr_seq ?_
  refine tr_region rfl (.run [] [] rfl (st_assign rfl) .nil) ?_
  refine tr_block ?_
  refine tr_loopS (σ := Nat) (fun i => mk [(0, .sl 100000 0 ((pvD l).length)), (1, .p none (.v (.int .i64 ((k + 4 * i : Nat) : Int)))), (5, .p none (.v (.int .i64 (i:Int))))] [] [(100000, 4, pvD (marksG markDOp k i ++ l.drop i))]) (fun i => i ≤ l.length) (fun i => l.length - i) 0 (by simp) (wk_mk ⟨rfl, ⟨(int_eq (by omega)), ⟨(int_eq (by omega)), trivial⟩⟩⟩ trivial ⟨(congrArg (fun x => some (4, x)) (by rfl)), trivial⟩ rfl) ?_
  rintro i hG
  replace hG : i ≤ l.length := hG
  refine tr_seq ?_
  refine tr_seq ?_
  refine tr_region rfl (.run [] [] rfl (st_move rfl) (.run [] [] rfl (st_move rfl) (.run [] [] rfl (st_len_row rfl rfl Try.underlying25) (.run [] [] rfl (st_lss rfl rfl rfl) .nil)))) ?_
  refine tr_if (t := decide ((i:Int) < ((pvD l).length : Int))) rfl (fun h1 => ?_) (fun h1 => ?_)
  · skip
    replace h1 := of_decide_eq_true h1
    refine tr_skip ?_
    refine tr_seq ?_
    refine tr_block ?_
    refine tr_seq ?_
    obtain ⟨e, he⟩ : ∃ e, l[i]? = some e := ⟨_, List.getElem?_eq_getElem (by omega)⟩
    refine tr_region rfl (.run [] [] rfl (st_move rfl) (.run [] [] rfl (st_move rfl) (.run [] [] rfl (st_move rfl) (.run [] [] rfl (st_idx_row0 i rfl rfl rfl rfl Try.underlying25 Try.sizeOf36 rfl rfl (by omega)) (.run [] [] rfl (st_faddr_ea rfl rfl Try.underlying36 rfl Try.sizeOf2 (by decide)) (.run [] [] rfl (st_store_row rfl rfl rfl (FlatP.nf (pvD_flat _)) (by exact gmc_get (mk := markDOp) he) rfl rfl (.cons .v .nil) Try.sizeOf2 rfl (nle rfl)) .nil)))))) ?_
    refine tr_seq ?_
    refine tr_region rfl (.run [] [] rfl (st_move rfl) (.run [] [] rfl (st_eq (st_addn rfl rfl rfl (by omega)) ((show (AV.p none (.v (.int .i64 (((k + 4 * i : Nat) : Int) + 1)))) = AV.p none (.v (.int .i64 ((k + 4 * i + 1 : Nat) : Int))) from int_eq (by omega)))) (.run [] [] rfl (st_assign rfl) .nil))) ?_
    refine tr_seq ?_
    refine tr_wk (s' := mk [(0, .sl 100000 0 ((pvD l).length)), (1, .p none (.v (.int .i64 ((k + 4 * i + 1 : Nat) : Int)))), (5, .p none (.v (.int .i64 (i:Int))))] [] [(100000, 4, (pvD (marksG markDOp k i ++ l.drop i)).set i [PV.v (.int .i64 ((k + 4 * i : Nat) : Int)), PV.v (.string e.name), PV.v (.string e.dest), PV.v (.string e.data)])]) ?_ ?_
    · exact wk_mk ⟨rfl, ⟨rfl, ⟨rfl, trivial⟩⟩⟩ trivial ⟨rfl, trivial⟩ rfl
    refine tr_region rfl (.run [] [] rfl (st_move rfl) (.run [] [] rfl (st_move rfl) (.run [] [] rfl (st_move rfl) (.run [2200] [] rfl (st_call rfl 2200 (X := []) en86 rfl (.val nod) (.cons (.one (.bor .v)) .nil) (by decide) all_nil .nil (markText_con (k + 4 * i + 1) (by omega)) rfl rfl (nle rfl)) (.run [] [] rfl (st_idx_row0 i rfl rfl rfl rfl Try.underlying25 Try.sizeOf36 rfl rfl (by omega)) (.run [] [] rfl (st_faddr_ea rfl rfl Try.underlying36 rfl Try.sizeOf9 (by decide)) (.run [] [] rfl (st_store_row rfl rfl rfl (FlatP.nf (FlatP.set (i := i) (cs := [PV.v (.int .i64 ((k + 4 * i : Nat) : Int)), PV.v (.string e.name), PV.v (.string e.dest), PV.v (.string e.data)]) (pvD_flat _) rfl)) (set_self (b := [PV.v (.int .i64 ((k + 4 * i : Nat) : Int)), PV.v (.string e.name), PV.v (.string e.dest), PV.v (.string e.data)]) (by exact gmc_get (mk := markDOp) he)) rfl rfl (.cons .v .nil) Try.sizeOf9 rfl (nle rfl)) .nil))))))) ?_
    refine tr_seq ?_
    refine tr_region rfl (.run [] [] rfl (st_move rfl) (.run [] [] rfl (st_eq (st_addn rfl rfl rfl (by omega)) ((show (AV.p none (.v (.int .i64 (((k + 4 * i + 1 : Nat) : Int) + 1)))) = AV.p none (.v (.int .i64 ((k + 4 * i + 2 : Nat) : Int))) from int_eq (by omega)))) (.run [] [] rfl (st_assign rfl) .nil))) ?_
    refine tr_seq ?_
    refine tr_wk (s' := mk [(0, .sl 100000 0 ((pvD l).length)), (1, .p none (.v (.int .i64 ((k + 4 * i + 2 : Nat) : Int)))), (5, .p none (.v (.int .i64 (i:Int))))] [] [(100000, 4, ((pvD (marksG markDOp k i ++ l.drop i)).set i [PV.v (.int .i64 ((k + 4 * i : Nat) : Int)), PV.v (.string e.name), PV.v (.string e.dest), PV.v (.string e.data)]).set i [PV.v (.int .i64 ((k + 4 * i : Nat) : Int)), PV.v (.string (markT (k + 4 * i + 1))), PV.v (.string e.dest), PV.v (.string e.data)])]) ?_ ?_
    · exact wk_mk ⟨rfl, ⟨rfl, ⟨rfl, trivial⟩⟩⟩ trivial ⟨rfl, trivial⟩ rfl
    refine tr_region rfl (.run [] [] rfl (st_move rfl) (.run [] [] rfl (st_move rfl) (.run [] [] rfl (st_move rfl) (.run [3000] [] rfl (st_call rfl 3000 (X := []) en86 rfl (.val nod) (.cons (.one (.bor .v)) .nil) (by decide) all_nil .nil (markText_con (k + 4 * i + 2) (by omega)) rfl rfl (nle rfl)) (.run [] [] rfl (st_idx_row0 i rfl rfl rfl rfl Try.underlying25 Try.sizeOf36 rfl rfl (by omega)) (.run [] [] rfl (st_faddr_ea rfl rfl Try.underlying36 rfl Try.sizeOf9 (by decide)) (.run [] [] rfl (st_store_row rfl rfl rfl (FlatP.nf (FlatP.set (i := i) (cs := [PV.v (.int .i64 ((k + 4 * i : Nat) : Int)), PV.v (.string (markT (k + 4 * i + 1))), PV.v (.string e.dest), PV.v (.string e.data)]) (FlatP.set (i := i) (cs := [PV.v (.int .i64 ((k + 4 * i : Nat) : Int)), PV.v (.string e.name), PV.v (.string e.dest), PV.v (.string e.data)]) (pvD_flat _) rfl) rfl)) (set_self (b := [PV.v (.int .i64 ((k + 4 * i : Nat) : Int)), PV.v (.string (markT (k + 4 * i + 1))), PV.v (.string e.dest), PV.v (.string e.data)]) (set_self (b := [PV.v (.int .i64 ((k + 4 * i : Nat) : Int)), PV.v (.string e.name), PV.v (.string e.dest), PV.v (.string e.data)]) (by exact gmc_get (mk := markDOp) he))) rfl rfl (.cons .v .nil) Try.sizeOf9 rfl (nle rfl)) .nil))))))) ?_
    refine tr_seq ?_
    refine tr_region rfl (.run [] [] rfl (st_move rfl) (.run [] [] rfl (st_eq (st_addn rfl rfl rfl (by omega)) ((show (AV.p none (.v (.int .i64 (((k + 4 * i + 2 : Nat) : Int) + 1)))) = AV.p none (.v (.int .i64 ((k + 4 * i + 3 : Nat) : Int))) from int_eq (by omega)))) (.run [] [] rfl (st_assign rfl) .nil))) ?_
    refine tr_seq ?_
    refine tr_wk (s' := mk [(0, .sl 100000 0 ((pvD l).length)), (1, .p none (.v (.int .i64 ((k + 4 * i + 3 : Nat) : Int)))), (5, .p none (.v (.int .i64 (i:Int))))] [] [(100000, 4, (((pvD (marksG markDOp k i ++ l.drop i)).set i [PV.v (.int .i64 ((k + 4 * i : Nat) : Int)), PV.v (.string e.name), PV.v (.string e.dest), PV.v (.string e.data)]).set i [PV.v (.int .i64 ((k + 4 * i : Nat) : Int)), PV.v (.string (markT (k + 4 * i + 1))), PV.v (.string e.dest), PV.v (.string e.data)]).set i [PV.v (.int .i64 ((k + 4 * i : Nat) : Int)), PV.v (.string (markT (k + 4 * i + 1))), PV.v (.string (markT (k + 4 * i + 2))), PV.v (.string e.data)])]) ?_ ?_
    · exact wk_mk ⟨rfl, ⟨rfl, ⟨rfl, trivial⟩⟩⟩ trivial ⟨rfl, trivial⟩ rfl
    refine tr_region rfl (.run [] [] rfl (st_move rfl) (.run [] [] rfl (st_move rfl) (.run [] [] rfl (st_move rfl) (.run [3800] [] rfl (st_call rfl 3800 (X := []) en86 rfl (.val nod) (.cons (.one (.bor .v)) .nil) (by decide) all_nil .nil (markText_con (k + 4 * i + 3) (by omega)) rfl rfl (nle rfl)) (.run [] [] rfl (st_idx_row0 i rfl rfl rfl rfl Try.underlying25 Try.sizeOf36 rfl rfl (by omega)) (.run [] [] rfl (st_faddr_ea rfl rfl Try.underlying36 rfl Try.sizeOf9 (by decide)) (.run [] [] rfl (st_store_row rfl rfl rfl (FlatP.nf (FlatP.set (i := i) (cs := [PV.v (.int .i64 ((k + 4 * i : Nat) : Int)), PV.v (.string (markT (k + 4 * i + 1))), PV.v (.string (markT (k + 4 * i + 2))), PV.v (.string e.data)]) (FlatP.set (i := i) (cs := [PV.v (.int .i64 ((k + 4 * i : Nat) : Int)), PV.v (.string (markT (k + 4 * i + 1))), PV.v (.string e.dest), PV.v (.string e.data)]) (FlatP.set (i := i) (cs := [PV.v (.int .i64 ((k + 4 * i : Nat) : Int)), PV.v (.string e.name), PV.v (.string e.dest), PV.v (.string e.data)]) (pvD_flat _) rfl) rfl) rfl)) (set_self (b := [PV.v (.int .i64 ((k + 4 * i : Nat) : Int)), PV.v (.string (markT (k + 4 * i + 1))), PV.v (.string (markT (k + 4 * i + 2))), PV.v (.string e.data)]) (set_self (b := [PV.v (.int .i64 ((k + 4 * i : Nat) : Int)), PV.v (.string (markT (k + 4 * i + 1))), PV.v (.string e.dest), PV.v (.string e.data)]) (set_self (b := [PV.v (.int .i64 ((k + 4 * i : Nat) : Int)), PV.v (.string e.name), PV.v (.string e.dest), PV.v (.string e.data)]) (by exact gmc_get (mk := markDOp) he)))) rfl rfl (.cons .v .nil) Try.sizeOf9 rfl (nle rfl)) .nil))))))) ?_
    refine tr_region rfl (.run [] [] rfl (st_move rfl) (.run [] [] rfl (st_addn rfl rfl rfl (by omega)) (.run [] [] rfl (st_assign rfl) .nil))) ?_
    refine tr_region rfl (.run [] [] rfl (st_move rfl) (.run [] [] rfl (st_addn rfl rfl rfl (by omega)) (.run [] [] rfl (st_assign rfl) .nil))) ?_
    refine nxt (Q := fun _ _ => False) (z := i) (i + 1) ?_ ?_ ?_
    · show (i + 1) ≤ l.length
      omega
    · show l.length - (i + 1) < l.length - i
      omega
    · exact wk_mk ⟨rfl, ⟨(int_eq (by omega)), ⟨(int_eq (by omega)), trivial⟩⟩⟩ trivial ⟨(congrArg (fun x => some (4, x)) (by rw [List.set_set, List.set_set, List.set_set]; exact gmc_step (mk := markDOp) he)), trivial⟩ rfl
  · skip
    replace h1 := of_decide_eq_false h1
    refine tr_exit ?_
    refine tr_seq ?_
    refine tr_region rfl (.run [] [] rfl (st_move rfl) (.run [] [] rfl (st_assign rfl) .nil)) ?_
    refine tr_ret ?_
    exact ends [_] [] (.cons (.tmp (int_eq (by rw [show i = l.length by omega]))) .nil) (.cons (.one .v (.v _)) .nil) (by decide) (outs1 (congrArg (fun x => some (4, x)) (congrArg pvD (gmc_all (by omega) (by omega)))) (pvD_flat _) (by decide))
set_option maxRecDepth 1000000 in
theorem heldDOpS_con (l : List DOp) (k : Nat) (hk : k + 4 * l.length ≤ 1099511627776) : Con Try.prog 65 [.one (PV.sl false 4 (pvD l)), .one (PV.v (.int .i64 (k:Int)))] [] [.one (.v (.int .i64 (heldG markDOp 4 k l)))] := by
  refine con_of_tr Try.func65 rfl rfl rfl rfl ?_
  have hle := pvD_length l
  refine tr_seq ?_
  refine tr_region rfl (.run [] [] rfl (st_assign rfl) .nil) ?_
  refine tr_seq ?_
  refine tr_seq ?_
  refine tr_region rfl (.run [] [] rfl (st_assign rfl) .nil) ?_
  refine tr_block ?_
  refine tr_loopS (σ := Nat) (fun i => mk [(0, .p none (.sl false 4 (pvD l))), (1, .p none (.v (.int .i64 ((k + 4 * i : Nat) : Int)))), (5, .p none (.v (.int .i64 (i:Int))))] [] []) (fun i => i ≤ l.length ∧ ∀ j (e : DOp), j < i → l[j]? = some e → e = markDOp k j) (fun i => l.length - i) 0 ⟨Nat.zero_le _, fun _ _ h => absurd h (Nat.not_lt_zero _)⟩ (wk_mk ⟨rfl, ⟨(int_eq (by omega)), ⟨(int_eq (by omega)), trivial⟩⟩⟩ trivial trivial rfl) ?_
  rintro i hG
  replace hG : i ≤ l.length ∧ ∀ j (e : DOp), j < i → l[j]? = some e → e = markDOp k j := hG
  obtain ⟨hi, hG⟩ := hG
  refine tr_seq ?_
  refine tr_seq ?_
  refine tr_region rfl (.run [] [] rfl (st_move rfl) (.run [] [] rfl (st_move rfl) (.run [] [] rfl (st_len_fro rfl rfl Try.underlying25) (.run [] [] rfl (st_lss rfl rfl rfl) .nil)))) ?_
  refine tr_if (t := decide ((i:Int) < ((pvD l).length : Int))) rfl (fun h1 => ?_) (fun h1 => ?_)
  · skip
    replace h1 := of_decide_eq_true h1
    refine tr_skip ?_
    refine tr_seq ?_
    refine tr_block ?_
    refine tr_seq ?_
    refine tr_seq ?_
    obtain ⟨e, he⟩ : ∃ e, l[i]? = some e := ⟨_, List.getElem?_eq_getElem (by (have hL := pvD_length l; omega))⟩
    have hlte := (List.getElem?_eq_some_iff.1 he).1
    refine tr_region rfl (.run [] [] rfl (st_move rfl) (.run [] [] rfl (st_move rfl) (.run [] [] rfl (st_idx_fro rfl rfl rfl Try.underlying25 Try.sizeOf36 rfl (by omega) (pvD_get he)) (.run [] [] rfl (st_faddr_fea rfl rfl Try.underlying36 rfl Try.sizeOf2 (by decide)) (.run [] [] rfl (st_load_fea1 rfl rfl Try.isAgg2 rfl) (.run [] [] rfl (st_move rfl) (.run [] [] rfl (st_neq rfl rfl rfl) .nil))))))) ?_
    refine tr_if (t := (!(decide (e.kind = ((k + 4 * i : Nat) : Int))))) rfl (fun h2 => ?_) (fun h2 => ?_)
    · skip
      replace h2 : ¬ (e.kind = ((k + 4 * i : Nat) : Int)) := of_decide_eq_false (bnot_t h2)
      refine tr_seq ?_
      refine tr_region rfl (.run [] [] rfl (st_assign rfl) .nil) ?_
      refine tr_ret ?_
      exact ends [_] [] (.cons (.tmp (int_eq (by rw [heldG, if_neg (gheld_ne he (fun h => h2 (congrArg DOp.kind h)))]))) .nil) (.cons (.one .v (.v _)) .nil) (by decide) trivial
    · skip
      replace h2 : e.kind = ((k + 4 * i : Nat) : Int) := of_decide_eq_true (bnot_f h2)
      refine tr_skip ?_
      refine tr_seq ?_
      refine tr_region rfl (.run [] [] rfl (st_move rfl) (.run [] [] rfl (st_eq (st_addn rfl rfl rfl (by omega)) ((show (AV.p none (.v (.int .i64 (((k + 4 * i : Nat) : Int) + 1)))) = AV.p none (.v (.int .i64 ((k + 4 * i + 1 : Nat) : Int))) from int_eq (by omega)))) (.run [] [] rfl (st_assign rfl) .nil))) ?_
      refine tr_seq ?_
      refine tr_seq ?_
      refine tr_wk (s' := mk [(0, .p none (.sl false 4 (pvD l))), (1, .p none (.v (.int .i64 ((k + 4 * i + 1 : Nat) : Int)))), (5, .p none (.v (.int .i64 (i:Int))))] [] []) ?_ ?_
      · exact wk_mk ⟨rfl, ⟨rfl, ⟨rfl, trivial⟩⟩⟩ trivial trivial rfl
      refine tr_regionD mixed rfl (.run [] [] rfl (st_move rfl) (.run [] [] rfl (st_move rfl) (.run [] [] rfl (st_idx_fro rfl rfl rfl Try.underlying25 Try.sizeOf36 rfl (by omega) (pvD_get he)) (.run [] [] rfl (st_faddr_fea rfl rfl Try.underlying36 rfl Try.sizeOf9 (by decide)) (.run [] [] rfl (st_load_fea1 rfl rfl Try.isAgg9 rfl) (.run [] [] rfl (st_move rfl) (.run [2700] [] rfl (st_call rfl 2700 (X := []) en86 rfl (.val nod) (.cons (.one (.bor .v)) .nil) (by decide) all_nil .nil (markText_con (k + 4 * i + 1) (by omega)) rfl rfl (nle rfl)) (.run [] [] rfl (st_sneq rfl rfl rfl) .nil)))))))) (by kernel_rfl) ?_
      refine tr_if (t := (!(decide (e.name = (markT (k + 4 * i + 1)))))) rfl (fun h3 => ?_) (fun h3 => ?_)
      · skip
        replace h3 : ¬ (e.name = (markT (k + 4 * i + 1))) := of_decide_eq_false (bnot_t h3)
        refine tr_seq ?_
        refine tr_region rfl (.run [] [] rfl (st_assign rfl) .nil) ?_
        refine tr_ret ?_
        exact ends [_] [] (.cons (.tmp (int_eq (by rw [heldG, if_neg (gheld_ne he (fun h => h3 (congrArg DOp.name h)))]))) .nil) (.cons (.one .v (.v _)) .nil) (by decide) trivial
      · skip
        replace h3 : e.name = (markT (k + 4 * i + 1)) := of_decide_eq_true (bnot_f h3)
        refine tr_skip ?_
        refine tr_seq ?_
        refine tr_region rfl (.run [] [] rfl (st_move rfl) (.run [] [] rfl (st_eq (st_addn rfl rfl rfl (by omega)) ((show (AV.p none (.v (.int .i64 (((k + 4 * i + 1 : Nat) : Int) + 1)))) = AV.p none (.v (.int .i64 ((k + 4 * i + 2 : Nat) : Int))) from int_eq (by omega)))) (.run [] [] rfl (st_assign rfl) .nil))) ?_
        refine tr_seq ?_
        refine tr_seq ?_
        refine tr_wk (s' := mk [(0, .p none (.sl false 4 (pvD l))), (1, .p none (.v (.int .i64 ((k + 4 * i + 2 : Nat) : Int)))), (5, .p none (.v (.int .i64 (i:Int))))] [] []) ?_ ?_
        · exact wk_mk ⟨rfl, ⟨rfl, ⟨rfl, trivial⟩⟩⟩ trivial trivial rfl
        refine tr_regionD mixed rfl (.run [] [] rfl (st_move rfl) (.run [] [] rfl (st_move rfl) (.run [] [] rfl (st_idx_fro rfl rfl rfl Try.underlying25 Try.sizeOf36 rfl (by omega) (pvD_get he)) (.run [] [] rfl (st_faddr_fea rfl rfl Try.underlying36 rfl Try.sizeOf9 (by decide)) (.run [] [] rfl (st_load_fea1 rfl rfl Try.isAgg9 rfl) (.run [] [] rfl (st_move rfl) (.run [3700] [] rfl (st_call rfl 3700 (X := []) en86 rfl (.val nod) (.cons (.one (.bor .v)) .nil) (by decide) all_nil .nil (markText_con (k + 4 * i + 2) (by omega)) rfl rfl (nle rfl)) (.run [] [] rfl (st_sneq rfl rfl rfl) .nil)))))))) (by kernel_rfl) ?_
        refine tr_if (t := (!(decide (e.dest = (markT (k + 4 * i + 2)))))) rfl (fun h4 => ?_) (fun h4 => ?_)
        · skip
          replace h4 : ¬ (e.dest = (markT (k + 4 * i + 2))) := of_decide_eq_false (bnot_t h4)
          refine tr_seq ?_
          refine tr_region rfl (.run [] [] rfl (st_assign rfl) .nil) ?_
          refine tr_ret ?_
          exact ends [_] [] (.cons (.tmp (int_eq (by rw [heldG, if_neg (gheld_ne he (fun h => h4 (congrArg DOp.dest h)))]))) .nil) (.cons (.one .v (.v _)) .nil) (by decide) trivial
        · skip
          replace h4 : e.dest = (markT (k + 4 * i + 2)) := of_decide_eq_true (bnot_f h4)
          refine tr_skip ?_
          refine tr_seq ?_
          refine tr_region rfl (.run [] [] rfl (st_move rfl) (.run [] [] rfl (st_eq (st_addn rfl rfl rfl (by omega)) ((show (AV.p none (.v (.int .i64 (((k + 4 * i + 2 : Nat) : Int) + 1)))) = AV.p none (.v (.int .i64 ((k + 4 * i + 3 : Nat) : Int))) from int_eq (by omega)))) (.run [] [] rfl (st_assign rfl) .nil))) ?_
          refine tr_seq ?_
          refine tr_seq ?_
          refine tr_wk (s' := mk [(0, .p none (.sl false 4 (pvD l))), (1, .p none (.v (.int .i64 ((k + 4 * i + 3 : Nat) : Int)))), (5, .p none (.v (.int .i64 (i:Int))))] [] []) ?_ ?_
          · exact wk_mk ⟨rfl, ⟨rfl, ⟨rfl, trivial⟩⟩⟩ trivial trivial rfl
          refine tr_regionD mixed rfl (.run [] [] rfl (st_move rfl) (.run [] [] rfl (st_move rfl) (.run [] [] rfl (st_idx_fro rfl rfl rfl Try.underlying25 Try.sizeOf36 rfl (by omega) (pvD_get he)) (.run [] [] rfl (st_faddr_fea rfl rfl Try.underlying36 rfl Try.sizeOf9 (by decide)) (.run [] [] rfl (st_load_fea1 rfl rfl Try.isAgg9 rfl) (.run [] [] rfl (st_move rfl) (.run [4700] [] rfl (st_call rfl 4700 (X := []) en86 rfl (.val nod) (.cons (.one (.bor .v)) .nil) (by decide) all_nil .nil (markText_con (k + 4 * i + 3) (by omega)) rfl rfl (nle rfl)) (.run [] [] rfl (st_sneq rfl rfl rfl) .nil)))))))) (by kernel_rfl) ?_
          refine tr_if (t := (!(decide (e.data = (markT (k + 4 * i + 3)))))) rfl (fun h5 => ?_) (fun h5 => ?_)
          · skip
            replace h5 : ¬ (e.data = (markT (k + 4 * i + 3))) := of_decide_eq_false (bnot_t h5)
            refine tr_seq ?_
            refine tr_region rfl (.run [] [] rfl (st_assign rfl) .nil) ?_
            refine tr_ret ?_
            exact ends [_] [] (.cons (.tmp (int_eq (by rw [heldG, if_neg (gheld_ne he (fun h => h5 (congrArg DOp.data h)))]))) .nil) (.cons (.one .v (.v _)) .nil) (by decide) trivial
          · skip
            replace h5 : e.data = (markT (k + 4 * i + 3)) := of_decide_eq_true (bnot_f h5)
            refine tr_skip ?_
            refine tr_region rfl (.run [] [] rfl (st_move rfl) (.run [] [] rfl (st_addn rfl rfl rfl (by omega)) (.run [] [] rfl (st_assign rfl) .nil))) ?_
            refine tr_region rfl (.run [] [] rfl (st_move rfl) (.run [] [] rfl (st_addn rfl rfl rfl (by omega)) (.run [] [] rfl (st_assign rfl) .nil))) ?_
            refine nxt (Q := fun _ _ => False) (z := i) (i + 1) ?_ ?_ ?_
            · show (i + 1) ≤ l.length ∧ ∀ j (e : DOp), j < (i + 1) → l[j]? = some e → e = markDOp k j
              exact ⟨by omega, gheld_step hG he (markDOp_ext h2 h3 h4 h5)⟩
            · show l.length - (i + 1) < l.length - i
              omega
            · exact wk_mk ⟨rfl, ⟨(int_eq (by omega)), ⟨(int_eq (by omega)), trivial⟩⟩⟩ trivial trivial rfl
  · skip
    replace h1 := of_decide_eq_false h1
    refine tr_exit ?_
    refine tr_seq ?_
    refine tr_region rfl (.run [] [] rfl (st_move rfl) (.run [] [] rfl (st_assign rfl) .nil)) ?_
    refine tr_ret ?_
    exact ends [_] [] (.cons (.tmp (int_eq (by rw [heldG, if_pos (gheld_all (by omega) hG)]; omega))) .nil) (.cons (.one .v (.v _)) .nil) (by decide) trivial
end Go.Rl

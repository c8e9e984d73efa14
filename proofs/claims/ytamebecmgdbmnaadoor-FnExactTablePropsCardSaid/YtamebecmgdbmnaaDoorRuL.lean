/- Promises of functions, proved by walks over their operations; no conditions beyond those that each theorem states. -/
import Derived.Test.YtamebecmgdbmnaaDoorRuJ
import Derived.Test.YtamebecmgdbmnaaDoorRlT
import Derived.Shelf.Spec.TrailingZeros
import Derived.Lib.LaidTab
set_option linter.unusedSimpArgs false
set_option linter.unusedVariables false
namespace Go.Rl
open Go.Proofs Go.Proofs.Tryd
set_option maxRecDepth 1000000
set_option maxHeartbeats 2000000
theorem zDZ : (Tryd.prog.info? 30).map (fun i => (i.zero, i.size, i.bytes)) = some (some (.agg #[.int .i64 0, .int .i64 0, .int .i64 0]), 3, 24) := by kernel_rfl
theorem en104 : En Tryd.prog 104 := zAh func104 (by decide) rfl
theorem en61 : En Tryd.prog 61 := zAh func61 (by decide) rfl
theorem en103 : En Tryd.prog 103 := zAh func103 (by decide) rfl
theorem en102 : En Tryd.prog 102 := zAh func102 (by decide) rfl
theorem en59 : En Tryd.prog 59 := zAh func59 (by decide) rfl
theorem en58 : En Tryd.prog 58 := zAh func58 (by decide) rfl
theorem zLZ (a b : Flt) (w : World) : (Op.equalIn 10000 62 (.agg ⟨[.int .i64 a.kind, .int .i64 a.seed, .int .i64 a.probes, .string a.bits]⟩) (.agg ⟨[.int .i64 b.kind, .int .i64 b.seed, .int .i64 b.probes, .string b.bits]⟩)).run Tryd.prog w = .ok (decide (a = b)) w := by
 rw [show (10000 : Nat) = 9999 + 1 from rfl, run_equalIn_agg w 9999 62 _ _ underlying62 (by kernel_rfl)]
 rw [show (Tryd.prog.fieldsOf 62).toList = [⟨"Kind", 2, 0, false, "", "", 0⟩, ⟨"Seed", 2, 1, false, "", "", 8⟩, ⟨"Probes", 2, 2, false, "", "", 16⟩, ⟨"Bits", 9, 3, false, "", "", 24⟩] from rfl]
 rw [show (9999 : Nat) = 9998 + 1 from rfl]
 simp [Op.eqFields, part, isAgg2, sizeOf2, isAgg9, sizeOf9, run_equalIn_int (h := underlying2), run_equalIn_string (h := underlying9), zL3]
 cases a; cases b
 simp only [Flt.mk.injEq]
 (repeat' split) <;> simp_all
theorem zFo (f : Flt) (hf : f.bits.size ≤ 9000000000000000000) : Con Tryd.prog 104 [.agg [PV.v (.int .i64 f.kind), PV.v (.int .i64 f.seed), PV.v (.int .i64 f.probes), PV.v (.string f.bits)]] [] [.one (.v (.bool (zBF f)))] := by
 refine zAR func104 rfl rfl rfl rfl ?_
 refine zAB (zAA rfl (.run [] [1] rfl (zB9 rfl 1 rfl rfl (by decide) rfl (by decide)) (.a rfl rfl .nil)) ?_)
 refine zAB ?_
 refine zAB (zAA rfl (.r rfl (zAC rfl rfl underlying62 rfl sizeOf2 (by decide)) (.r rfl (zAD rfl rfl rfl isAgg2 rfl) .nil)) ?_)
 refine zAS ?_
 refine zAB (zAA rfl (.r rfl (zBB rfl rfl rfl) (.a rfl rfl .nil)) ?_)
 refine zAT (t := decide (f.kind = 0)) rfl (fun h1 => ?_) (fun h1 => ?_)
 ·
  replace h1 := of_decide_eq_true h1
  refine zAB (zAA rfl (.r rfl (zAZ rfl rfl rfl isAgg62 sizeOf62 (nle rfl)) (.r rfl (zAw (pl := [(0, 1), (1, 1), (2, 1), (3, 1)]) rfl underlying62 zC5 (by kernel_rfl) rfl rfl) (.r rfl (zJ0 rfl rfl rfl rfl rfl Tryd.eqGuardType62 (fun w => zLZ f (⟨0, 0, 0, ⟨#[]⟩⟩ : Flt) w)) (.a rfl rfl .nil)))) ?_)
  refine zAI ?_
  exact ends [_] [] (.cons (.tmp (zAG (fok_0 h1))) .nil) (.cons (.one .v (.v _)) .nil) (by decide) trivial
 ·
  replace h1 := of_decide_eq_false h1
  refine zAB (zAA rfl (.r rfl (zBB rfl rfl rfl) (.a rfl rfl .nil)) ?_)
  refine zAT (t := decide (f.kind = 1)) rfl (fun h2 => ?_) (fun h2 => ?_)
  ·
   replace h2 := of_decide_eq_true h2
   refine zAB ?_
   refine zAO (s' := mk [(1, .ptr 1 0)] [(1, [.vi f.kind, .vi f.seed, .vi f.probes, .vs f.bits])] []) ?_ ?_
   · exact zAJ ⟨rfl, trivial⟩ ⟨rfl, trivial⟩ trivial rfl
   rcases bfc (decide (f.seed = 0)) with h3 | h3
   ·
    have h3' := h3
    replace h3' := of_decide_eq_false h3'
    refine zAA rfl (.r rfl (zAC rfl rfl underlying62 rfl sizeOf2 (by decide)) (.r rfl (zAD rfl rfl rfl isAgg2 rfl) (.r rfl (zAL (zBB rfl rfl rfl) (zAG h3)) (.m rfl rfl (.not rfl (.not rfl (.not rfl (.r rfl (zAg rfl rfl) (.m rfl rfl (.not rfl (.not rfl (.not rfl (.not rfl (.r rfl (zAg rfl rfl) (.a rfl rfl .nil))))))))))))))) ?_
    refine zAI ?_
    exact ends [_] [] (.cons (.tmp (zAG (by rw [zKL h2]; simp [h3']))) .nil) (.cons (.one .v (.v _)) .nil) (by decide) trivial
   ·
    have h3' := h3
    replace h3' := of_decide_eq_true h3'
    rcases bfc (zAl f.probes 1 30) with h4 | h4
    ·
     have h4' := h4
     refine zAA rfl (.r rfl (zAC rfl rfl underlying62 rfl sizeOf2 (by decide)) (.r rfl (zAD rfl rfl rfl isAgg2 rfl) (.r rfl (zAL (zBB rfl rfl rfl) (zAG h3)) (.m rfl rfl (.r rfl (zAC rfl rfl underlying62 rfl sizeOf2 (by decide)) (.r rfl (zAD rfl rfl rfl isAgg2 rfl) (.run [1900] [] rfl (zAF rfl 1900 (X := []) en65 rfl (.val nod) (.cons (.one (.bor .v)) (.cons (.one (.bor .v)) (.cons (.one (.bor .v)) .nil))) (by decide) all_nil .nil (zBW f.probes 1 30) rfl rfl (nle rfl)) (.r rfl (zAo rfl rfl) (.r rfl (zAL (zBM rfl) (zAG h4)) (.not rfl (.not rfl (.not rfl (.not rfl (.r rfl (zAg rfl rfl) (.a rfl rfl .nil))))))))))))))) ?_
     refine zAI ?_
     exact ends [_] [] (.cons (.tmp (zAG (by rw [zKL h2]; simp [h3', h4']))) .nil) (.cons (.one .v (.v _)) .nil) (by decide) trivial
    ·
     have h4' := h4
     refine zAA rfl (.r rfl (zAC rfl rfl underlying62 rfl sizeOf2 (by decide)) (.r rfl (zAD rfl rfl rfl isAgg2 rfl) (.r rfl (zAL (zBB rfl rfl rfl) (zAG h3)) (.m rfl rfl (.r rfl (zAC rfl rfl underlying62 rfl sizeOf2 (by decide)) (.r rfl (zAD rfl rfl rfl isAgg2 rfl) (.run [1900] [] rfl (zAF rfl 1900 (X := []) en65 rfl (.val nod) (.cons (.one (.bor .v)) (.cons (.one (.bor .v)) (.cons (.one (.bor .v)) .nil))) (by decide) all_nil .nil (zBW f.probes 1 30) rfl rfl (nle rfl)) (.r rfl (zAo rfl rfl) (.r rfl (zAL (zBM rfl) (zAG h4)) (.r rfl (zAC rfl rfl underlying62 rfl sizeOf9 (by decide)) (.r rfl (zAD rfl rfl rfl isAgg9 rfl) (.r rfl (zAP rfl rfl underlying9) (.run [2500] [] rfl (zAF rfl 2500 (X := []) en65 rfl (.val nod) (.cons (.one (.bor .v)) (.cons (.one (.bor .v)) (.cons (.one (.bor .v)) .nil))) (by decide) all_nil .nil (zBW (f.bits.size : Int) 1 1000) rfl rfl (nle rfl)) (.r rfl (zAo rfl rfl) (.a rfl rfl .nil))))))))))))))) ?_
     refine zAI ?_
     exact ends [_] [] (.cons (.tmp (zAG (by rw [zKL h2]; simp [h3', h4']))) .nil) (.cons (.one .v (.v _)) .nil) (by decide) trivial
  ·
   replace h2 := of_decide_eq_false h2
   refine zAB (zAA rfl (.r rfl (zBB rfl rfl rfl) (.a rfl rfl .nil)) ?_)
   refine zAT (t := decide (f.kind = 2)) rfl (fun h5 => ?_) (fun h5 => ?_)
   ·
    replace h5 := of_decide_eq_true h5
    refine zAB ?_
    refine zAB ?_
    refine zAO (s' := mk [(1, .ptr 1 0)] [(1, [.vi f.kind, .vi f.seed, .vi f.probes, .vs f.bits])] []) ?_ ?_
    · exact zAJ ⟨rfl, trivial⟩ ⟨rfl, trivial⟩ trivial rfl
    rcases bfc (!(decide (f.probes = 0))) with h6 | h6
    ·
     have h6' := h6
     replace h6' : f.probes = 0 := of_decide_eq_true (zAn h6')
     rcases bfc (!(zAl f.seed 0 3)) with h7 | h7
     ·
      have h7' := h7
      replace h7' : (zAl f.seed 0 3) = true := zAn h7'
      refine zAA rfl (.r rfl (zAC rfl rfl underlying62 rfl sizeOf2 (by decide)) (.r rfl (zAD rfl rfl rfl isAgg2 rfl) (.r rfl (zAL (zB2 rfl rfl rfl) (zAG h6)) (.m rfl rfl (.r rfl (zAC rfl rfl underlying62 rfl sizeOf2 (by decide)) (.r rfl (zAD rfl rfl rfl isAgg2 rfl) (.run [3500] [] rfl (zAF rfl 3500 (X := []) en65 rfl (.val nod) (.cons (.one (.bor .v)) (.cons (.one (.bor .v)) (.cons (.one (.bor .v)) .nil))) (by decide) all_nil .nil (zBW f.seed 0 3) rfl rfl (nle rfl)) (.r rfl (zAL (zAa (b := zAl f.seed 0 3) rfl rfl) (zAG h7)) (.r rfl (zAg rfl rfl) (.m rfl rfl (.r rfl (zAC rfl rfl underlying62 rfl sizeOf9 (by decide)) (.r rfl (zAD rfl rfl rfl isAgg9 rfl) (.r rfl (zAP rfl rfl underlying9) (.run [4200] [] rfl (zAF rfl 4200 (X := []) en65 rfl (.val nod) (.cons (.one (.bor .v)) (.cons (.one (.bor .v)) (.cons (.one (.bor .v)) .nil))) (by decide) all_nil .nil (zBW (f.bits.size : Int) 20 600) rfl rfl (nle rfl)) (.r rfl (zAa (b := zAl (f.bits.size : Int) 20 600) rfl rfl) (.r rfl (zAg rfl rfl) .nil)))))))))))))))) ?_
      refine zAT (t := (!(zAl (f.bits.size : Int) 20 600))) rfl (fun h8 => ?_) (fun h8 => ?_)
      ·
       replace h8 : (zAl (f.bits.size : Int) 20 600) = false := zAm h8
       refine zAB ?_
       refine zAO (s' := mk [] [] []) ?_ ?_
       · exact zAJ trivial trivial trivial rfl
       refine zAA rfl (.a rfl rfl .nil) ?_
       refine zAI ?_
       exact ends [_] [] (.cons (.tmp (zAG (by rw [zGv h5]; simp [h6', h7', h8]))) .nil) (.cons (.one .v (.v _)) .nil) (by decide) trivial
      ·
       replace h8 : (zAl (f.bits.size : Int) 20 600) = true := zAn h8
       refine zAK ?_
       refine zAB ?_
       refine zAB ?_
       refine zAO (s' := mk [(1, .ptr 1 0)] [(1, [.vi f.kind, .vi f.seed, .vi f.probes, .vs f.bits])] []) ?_ ?_
       · exact zAJ ⟨rfl, trivial⟩ ⟨rfl, trivial⟩ trivial rfl
       refine zAA rfl (.r rfl (zAC rfl rfl underlying62 rfl sizeOf9 (by decide)) (.r rfl (zAD rfl rfl rfl isAgg9 rfl) (.r rfl (zAP rfl rfl underlying9) (.m rfl rfl .nil)))) ?_
       refine zAS ?_
       refine zAj (σ := Nat) (fun i => mk [(1, .ptr 1 0), (47, .vi (f.bits.size : Int)), (48, .vi (i:Int))] [(1, [.vi f.kind, .vi f.seed, .vi f.probes, .vs f.bits])] []) (fun i => i ≤ f.bits.size ∧ zDI f.bits 127 i) (fun i => f.bits.size - i) 0 ⟨Nat.zero_le _, zEW _ _⟩ (zAJ ⟨rfl, rfl, (zAE (by omega)), trivial⟩ ⟨rfl, trivial⟩ trivial rfl) ?_
       rintro i hG
       replace hG : i ≤ f.bits.size ∧ zDI f.bits 127 i := hG
       obtain ⟨hi, hS⟩ := hG
       refine zAB (zAA rfl (.r rfl (zAt rfl rfl rfl) .nil) ?_)
       refine zAB ?_
       refine zAT (t := decide ((i:Int) < (f.bits.size : Int))) rfl (fun h9 => ?_) (fun h9 => ?_)
       ·
        replace h9 := of_decide_eq_true h9
        refine zAK ?_
        refine zAB ?_
        refine zAS ?_
        refine zAB (zAA rfl (.m rfl rfl (.a rfl rfl .nil)) ?_)
        refine zAB ?_
        obtain ⟨b, hb⟩ : ∃ b : UInt8, f.bits[i]? = some b := ⟨_, getElem?_pos f.bits i (by omega)⟩
        refine zAA rfl (.r rfl (zAC rfl rfl underlying62 rfl sizeOf9 (by decide)) (.r rfl (zAD rfl rfl rfl isAgg9 rfl) (.m rfl rfl (.r rfl (zBX rfl rfl rfl underlying9 (by omega) hb) (.r rfl (zBE rfl rfl rfl) .nil))))) ?_
        refine zAT (t := decide (127 < (b.toNat : Int))) rfl (fun h10 => ?_) (fun h10 => ?_)
        ·
         replace h10 := of_decide_eq_true h10
         refine zAB (zAA rfl (.a rfl rfl .nil) ?_)
         refine zAI ?_
         exact ends [_] [] (.cons (.tmp (zAG (by rw [zGv h5]; simp [h6', h7', h8, zLX (m := 127) hb (by omega)]))) .nil) (.cons (.one .v (.v _)) .nil) (by decide) trivial
        ·
         replace h10 := of_decide_eq_false h10
         refine zAK ?_
         refine zAA rfl (.r rfl (zAW rfl rfl rfl (by omega)) (.m rfl rfl .nil)) ?_
         refine nxt (Q := fun _ _ => False) (z := i) (i + 1) ?_ ?_ ?_
         ·
          show (i + 1) ≤ f.bits.size ∧ zDI f.bits 127 (i + 1)
          exact ⟨by omega, zEX hS hb (by omega)⟩
         ·
          show f.bits.size - (i + 1) < f.bits.size - i
          omega
         · exact zAJ ⟨rfl, rfl, (zAE (by omega)), trivial⟩ ⟨rfl, trivial⟩ trivial rfl
       ·
        replace h9 := of_decide_eq_false h9
        refine zAi ?_
        refine zAB (zAA rfl (.a rfl rfl .nil) ?_)
        refine zAI ?_
        exact ends [_] [] (.cons (.tmp (zAG (by rw [zGv h5]; simp [h6', h7', h8, zId hS (by omega)]))) .nil) (.cons (.one .v (.v _)) .nil) (by decide) trivial
     ·
      have h7' := h7
      replace h7' : (zAl f.seed 0 3) = false := zAm h7'
      refine zAA rfl (.r rfl (zAC rfl rfl underlying62 rfl sizeOf2 (by decide)) (.r rfl (zAD rfl rfl rfl isAgg2 rfl) (.r rfl (zAL (zB2 rfl rfl rfl) (zAG h6)) (.m rfl rfl (.r rfl (zAC rfl rfl underlying62 rfl sizeOf2 (by decide)) (.r rfl (zAD rfl rfl rfl isAgg2 rfl) (.run [3500] [] rfl (zAF rfl 3500 (X := []) en65 rfl (.val nod) (.cons (.one (.bor .v)) (.cons (.one (.bor .v)) (.cons (.one (.bor .v)) .nil))) (by decide) all_nil .nil (zBW f.seed 0 3) rfl rfl (nle rfl)) (.r rfl (zAL (zAa (b := zAl f.seed 0 3) rfl rfl) (zAG h7)) (.r rfl (zAg rfl rfl) (.m rfl rfl (.not rfl (.not rfl (.not rfl (.not rfl (.not rfl (.r rfl (zAo rfl rfl) .nil)))))))))))))))) ?_
      refine zAT (t := true) rfl (fun _ => ?_) (fun h => nomatch h)
      refine zAB ?_
      refine zAO (s' := mk [] [] []) ?_ ?_
      · exact zAJ trivial trivial trivial rfl
      refine zAA rfl (.a rfl rfl .nil) ?_
      refine zAI ?_
      exact ends [_] [] (.cons (.tmp (zAG (by rw [zGv h5]; simp [h6', h7']))) .nil) (.cons (.one .v (.v _)) .nil) (by decide) trivial
    ·
     have h6' := h6
     replace h6' : ¬ (f.probes = 0) := of_decide_eq_false (zAm h6')
     refine zAA rfl (.r rfl (zAC rfl rfl underlying62 rfl sizeOf2 (by decide)) (.r rfl (zAD rfl rfl rfl isAgg2 rfl) (.r rfl (zAL (zB2 rfl rfl rfl) (zAG h6)) (.m rfl rfl (.not rfl (.not rfl (.not rfl (.not rfl (.r rfl (zAo rfl rfl) (.m rfl rfl (.not rfl (.not rfl (.not rfl (.not rfl (.not rfl (.r rfl (zAo rfl rfl) .nil)))))))))))))))) ?_
     refine zAT (t := true) rfl (fun _ => ?_) (fun h => nomatch h)
     refine zAB ?_
     refine zAO (s' := mk [] [] []) ?_ ?_
     · exact zAJ trivial trivial trivial rfl
     refine zAA rfl (.a rfl rfl .nil) ?_
     refine zAI ?_
     exact ends [_] [] (.cons (.tmp (zAG (by rw [zGv h5]; simp [h6']))) .nil) (.cons (.one .v (.v _)) .nil) (by decide) trivial
   ·
    replace h5 := of_decide_eq_false h5
    refine zAK ?_
    refine zAB (zAA rfl (.a rfl rfl .nil) ?_)
    refine zAI ?_
    exact ends [_] [] (.cons (.tmp (zAG (fok_x h1 h2 h5))) .nil) (.cons (.one .v (.v _)) .nil) (by decide) trivial
theorem zH4 (f : Flt) (hf : f.bits.size ≤ 9000000000000000000) : Con Tryd.prog 61 [.agg [PV.v (.int .i64 f.kind), PV.v (.int .i64 f.seed), PV.v (.int .i64 f.probes), PV.v (.string f.bits)]] [] [.one (.v (.bool (zBF f)))] := by
 refine zAR func61 rfl rfl rfl rfl ?_
 refine zAB (zAA rfl (.run [] [1] rfl (zB9 rfl 1 rfl rfl (by decide) rfl (by decide)) (.a rfl rfl .nil)) ?_)
 refine zAB ?_
 refine zAB (zAA rfl (.r rfl (zAC rfl rfl underlying62 rfl sizeOf2 (by decide)) (.r rfl (zAD rfl rfl rfl isAgg2 rfl) .nil)) ?_)
 refine zAS ?_
 refine zAB (zAA rfl (.r rfl (zBB rfl rfl rfl) (.a rfl rfl .nil)) ?_)
 refine zAT (t := decide (f.kind = 0)) rfl (fun h1 => ?_) (fun h1 => ?_)
 ·
  replace h1 := of_decide_eq_true h1
  refine zAB (zAA rfl (.r rfl (zAZ rfl rfl rfl isAgg62 sizeOf62 (nle rfl)) (.r rfl (zAw (pl := [(0, 1), (1, 1), (2, 1), (3, 1)]) rfl underlying62 zC5 (by kernel_rfl) rfl rfl) (.r rfl (zJ0 rfl rfl rfl rfl rfl Tryd.eqGuardType62 (fun w => zLZ f (⟨0, 0, 0, ⟨#[]⟩⟩ : Flt) w)) (.a rfl rfl .nil)))) ?_)
  refine zAI ?_
  exact ends [_] [] (.cons (.tmp (zAG (fok_0 h1))) .nil) (.cons (.one .v (.v _)) .nil) (by decide) trivial
 ·
  replace h1 := of_decide_eq_false h1
  refine zAB (zAA rfl (.r rfl (zBB rfl rfl rfl) (.a rfl rfl .nil)) ?_)
  refine zAT (t := decide (f.kind = 1)) rfl (fun h2 => ?_) (fun h2 => ?_)
  ·
   replace h2 := of_decide_eq_true h2
   refine zAB ?_
   refine zAO (s' := mk [(1, .ptr 1 0)] [(1, [.vi f.kind, .vi f.seed, .vi f.probes, .vs f.bits])] []) ?_ ?_
   · exact zAJ ⟨rfl, trivial⟩ ⟨rfl, trivial⟩ trivial rfl
   rcases bfc (decide (f.seed = 0)) with h3 | h3
   ·
    have h3' := h3
    replace h3' := of_decide_eq_false h3'
    refine zAA rfl (.r rfl (zAC rfl rfl underlying62 rfl sizeOf2 (by decide)) (.r rfl (zAD rfl rfl rfl isAgg2 rfl) (.r rfl (zAL (zBB rfl rfl rfl) (zAG h3)) (.m rfl rfl (.not rfl (.not rfl (.not rfl (.r rfl (zAg rfl rfl) (.m rfl rfl (.not rfl (.not rfl (.not rfl (.not rfl (.r rfl (zAg rfl rfl) (.a rfl rfl .nil))))))))))))))) ?_
    refine zAI ?_
    exact ends [_] [] (.cons (.tmp (zAG (by rw [zKL h2]; simp [h3']))) .nil) (.cons (.one .v (.v _)) .nil) (by decide) trivial
   ·
    have h3' := h3
    replace h3' := of_decide_eq_true h3'
    rcases bfc (zAl f.probes 1 30) with h4 | h4
    ·
     have h4' := h4
     refine zAA rfl (.r rfl (zAC rfl rfl underlying62 rfl sizeOf2 (by decide)) (.r rfl (zAD rfl rfl rfl isAgg2 rfl) (.r rfl (zAL (zBB rfl rfl rfl) (zAG h3)) (.m rfl rfl (.r rfl (zAC rfl rfl underlying62 rfl sizeOf2 (by decide)) (.r rfl (zAD rfl rfl rfl isAgg2 rfl) (.run [1900] [] rfl (zAF rfl 1900 (X := []) en53 rfl (.val nod) (.cons (.one (.bor .v)) (.cons (.one (.bor .v)) (.cons (.one (.bor .v)) .nil))) (by decide) all_nil .nil (zB0 f.probes 1 30) rfl rfl (nle rfl)) (.r rfl (zAo rfl rfl) (.r rfl (zAL (zBM rfl) (zAG h4)) (.not rfl (.not rfl (.not rfl (.not rfl (.r rfl (zAg rfl rfl) (.a rfl rfl .nil))))))))))))))) ?_
     refine zAI ?_
     exact ends [_] [] (.cons (.tmp (zAG (by rw [zKL h2]; simp [h3', h4']))) .nil) (.cons (.one .v (.v _)) .nil) (by decide) trivial
    ·
     have h4' := h4
     refine zAA rfl (.r rfl (zAC rfl rfl underlying62 rfl sizeOf2 (by decide)) (.r rfl (zAD rfl rfl rfl isAgg2 rfl) (.r rfl (zAL (zBB rfl rfl rfl) (zAG h3)) (.m rfl rfl (.r rfl (zAC rfl rfl underlying62 rfl sizeOf2 (by decide)) (.r rfl (zAD rfl rfl rfl isAgg2 rfl) (.run [1900] [] rfl (zAF rfl 1900 (X := []) en53 rfl (.val nod) (.cons (.one (.bor .v)) (.cons (.one (.bor .v)) (.cons (.one (.bor .v)) .nil))) (by decide) all_nil .nil (zB0 f.probes 1 30) rfl rfl (nle rfl)) (.r rfl (zAo rfl rfl) (.r rfl (zAL (zBM rfl) (zAG h4)) (.r rfl (zAC rfl rfl underlying62 rfl sizeOf9 (by decide)) (.r rfl (zAD rfl rfl rfl isAgg9 rfl) (.r rfl (zAP rfl rfl underlying9) (.run [2500] [] rfl (zAF rfl 2500 (X := []) en53 rfl (.val nod) (.cons (.one (.bor .v)) (.cons (.one (.bor .v)) (.cons (.one (.bor .v)) .nil))) (by decide) all_nil .nil (zB0 (f.bits.size : Int) 1 1000) rfl rfl (nle rfl)) (.r rfl (zAo rfl rfl) (.a rfl rfl .nil))))))))))))))) ?_
     refine zAI ?_
     exact ends [_] [] (.cons (.tmp (zAG (by rw [zKL h2]; simp [h3', h4']))) .nil) (.cons (.one .v (.v _)) .nil) (by decide) trivial
  ·
   replace h2 := of_decide_eq_false h2
   refine zAB (zAA rfl (.r rfl (zBB rfl rfl rfl) (.a rfl rfl .nil)) ?_)
   refine zAT (t := decide (f.kind = 2)) rfl (fun h5 => ?_) (fun h5 => ?_)
   ·
    replace h5 := of_decide_eq_true h5
    refine zAB ?_
    refine zAB ?_
    refine zAO (s' := mk [(1, .ptr 1 0)] [(1, [.vi f.kind, .vi f.seed, .vi f.probes, .vs f.bits])] []) ?_ ?_
    · exact zAJ ⟨rfl, trivial⟩ ⟨rfl, trivial⟩ trivial rfl
    rcases bfc (!(decide (f.probes = 0))) with h6 | h6
    ·
     have h6' := h6
     replace h6' : f.probes = 0 := of_decide_eq_true (zAn h6')
     rcases bfc (!(zAl f.seed 0 3)) with h7 | h7
     ·
      have h7' := h7
      replace h7' : (zAl f.seed 0 3) = true := zAn h7'
      refine zAA rfl (.r rfl (zAC rfl rfl underlying62 rfl sizeOf2 (by decide)) (.r rfl (zAD rfl rfl rfl isAgg2 rfl) (.r rfl (zAL (zB2 rfl rfl rfl) (zAG h6)) (.m rfl rfl (.r rfl (zAC rfl rfl underlying62 rfl sizeOf2 (by decide)) (.r rfl (zAD rfl rfl rfl isAgg2 rfl) (.run [3500] [] rfl (zAF rfl 3500 (X := []) en53 rfl (.val nod) (.cons (.one (.bor .v)) (.cons (.one (.bor .v)) (.cons (.one (.bor .v)) .nil))) (by decide) all_nil .nil (zB0 f.seed 0 3) rfl rfl (nle rfl)) (.r rfl (zAL (zAa (b := zAl f.seed 0 3) rfl rfl) (zAG h7)) (.r rfl (zAg rfl rfl) (.m rfl rfl (.r rfl (zAC rfl rfl underlying62 rfl sizeOf9 (by decide)) (.r rfl (zAD rfl rfl rfl isAgg9 rfl) (.r rfl (zAP rfl rfl underlying9) (.run [4200] [] rfl (zAF rfl 4200 (X := []) en53 rfl (.val nod) (.cons (.one (.bor .v)) (.cons (.one (.bor .v)) (.cons (.one (.bor .v)) .nil))) (by decide) all_nil .nil (zB0 (f.bits.size : Int) 20 600) rfl rfl (nle rfl)) (.r rfl (zAa (b := zAl (f.bits.size : Int) 20 600) rfl rfl) (.r rfl (zAg rfl rfl) .nil)))))))))))))))) ?_
      refine zAT (t := (!(zAl (f.bits.size : Int) 20 600))) rfl (fun h8 => ?_) (fun h8 => ?_)
      ·
       replace h8 : (zAl (f.bits.size : Int) 20 600) = false := zAm h8
       refine zAB ?_
       refine zAO (s' := mk [] [] []) ?_ ?_
       · exact zAJ trivial trivial trivial rfl
       refine zAA rfl (.a rfl rfl .nil) ?_
       refine zAI ?_
       exact ends [_] [] (.cons (.tmp (zAG (by rw [zGv h5]; simp [h6', h7', h8]))) .nil) (.cons (.one .v (.v _)) .nil) (by decide) trivial
      ·
       replace h8 : (zAl (f.bits.size : Int) 20 600) = true := zAn h8
       refine zAK ?_
       refine zAB ?_
       refine zAB ?_
       refine zAO (s' := mk [(1, .ptr 1 0)] [(1, [.vi f.kind, .vi f.seed, .vi f.probes, .vs f.bits])] []) ?_ ?_
       · exact zAJ ⟨rfl, trivial⟩ ⟨rfl, trivial⟩ trivial rfl
       refine zAA rfl (.a rfl rfl .nil) ?_
       refine zAS ?_
       refine zAj (σ := Nat) (fun i => mk [(1, .ptr 1 0), (3, .vi (i:Int))] [(1, [.vi f.kind, .vi f.seed, .vi f.probes, .vs f.bits])] []) (fun i => i ≤ f.bits.size ∧ zDI f.bits 127 i) (fun i => f.bits.size - i) 0 ⟨Nat.zero_le _, zEW _ _⟩ (zAJ ⟨rfl, (zAE (by omega)), trivial⟩ ⟨rfl, trivial⟩ trivial rfl) ?_
       rintro i hG
       replace hG : i ≤ f.bits.size ∧ zDI f.bits 127 i := hG
       obtain ⟨hi, hS⟩ := hG
       refine zAB ?_
       refine zAB (zAA rfl (.m rfl rfl (.r rfl (zAC rfl rfl underlying62 rfl sizeOf9 (by decide)) (.r rfl (zAD rfl rfl rfl isAgg9 rfl) (.r rfl (zAP rfl rfl underlying9) (.r rfl (zAt rfl rfl rfl) .nil))))) ?_)
       refine zAT (t := decide ((i:Int) < (f.bits.size : Int))) rfl (fun h9 => ?_) (fun h9 => ?_)
       ·
        replace h9 := of_decide_eq_true h9
        refine zAK ?_
        refine zAB ?_
        refine zAS ?_
        refine zAB ?_
        obtain ⟨b, hb⟩ : ∃ b : UInt8, f.bits[i]? = some b := ⟨_, getElem?_pos f.bits i (by omega)⟩
        refine zAA rfl (.r rfl (zAC rfl rfl underlying62 rfl sizeOf9 (by decide)) (.r rfl (zAD rfl rfl rfl isAgg9 rfl) (.m rfl rfl (.r rfl (zBX rfl rfl rfl underlying9 (by omega) hb) (.r rfl (zBE rfl rfl rfl) .nil))))) ?_
        refine zAT (t := decide (127 < (b.toNat : Int))) rfl (fun h10 => ?_) (fun h10 => ?_)
        ·
         replace h10 := of_decide_eq_true h10
         refine zAB (zAA rfl (.a rfl rfl .nil) ?_)
         refine zAI ?_
         exact ends [_] [] (.cons (.tmp (zAG (by rw [zGv h5]; simp [h6', h7', h8, zLX (m := 127) hb (by omega)]))) .nil) (.cons (.one .v (.v _)) .nil) (by decide) trivial
        ·
         replace h10 := of_decide_eq_false h10
         refine zAK ?_
         refine zAA rfl (.m rfl rfl (.r rfl (zAW rfl rfl rfl (by omega)) (.a rfl rfl .nil))) ?_
         refine nxt (Q := fun _ _ => False) (z := i) (i + 1) ?_ ?_ ?_
         ·
          show (i + 1) ≤ f.bits.size ∧ zDI f.bits 127 (i + 1)
          exact ⟨by omega, zEX hS hb (by omega)⟩
         ·
          show f.bits.size - (i + 1) < f.bits.size - i
          omega
         · exact zAJ ⟨rfl, (zAE (by omega)), trivial⟩ ⟨rfl, trivial⟩ trivial rfl
       ·
        replace h9 := of_decide_eq_false h9
        refine zAi ?_
        refine zAB (zAA rfl (.a rfl rfl .nil) ?_)
        refine zAI ?_
        exact ends [_] [] (.cons (.tmp (zAG (by rw [zGv h5]; simp [h6', h7', h8, zId hS (by omega)]))) .nil) (.cons (.one .v (.v _)) .nil) (by decide) trivial
     ·
      have h7' := h7
      replace h7' : (zAl f.seed 0 3) = false := zAm h7'
      refine zAA rfl (.r rfl (zAC rfl rfl underlying62 rfl sizeOf2 (by decide)) (.r rfl (zAD rfl rfl rfl isAgg2 rfl) (.r rfl (zAL (zB2 rfl rfl rfl) (zAG h6)) (.m rfl rfl (.r rfl (zAC rfl rfl underlying62 rfl sizeOf2 (by decide)) (.r rfl (zAD rfl rfl rfl isAgg2 rfl) (.run [3500] [] rfl (zAF rfl 3500 (X := []) en53 rfl (.val nod) (.cons (.one (.bor .v)) (.cons (.one (.bor .v)) (.cons (.one (.bor .v)) .nil))) (by decide) all_nil .nil (zB0 f.seed 0 3) rfl rfl (nle rfl)) (.r rfl (zAL (zAa (b := zAl f.seed 0 3) rfl rfl) (zAG h7)) (.r rfl (zAg rfl rfl) (.m rfl rfl (.not rfl (.not rfl (.not rfl (.not rfl (.not rfl (.r rfl (zAo rfl rfl) .nil)))))))))))))))) ?_
      refine zAT (t := true) rfl (fun _ => ?_) (fun h => nomatch h)
      refine zAB ?_
      refine zAO (s' := mk [] [] []) ?_ ?_
      · exact zAJ trivial trivial trivial rfl
      refine zAA rfl (.a rfl rfl .nil) ?_
      refine zAI ?_
      exact ends [_] [] (.cons (.tmp (zAG (by rw [zGv h5]; simp [h6', h7']))) .nil) (.cons (.one .v (.v _)) .nil) (by decide) trivial
    ·
     have h6' := h6
     replace h6' : ¬ (f.probes = 0) := of_decide_eq_false (zAm h6')
     refine zAA rfl (.r rfl (zAC rfl rfl underlying62 rfl sizeOf2 (by decide)) (.r rfl (zAD rfl rfl rfl isAgg2 rfl) (.r rfl (zAL (zB2 rfl rfl rfl) (zAG h6)) (.m rfl rfl (.not rfl (.not rfl (.not rfl (.not rfl (.r rfl (zAo rfl rfl) (.m rfl rfl (.not rfl (.not rfl (.not rfl (.not rfl (.not rfl (.r rfl (zAo rfl rfl) .nil)))))))))))))))) ?_
     refine zAT (t := true) rfl (fun _ => ?_) (fun h => nomatch h)
     refine zAB ?_
     refine zAO (s' := mk [] [] []) ?_ ?_
     · exact zAJ trivial trivial trivial rfl
     refine zAA rfl (.a rfl rfl .nil) ?_
     refine zAI ?_
     exact ends [_] [] (.cons (.tmp (zAG (by rw [zGv h5]; simp [h6']))) .nil) (.cons (.one .v (.v _)) .nil) (by decide) trivial
   ·
    replace h5 := of_decide_eq_false h5
    refine zAK ?_
    refine zAB (zAA rfl (.a rfl rfl .nil) ?_)
    refine zAI ?_
    exact ends [_] [] (.cons (.tmp (zAG (fok_x h1 h2 h5))) .nil) (.cons (.one .v (.v _)) .nil) (by decide) trivial
theorem zHH (f : Flt) (hf : f.bits.size ≤ 4000000000000000000) : Con Tryd.prog 73 [.agg [PV.v (.int .i64 f.kind), PV.v (.int .i64 f.seed), PV.v (.int .i64 f.probes), PV.v (.string f.bits)]] [] [.one (.v (.string (zB8 f)))] := by
 refine zAR func73 rfl rfl rfl rfl ?_
 refine zAB (zAA rfl (.run [] [1] rfl (zB9 rfl 1 rfl rfl (by decide) rfl (by decide)) (.a rfl rfl .nil)) ?_)
 refine zAB ?_
 refine zAB (zAA rfl (.r rfl (zAZ rfl rfl rfl isAgg62 sizeOf62 (nle rfl)) (.run [400] [] rfl (zAF rfl 400 (X := []) en104 rfl (.val nod) (.cons (.agg (.cons (.bor .v) (.cons (.bor .v) (.cons (.bor .v) (.cons (.bor .v) .nil))))) .nil) (by decide) all_nil .nil (zFo f (by omega)) rfl rfl (nle rfl)) (.r rfl (zAa (b := zBF f) rfl rfl) .nil))) ?_)
 refine zAT (t := (!(zBF f))) rfl (fun h1 => ?_) (fun h1 => ?_)
 ·
  replace h1 : (zBF f) = false := zAm h1
  refine zAB (zAA rfl (.a rfl rfl .nil) ?_)
  refine zAI ?_
  exact ends [_] [] (.cons (.tmp (zA3 (zFd h1))) .nil) (.cons (.one .v (.v _)) .nil) (by decide) trivial
 ·
  replace h1 : (zBF f) = true := zAn h1
  refine zAK ?_
  refine zAB ?_
  have hn := zIQ h1
  have hp0 := zA5 (n := f.kind.toNat) (by omega)
  have hp1 := zA5 (n := f.seed.toNat) (by omega)
  have hp2 := zA5 (n := f.probes.toNat) (by omega)
  have hp3 := zBT (s := f.bits) (by omega)
  refine zAO (s' := mk [(1, .ptr 1 0)] [(1, [.vi f.kind, .vi f.seed, .vi f.probes, .vs f.bits])] []) ?_ ?_
  · exact zAJ ⟨rfl, trivial⟩ ⟨rfl, trivial⟩ trivial rfl
  refine zAb zBh rfl (.r rfl (zAC rfl rfl underlying62 rfl sizeOf2 (by decide)) (.r rfl (zAD rfl rfl rfl isAgg2 rfl) (.run [800] [] rfl (zAF rfl 800 (X := []) en67 rfl (.val nod) (.cons (.one (.bor .v)) .nil) (by decide) all_nil .nil (zCD f.kind (by omega) (by omega)) rfl rfl (nle rfl)) (.r rfl (zAC rfl rfl underlying62 rfl sizeOf2 (by decide)) (.r rfl (zAD rfl rfl rfl isAgg2 rfl) (.run [1100] [] rfl (zAF rfl 1100 (X := []) en67 rfl (.val nod) (.cons (.one (.bor .v)) .nil) (by decide) all_nil .nil (zCD f.seed (by omega) (by omega)) rfl rfl (nle rfl)) (.r rfl (zAu rfl rfl rfl (by first | omega | (simp only [zAY, zAU]; omega))) (.r rfl (zAC rfl rfl underlying62 rfl sizeOf2 (by decide)) (.r rfl (zAD rfl rfl rfl isAgg2 rfl) (.run [1500] [] rfl (zAF rfl 1500 (X := []) en67 rfl (.val nod) (.cons (.one (.bor .v)) .nil) (by decide) all_nil .nil (zCD f.probes (by omega) (by omega)) rfl rfl (nle rfl)) (.r rfl (zAu rfl rfl rfl (by first | omega | (simp only [zAY, zAU]; omega))) (.r rfl (zAC rfl rfl underlying62 rfl sizeOf9 (by decide)) (.r rfl (zAD rfl rfl rfl isAgg9 rfl) (.run [1900] [] rfl (zAF rfl 1900 (X := []) en68 rfl (.val nod) (.cons (.one (.bor .v)) .nil) (by decide) all_nil .nil (zCW f.bits (by omega)) rfl rfl (nle rfl)) (.r rfl (zAu rfl rfl rfl (by first | omega | (simp only [zAY, zAU]; omega))) (.a rfl rfl .nil)))))))))))))))) (by kernel_rfl) ?_
  refine zAI ?_
  exact ends [_] [] (.cons (.tmp (zA3 (zE3 h1))) .nil) (.cons (.one .v (.v _)) .nil) (by decide) trivial
theorem zGS (f : Flt) (hf : f.bits.size ≤ 4000000000000000000) : Con Tryd.prog 34 [.agg [PV.v (.int .i64 f.kind), PV.v (.int .i64 f.seed), PV.v (.int .i64 f.probes), PV.v (.string f.bits)]] [] [.one (.v (.string (zB8 f)))] := by
 refine zAR func34 rfl rfl rfl rfl ?_
 refine zAB (zAA rfl (.run [] [1] rfl (zB9 rfl 1 rfl rfl (by decide) rfl (by decide)) (.a rfl rfl .nil)) ?_)
 refine zAB ?_
 refine zAB (zAA rfl (.r rfl (zAZ rfl rfl rfl isAgg62 sizeOf62 (nle rfl)) (.run [400] [] rfl (zAF rfl 400 (X := []) en61 rfl (.val nod) (.cons (.agg (.cons (.bor .v) (.cons (.bor .v) (.cons (.bor .v) (.cons (.bor .v) .nil))))) .nil) (by decide) all_nil .nil (zH4 f (by omega)) rfl rfl (nle rfl)) (.r rfl (zAa (b := zBF f) rfl rfl) .nil))) ?_)
 refine zAT (t := (!(zBF f))) rfl (fun h1 => ?_) (fun h1 => ?_)
 ·
  replace h1 : (zBF f) = false := zAm h1
  refine zAB (zAA rfl (.a rfl rfl .nil) ?_)
  refine zAI ?_
  exact ends [_] [] (.cons (.tmp (zA3 (zFd h1))) .nil) (.cons (.one .v (.v _)) .nil) (by decide) trivial
 ·
  replace h1 : (zBF f) = true := zAn h1
  refine zAK ?_
  refine zAB ?_
  have hn := zIQ h1
  have hp0 := zA5 (n := f.kind.toNat) (by omega)
  have hp1 := zA5 (n := f.seed.toNat) (by omega)
  have hp2 := zA5 (n := f.probes.toNat) (by omega)
  have hp3 := zBT (s := f.bits) (by omega)
  refine zAO (s' := mk [(1, .ptr 1 0)] [(1, [.vi f.kind, .vi f.seed, .vi f.probes, .vs f.bits])] []) ?_ ?_
  · exact zAJ ⟨rfl, trivial⟩ ⟨rfl, trivial⟩ trivial rfl
  refine zAb zBh rfl (.r rfl (zAC rfl rfl underlying62 rfl sizeOf2 (by decide)) (.r rfl (zAD rfl rfl rfl isAgg2 rfl) (.r rfl (zAL (zD9 rfl rfl underlying2 underlying53) ((zAE (by rw [IntKind.wrap_u64]; omega)))) (.run [900] [] rfl (zAF rfl 900 (X := []) en26 rfl (.val nod) (.cons (.one (.bor .v)) .nil) (by decide) all_nil .nil (zBy f.kind.toNat (by omega)) rfl rfl (nle rfl)) (.r rfl (zAC rfl rfl underlying62 rfl sizeOf2 (by decide)) (.r rfl (zAD rfl rfl rfl isAgg2 rfl) (.r rfl (zAL (zD9 rfl rfl underlying2 underlying53) ((zAE (by rw [IntKind.wrap_u64]; omega)))) (.run [1300] [] rfl (zAF rfl 1300 (X := []) en26 rfl (.val nod) (.cons (.one (.bor .v)) .nil) (by decide) all_nil .nil (zBy f.seed.toNat (by omega)) rfl rfl (nle rfl)) (.r rfl (zAu rfl rfl rfl (by first | omega | (simp only [zAY, zAU]; omega))) (.r rfl (zAC rfl rfl underlying62 rfl sizeOf2 (by decide)) (.r rfl (zAD rfl rfl rfl isAgg2 rfl) (.r rfl (zAL (zD9 rfl rfl underlying2 underlying53) ((zAE (by rw [IntKind.wrap_u64]; omega)))) (.run [1800] [] rfl (zAF rfl 1800 (X := []) en26 rfl (.val nod) (.cons (.one (.bor .v)) .nil) (by decide) all_nil .nil (zBy f.probes.toNat (by omega)) rfl rfl (nle rfl)) (.r rfl (zAu rfl rfl rfl (by first | omega | (simp only [zAY, zAU]; omega))) (.r rfl (zAC rfl rfl underlying62 rfl sizeOf9 (by decide)) (.r rfl (zAD rfl rfl rfl isAgg9 rfl) (.run [2200] [] rfl (zAF rfl 2200 (X := []) en27 rfl (.val nod) (.cons (.one (.bor .v)) .nil) (by decide) all_nil .nil (zCI f.bits (by omega)) rfl rfl (nle rfl)) (.r rfl (zAu rfl rfl rfl (by first | omega | (simp only [zAY, zAU]; omega))) (.a rfl rfl .nil))))))))))))))))))) (by kernel_rfl) ?_
  refine zAI ?_
  exact ends [_] [] (.cons (.tmp (zA3 (zE3 h1))) .nil) (.cons (.one .v (.v _)) .nil) (by decide) trivial
theorem zJP (us : List ByteArray) (kd : Nat) (hkd : kd ≤ 2) (hu : ∀ u ∈ us, zBd u = true) (hn : us.length ≤ 400) : Con Tryd.prog 72 [.one (PV.sl false 1 (pvT us)), .one (PV.v (.int .i64 (kd:Int)))] [] [.agg [.v (.int .i64 (zA6 us (kd : Int)).kind), .v (.int .i64 (zA6 us (kd : Int)).seed), .v (.int .i64 (zA6 us (kd : Int)).probes), .v (.string (zA6 us (kd : Int)).bits)], .one (.v (.bool true))] := by
 refine zAR func72 rfl rfl rfl rfl ?_
 refine zAB (zAA rfl (.run [] [4] rfl (zBA rfl 4 zC5 rfl (by decide) rfl (by decide)) (.a rfl rfl .nil)) ?_)
 refine zAB ?_
 refine zAB (zAA rfl (.m rfl rfl (.run [1000] [] rfl (zAF rfl 1000 (X := []) zOc rfl (.val nod) (.cons (.one (.bor (.sl nod))) .nil) (by decide) all_nil .nil (zD0 us (by assumption) (by omega)) rfl rfl (nle rfl)) (.r rfl (zAa (b := true) rfl rfl) (.m rfl rfl (.m rfl rfl (.run [1400] [] rfl (zAF rfl 1400 (X := []) en65 rfl (.val nod) (.cons (.one (.bor .v)) (.cons (.one (.bor .v)) (.cons (.one (.bor .v)) .nil))) (by decide) all_nil .nil (zBW (kd:Int) 0 2) rfl rfl (nle rfl)) (.r rfl (zAa (b := zAl (kd:Int) 0 2) rfl rfl) (.r rfl (zAg rfl rfl) .nil)))))))) ?_)
 refine zAT (t := (!(zAl (kd:Int) 0 2))) rfl (fun h1 => ?_) (fun h1 => ?_)
 ·
  replace h1 : (zAl (kd:Int) 0 2) = false := zAm h1
  rw [show zAl (kd : Int) 0 2 = true by simp only [zAl, Bool.and_eq_true, decide_eq_true_eq]; omega] at h1; cases h1
 ·
  replace h1 : (zAl (kd:Int) 0 2) = true := zAn h1
  refine zAK ?_
  refine zAB ?_
  refine zAB (zAA rfl (.m rfl rfl (.r rfl (zBB rfl rfl rfl) .nil)) ?_)
  refine zAT (t := decide ((kd:Int) = 0)) rfl (fun h2 => ?_) (fun h2 => ?_)
  ·
   replace h2 := of_decide_eq_true h2
   refine zAB ?_
   have hZ : zA6 us (kd : Int) = (⟨0, 0, 0, ⟨#[]⟩⟩ : Flt) := by rw [zA6, if_pos (by omega)]; rfl
   rw [hZ]
   refine zAA rfl (.r rfl (zAw (pl := [(0, 1), (1, 1), (2, 1), (3, 1)]) rfl underlying62 zC5 (by kernel_rfl) rfl rfl) (.r rfl (zAN rfl rfl rfl rfl rfl sizeOf62 rfl (nle rfl)) (.a rfl rfl .nil))) ?_
   refine zAI ?_
   exact ends [_, _] [] (.cons (.cell rfl rfl isAgg62 sizeOf62 (nle rfl)) (.cons (.tmp rfl) .nil)) (.cons (.agg (.cons .v (.cons .v (.cons .v (.cons .v .nil)))) (zAM (.v _) (zAM (.v _) (zAM (.v _) (zAM (.v _) zBQ))))) (.cons (.one .v (.v _)) .nil)) (by decide) trivial
  ·
   replace h2 := of_decide_eq_false h2
   refine zAK ?_
   refine zAB ?_
   refine zAB (zAA rfl (.a rfl rfl .nil) ?_)
   refine zAS ?_
   refine zAj (σ := Nat) (fun n => mk [(0, .p none (.sl false 1 (pvT us))), (1, .vi (kd:Int)), (4, .ptr 4 0), (6, .vi (n:Int))] [(4, [.vi 0, .vi 0, .vi 0, .vs ⟨#[]⟩])] []) (fun n => n ≤ 4 ∧ (kd = 2 → zCb us n = none)) (fun n => 4 - n) 0 ⟨Nat.zero_le _, fun _ => rfl⟩ (zAJ ⟨rfl, rfl, rfl, (zAE (by omega)), trivial⟩ ⟨rfl, trivial⟩ trivial rfl) ?_
   rintro n hG
   replace hG : n ≤ 4 ∧ (kd = 2 → zCb us n = none) := hG
   obtain ⟨hn4, hR⟩ := hG
   refine zAB ?_
   refine zAB ?_
   rcases bfc (decide ((kd:Int) = 2)) with h3 | h3
   ·
    have h3' := h3
    replace h3' := of_decide_eq_false h3'
    refine zAA rfl (.m rfl rfl (.r rfl (zAL (zBB rfl rfl rfl) (zAG h3)) (.m rfl rfl (.not rfl (.not rfl (.r rfl (zAg rfl rfl) .nil)))))) ?_
    refine zAT (t := false) rfl (fun h => nomatch h) (fun _ => ?_)
    refine zAi ?_
    refine zAB ?_
    have hZ : zA6 us (kd : Int) = zDD us := (zDK (by omega) (fun q => by first | exact absurd q (by omega) | (have h4 := hR (by omega); rwa [show n = 4 by omega] at h4))).symm
    rw [hZ]
    refine zAA rfl (.m rfl rfl (.run [3800, 3801, 3802, 3803, 3804] [] rfl (zAF rfl 3800 (X := []) en103 rfl (.val nod) (.cons (.one (.bor (.sl nod))) (.cons (.one (.bor .v)) .nil)) (by decide) all_nil .nil (zG3 us (by assumption) (by omega)) rfl rfl (nle rfl)) (.r rfl (zAH rfl rfl rfl) (.r rfl (zAH rfl rfl rfl) (.r rfl (zAN rfl rfl rfl rfl rfl sizeOf62 rfl (nle rfl)) (.a rfl rfl .nil)))))) ?_
    refine zAI ?_
    exact ends [_, _] [] (.cons (.cell rfl rfl isAgg62 sizeOf62 (nle rfl)) (.cons (.tmp rfl) .nil)) (.cons (.agg (.cons .v (.cons .v (.cons .v (.cons .v .nil)))) (zAM (.v _) (zAM (.v _) (zAM (.v _) (zAM (.v _) zBQ))))) (.cons (.one .v (.v _)) .nil)) (by decide) trivial
   ·
    have h3' := h3
    replace h3' := of_decide_eq_true h3'
    refine zAA rfl (.m rfl rfl (.r rfl (zAL (zBB rfl rfl rfl) (zAG h3)) (.m rfl rfl (.m rfl rfl (.r rfl (zAt rfl rfl rfl) (.r rfl (zAo rfl rfl) .nil)))))) ?_
    refine zAT (t := decide ((n:Int) < 4)) rfl (fun h4 => ?_) (fun h4 => ?_)
    ·
     replace h4 := of_decide_eq_true h4
     refine zAK ?_
     refine zAB ?_
     refine zAS ?_
     refine zAB (zAA rfl (.m rfl rfl (.m rfl rfl (.run [3200, 3201, 3202, 3203, 3204] [] rfl (zAF rfl 3200 (X := []) en102 rfl (.val nod) (.cons (.one (.bor (.sl nod))) (.cons (.one (.bor .v)) .nil)) (by decide) all_nil .nil (zIz us n (by omega) hu hn) rfl rfl (nle rfl)) (.m rfl rfl (.r rfl (zAH rfl rfl rfl) (.r rfl (zAH rfl rfl rfl) (.run [] [7] rfl (zBA rfl 7 zC5 rfl (by decide) rfl (by decide)) (.r rfl (zAN rfl rfl rfl rfl rfl sizeOf62 rfl (nle rfl)) (.a rfl rfl .nil))))))))) ?_)
     refine zAB (zAA rfl (.m rfl rfl .nil) ?_)
     refine zAT (t := (zBR us n).isSome) rfl (fun h5 => ?_) (fun h5 => ?_)
     ·
      refine zAB ?_
      have hZ : zA6 us (kd : Int) = (zBR us n).getD .zero := by rw [show (kd : Int) = 2 by omega]; exact (zHV (hR (by omega)) h5 (by omega)).symm
      rw [hZ]
      refine zAO (s' := mk [(4, .ptr 4 0), (7, .ptr 7 0)] [(4, [.vi 0, .vi 0, .vi 0, .vs ⟨#[]⟩]), (7, [.vi (((zBR us n).getD .zero).kind), .vi (((zBR us n).getD .zero).seed), .vi (((zBR us n).getD .zero).probes), .vs (((zBR us n).getD .zero).bits)])] []) ?_ ?_
      · exact zAJ ⟨rfl, rfl, trivial⟩ ⟨rfl, rfl, trivial⟩ trivial rfl
      refine zAA rfl (.r rfl (zAZ rfl rfl rfl isAgg62 sizeOf62 (nle rfl)) (.r rfl (zAN rfl rfl rfl rfl rfl sizeOf62 rfl (nle rfl)) (.a rfl rfl .nil))) ?_
      refine zAI ?_
      exact ends [_, _] [] (.cons (.cell rfl rfl isAgg62 sizeOf62 (nle rfl)) (.cons (.tmp rfl) .nil)) (.cons (.agg (.cons .v (.cons .v (.cons .v (.cons .v .nil)))) (zAM (.v _) (zAM (.v _) (zAM (.v _) (zAM (.v _) zBQ))))) (.cons (.one .v (.v _)) .nil)) (by decide) trivial
     ·
      refine zAK ?_
      refine zAO (s' := mk [(0, .p none (.sl false 1 (pvT us))), (1, .vi (kd:Int)), (4, .ptr 4 0), (6, .vi (n:Int)), (24, .vi (n:Int)), (25, .vb (decide ((n:Int) < 4)))] [(4, [.vi 0, .vi 0, .vi 0, .vs ⟨#[]⟩])] []) ?_ ?_
      · exact zAJ ⟨rfl, rfl, rfl, rfl, rfl, rfl, trivial⟩ ⟨rfl, trivial⟩ trivial rfl
      refine zAA rfl (.m rfl rfl (.r rfl (zAW rfl rfl rfl (by omega)) (.a rfl rfl .nil))) ?_
      refine nxt (Q := fun _ _ => False) (z := n) (n + 1) ?_ ?_ ?_
      ·
       show (n + 1) ≤ 4 ∧ (kd = 2 → zCb us (n + 1) = none)
       exact ⟨by omega, fun q => zGX (hR q) h5⟩
      ·
       show 4 - (n + 1) < 4 - n
       omega
      · exact zAJ ⟨rfl, rfl, rfl, (zAE (by omega)), trivial⟩ ⟨rfl, trivial⟩ trivial rfl
    ·
     replace h4 := of_decide_eq_false h4
     refine zAi ?_
     refine zAB ?_
     have hZ : zA6 us (kd : Int) = zDD us := (zDK (by omega) (fun q => by first | exact absurd q (by omega) | (have h4 := hR (by omega); rwa [show n = 4 by omega] at h4))).symm
     rw [hZ]
     refine zAA rfl (.m rfl rfl (.run [3800, 3801, 3802, 3803, 3804] [] rfl (zAF rfl 3800 (X := []) en103 rfl (.val nod) (.cons (.one (.bor (.sl nod))) (.cons (.one (.bor .v)) .nil)) (by decide) all_nil .nil (zG3 us (by assumption) (by omega)) rfl rfl (nle rfl)) (.r rfl (zAH rfl rfl rfl) (.r rfl (zAH rfl rfl rfl) (.r rfl (zAN rfl rfl rfl rfl rfl sizeOf62 rfl (nle rfl)) (.a rfl rfl .nil)))))) ?_
     refine zAI ?_
     exact ends [_, _] [] (.cons (.cell rfl rfl isAgg62 sizeOf62 (nle rfl)) (.cons (.tmp rfl) .nil)) (.cons (.agg (.cons .v (.cons .v (.cons .v (.cons .v .nil)))) (zAM (.v _) (zAM (.v _) (zAM (.v _) (zAM (.v _) zBQ))))) (.cons (.one .v (.v _)) .nil)) (by decide) trivial
theorem zH5 (us : List ByteArray) (kd : Nat) (hkd : kd ≤ 2) (hu : ∀ u ∈ us, zBd u = true) (hn : us.length ≤ 400) : Con Tryd.prog 31 [.one (PV.sl false 1 (pvT us)), .one (PV.v (.int .i64 (kd:Int)))] [] [.agg [.v (.int .i64 (zA6 us (kd : Int)).kind), .v (.int .i64 (zA6 us (kd : Int)).seed), .v (.int .i64 (zA6 us (kd : Int)).probes), .v (.string (zA6 us (kd : Int)).bits)], .one (.v (.bool true))] := by
 refine zAR func31 rfl rfl rfl rfl ?_
 refine zAB (zAA rfl (.run [] [4] rfl (zBA rfl 4 zC5 rfl (by decide) rfl (by decide)) (.a rfl rfl .nil)) ?_)
 refine zAB ?_
 refine zAB (zAA rfl (.m rfl rfl (.run [1000] [] rfl (zAF rfl 1000 (X := []) en57 rfl (.val nod) (.cons (.one (.bor (.sl nod))) .nil) (by decide) all_nil .nil (zDe us (by assumption) (by omega)) rfl rfl (nle rfl)) (.r rfl (zAa (b := true) rfl rfl) (.m rfl rfl (.m rfl rfl (.run [1400] [] rfl (zAF rfl 1400 (X := []) en53 rfl (.val nod) (.cons (.one (.bor .v)) (.cons (.one (.bor .v)) (.cons (.one (.bor .v)) .nil))) (by decide) all_nil .nil (zB0 (kd:Int) 0 2) rfl rfl (nle rfl)) (.r rfl (zAa (b := zAl (kd:Int) 0 2) rfl rfl) (.r rfl (zAg rfl rfl) .nil)))))))) ?_)
 refine zAT (t := (!(zAl (kd:Int) 0 2))) rfl (fun h1 => ?_) (fun h1 => ?_)
 ·
  replace h1 : (zAl (kd:Int) 0 2) = false := zAm h1
  rw [show zAl (kd : Int) 0 2 = true by simp only [zAl, Bool.and_eq_true, decide_eq_true_eq]; omega] at h1; cases h1
 ·
  replace h1 : (zAl (kd:Int) 0 2) = true := zAn h1
  refine zAK ?_
  refine zAB ?_
  refine zAB (zAA rfl (.m rfl rfl (.r rfl (zBB rfl rfl rfl) .nil)) ?_)
  refine zAT (t := decide ((kd:Int) = 0)) rfl (fun h2 => ?_) (fun h2 => ?_)
  ·
   replace h2 := of_decide_eq_true h2
   refine zAB ?_
   have hZ : zA6 us (kd : Int) = (⟨0, 0, 0, ⟨#[]⟩⟩ : Flt) := by rw [zA6, if_pos (by omega)]; rfl
   rw [hZ]
   refine zAA rfl (.r rfl (zAw (pl := [(0, 1), (1, 1), (2, 1), (3, 1)]) rfl underlying62 zC5 (by kernel_rfl) rfl rfl) (.r rfl (zAN rfl rfl rfl rfl rfl sizeOf62 rfl (nle rfl)) (.a rfl rfl .nil))) ?_
   refine zAI ?_
   exact ends [_, _] [] (.cons (.cell rfl rfl isAgg62 sizeOf62 (nle rfl)) (.cons (.tmp rfl) .nil)) (.cons (.agg (.cons .v (.cons .v (.cons .v (.cons .v .nil)))) (zAM (.v _) (zAM (.v _) (zAM (.v _) (zAM (.v _) zBQ))))) (.cons (.one .v (.v _)) .nil)) (by decide) trivial
  ·
   replace h2 := of_decide_eq_false h2
   refine zAK ?_
   refine zAB ?_
   refine zAB (zAA rfl (.a rfl rfl .nil) ?_)
   refine zAS ?_
   refine zAj (σ := Nat) (fun n => mk [(0, .p none (.sl false 1 (pvT us))), (1, .vi (kd:Int)), (4, .ptr 4 0), (6, .vi (n:Int))] [(4, [.vi 0, .vi 0, .vi 0, .vs ⟨#[]⟩])] []) (fun n => n ≤ 4 ∧ (kd = 2 → zCb us n = none)) (fun n => 4 - n) 0 ⟨Nat.zero_le _, fun _ => rfl⟩ (zAJ ⟨rfl, rfl, rfl, (zAE (by omega)), trivial⟩ ⟨rfl, trivial⟩ trivial rfl) ?_
   rintro n hG
   replace hG : n ≤ 4 ∧ (kd = 2 → zCb us n = none) := hG
   obtain ⟨hn4, hR⟩ := hG
   refine zAB ?_
   refine zAB ?_
   rcases bfc (decide ((kd:Int) = 2)) with h3 | h3
   ·
    have h3' := h3
    replace h3' := of_decide_eq_false h3'
    refine zAA rfl (.m rfl rfl (.r rfl (zAL (zBB rfl rfl rfl) (zAG h3)) (.m rfl rfl (.not rfl (.not rfl (.r rfl (zAg rfl rfl) .nil)))))) ?_
    refine zAT (t := false) rfl (fun h => nomatch h) (fun _ => ?_)
    refine zAi ?_
    refine zAB ?_
    have hZ : zA6 us (kd : Int) = zDD us := (zDK (by omega) (fun q => by first | exact absurd q (by omega) | (have h4 := hR (by omega); rwa [show n = 4 by omega] at h4))).symm
    rw [hZ]
    refine zAA rfl (.m rfl rfl (.run [3800, 3801, 3802, 3803, 3804] [] rfl (zAF rfl 3800 (X := []) en59 rfl (.val nod) (.cons (.one (.bor (.sl nod))) (.cons (.one (.bor .v)) .nil)) (by decide) all_nil .nil (zFk us (by assumption) (by omega)) rfl rfl (nle rfl)) (.r rfl (zAH rfl rfl rfl) (.r rfl (zAH rfl rfl rfl) (.r rfl (zAN rfl rfl rfl rfl rfl sizeOf62 rfl (nle rfl)) (.a rfl rfl .nil)))))) ?_
    refine zAI ?_
    exact ends [_, _] [] (.cons (.cell rfl rfl isAgg62 sizeOf62 (nle rfl)) (.cons (.tmp rfl) .nil)) (.cons (.agg (.cons .v (.cons .v (.cons .v (.cons .v .nil)))) (zAM (.v _) (zAM (.v _) (zAM (.v _) (zAM (.v _) zBQ))))) (.cons (.one .v (.v _)) .nil)) (by decide) trivial
   ·
    have h3' := h3
    replace h3' := of_decide_eq_true h3'
    refine zAA rfl (.m rfl rfl (.r rfl (zAL (zBB rfl rfl rfl) (zAG h3)) (.m rfl rfl (.m rfl rfl (.r rfl (zAt rfl rfl rfl) (.r rfl (zAo rfl rfl) .nil)))))) ?_
    refine zAT (t := decide ((n:Int) < 4)) rfl (fun h4 => ?_) (fun h4 => ?_)
    ·
     replace h4 := of_decide_eq_true h4
     refine zAK ?_
     refine zAB ?_
     refine zAS ?_
     refine zAB (zAA rfl (.m rfl rfl (.m rfl rfl (.run [3200, 3201, 3202, 3203, 3204] [] rfl (zAF rfl 3200 (X := []) en58 rfl (.val nod) (.cons (.one (.bor (.sl nod))) (.cons (.one (.bor .v)) .nil)) (by decide) all_nil .nil (zH1 us n (by omega) hu hn) rfl rfl (nle rfl)) (.m rfl rfl (.r rfl (zAH rfl rfl rfl) (.r rfl (zAH rfl rfl rfl) (.run [] [7] rfl (zBA rfl 7 zC5 rfl (by decide) rfl (by decide)) (.r rfl (zAN rfl rfl rfl rfl rfl sizeOf62 rfl (nle rfl)) (.a rfl rfl .nil))))))))) ?_)
     refine zAB (zAA rfl (.m rfl rfl .nil) ?_)
     refine zAT (t := (zBR us n).isSome) rfl (fun h5 => ?_) (fun h5 => ?_)
     ·
      refine zAB ?_
      have hZ : zA6 us (kd : Int) = (zBR us n).getD .zero := by rw [show (kd : Int) = 2 by omega]; exact (zHV (hR (by omega)) h5 (by omega)).symm
      rw [hZ]
      refine zAO (s' := mk [(4, .ptr 4 0), (7, .ptr 7 0)] [(4, [.vi 0, .vi 0, .vi 0, .vs ⟨#[]⟩]), (7, [.vi (((zBR us n).getD .zero).kind), .vi (((zBR us n).getD .zero).seed), .vi (((zBR us n).getD .zero).probes), .vs (((zBR us n).getD .zero).bits)])] []) ?_ ?_
      · exact zAJ ⟨rfl, rfl, trivial⟩ ⟨rfl, rfl, trivial⟩ trivial rfl
      refine zAA rfl (.r rfl (zAZ rfl rfl rfl isAgg62 sizeOf62 (nle rfl)) (.r rfl (zAN rfl rfl rfl rfl rfl sizeOf62 rfl (nle rfl)) (.a rfl rfl .nil))) ?_
      refine zAI ?_
      exact ends [_, _] [] (.cons (.cell rfl rfl isAgg62 sizeOf62 (nle rfl)) (.cons (.tmp rfl) .nil)) (.cons (.agg (.cons .v (.cons .v (.cons .v (.cons .v .nil)))) (zAM (.v _) (zAM (.v _) (zAM (.v _) (zAM (.v _) zBQ))))) (.cons (.one .v (.v _)) .nil)) (by decide) trivial
     ·
      refine zAK ?_
      refine zAO (s' := mk [(0, .p none (.sl false 1 (pvT us))), (1, .vi (kd:Int)), (4, .ptr 4 0), (6, .vi (n:Int)), (24, .vi (n:Int)), (25, .vb (decide ((n:Int) < 4)))] [(4, [.vi 0, .vi 0, .vi 0, .vs ⟨#[]⟩])] []) ?_ ?_
      · exact zAJ ⟨rfl, rfl, rfl, rfl, rfl, rfl, trivial⟩ ⟨rfl, trivial⟩ trivial rfl
      refine zAA rfl (.m rfl rfl (.r rfl (zAW rfl rfl rfl (by omega)) (.a rfl rfl .nil))) ?_
      refine nxt (Q := fun _ _ => False) (z := n) (n + 1) ?_ ?_ ?_
      ·
       show (n + 1) ≤ 4 ∧ (kd = 2 → zCb us (n + 1) = none)
       exact ⟨by omega, fun q => zGX (hR q) h5⟩
      ·
       show 4 - (n + 1) < 4 - n
       omega
      · exact zAJ ⟨rfl, rfl, rfl, (zAE (by omega)), trivial⟩ ⟨rfl, trivial⟩ trivial rfl
    ·
     replace h4 := of_decide_eq_false h4
     refine zAi ?_
     refine zAB ?_
     have hZ : zA6 us (kd : Int) = zDD us := (zDK (by omega) (fun q => by first | exact absurd q (by omega) | (have h4 := hR (by omega); rwa [show n = 4 by omega] at h4))).symm
     rw [hZ]
     refine zAA rfl (.m rfl rfl (.run [3800, 3801, 3802, 3803, 3804] [] rfl (zAF rfl 3800 (X := []) en59 rfl (.val nod) (.cons (.one (.bor (.sl nod))) (.cons (.one (.bor .v)) .nil)) (by decide) all_nil .nil (zFk us (by assumption) (by omega)) rfl rfl (nle rfl)) (.r rfl (zAH rfl rfl rfl) (.r rfl (zAH rfl rfl rfl) (.r rfl (zAN rfl rfl rfl rfl rfl sizeOf62 rfl (nle rfl)) (.a rfl rfl .nil)))))) ?_
     refine zAI ?_
     exact ends [_, _] [] (.cons (.cell rfl rfl isAgg62 sizeOf62 (nle rfl)) (.cons (.tmp rfl) .nil)) (.cons (.agg (.cons .v (.cons .v (.cons .v (.cons .v .nil)))) (zAM (.v _) (zAM (.v _) (zAM (.v _) (zAM (.v _) zBQ))))) (.cons (.one .v (.v _)) .nil)) (by decide) trivial
theorem zJ1 (p : Shp) : Con Tryd.prog 37 [.agg [PV.v (.int .i64 p.every), PV.v (.int .i64 p.size), PV.v (.int .i64 p.kind)]] [] [.one (.v (.bool (zBi p)))] := by
 refine zAR func37 rfl rfl rfl rfl ?_
 refine zAB (zAA rfl (.run [] [1] rfl (zB9 rfl 1 rfl rfl (by decide) rfl (by decide)) (.a rfl rfl .nil)) ?_)
 refine zAB ?_
 rcases bfc (zAl p.every 1 16) with h1 | h1
 ·
  have h1' := h1
  refine zAA rfl (.r rfl (zAC rfl rfl underlying30 rfl sizeOf2 (by decide)) (.r rfl (zAD rfl rfl rfl isAgg2 rfl) (.run [500] [] rfl (zAF rfl 500 (X := []) en65 rfl (.val nod) (.cons (.one (.bor .v)) (.cons (.one (.bor .v)) (.cons (.one (.bor .v)) .nil))) (by decide) all_nil .nil (zBW p.every 1 16) rfl rfl (nle rfl)) (.r rfl (zAL (zBM rfl) (zAG h1)) (.not rfl (.not rfl (.not rfl (.r rfl (zAg rfl rfl) (.m rfl rfl (.not rfl (.not rfl (.not rfl (.r rfl (zAg rfl rfl) (.a rfl rfl .nil)))))))))))))) ?_
  refine zAI ?_
  exact ends [_] [] (.cons (.tmp (zAG (by simp [zBi, h1']))) .nil) (.cons (.one .v (.v _)) .nil) (by decide) trivial
 ·
  have h1' := h1
  rcases bfc (zAl p.size 20 4000) with h2 | h2
  ·
   have h2' := h2
   refine zAA rfl (.r rfl (zAC rfl rfl underlying30 rfl sizeOf2 (by decide)) (.r rfl (zAD rfl rfl rfl isAgg2 rfl) (.run [500] [] rfl (zAF rfl 500 (X := []) en65 rfl (.val nod) (.cons (.one (.bor .v)) (.cons (.one (.bor .v)) (.cons (.one (.bor .v)) .nil))) (by decide) all_nil .nil (zBW p.every 1 16) rfl rfl (nle rfl)) (.r rfl (zAL (zBM rfl) (zAG h1)) (.r rfl (zAC rfl rfl underlying30 rfl sizeOf2 (by decide)) (.r rfl (zAD rfl rfl rfl isAgg2 rfl) (.run [900] [] rfl (zAF rfl 900 (X := []) en65 rfl (.val nod) (.cons (.one (.bor .v)) (.cons (.one (.bor .v)) (.cons (.one (.bor .v)) .nil))) (by decide) all_nil .nil (zBW p.size 20 4000) rfl rfl (nle rfl)) (.r rfl (zAo rfl rfl) (.r rfl (zAL (zBM rfl) (zAG h2)) (.not rfl (.not rfl (.not rfl (.r rfl (zAg rfl rfl) (.a rfl rfl .nil)))))))))))))) ?_
   refine zAI ?_
   exact ends [_] [] (.cons (.tmp (zAG (by simp [zBi, h1', h2']))) .nil) (.cons (.one .v (.v _)) .nil) (by decide) trivial
  ·
   have h2' := h2
   refine zAA rfl (.r rfl (zAC rfl rfl underlying30 rfl sizeOf2 (by decide)) (.r rfl (zAD rfl rfl rfl isAgg2 rfl) (.run [500] [] rfl (zAF rfl 500 (X := []) en65 rfl (.val nod) (.cons (.one (.bor .v)) (.cons (.one (.bor .v)) (.cons (.one (.bor .v)) .nil))) (by decide) all_nil .nil (zBW p.every 1 16) rfl rfl (nle rfl)) (.r rfl (zAL (zBM rfl) (zAG h1)) (.r rfl (zAC rfl rfl underlying30 rfl sizeOf2 (by decide)) (.r rfl (zAD rfl rfl rfl isAgg2 rfl) (.run [900] [] rfl (zAF rfl 900 (X := []) en65 rfl (.val nod) (.cons (.one (.bor .v)) (.cons (.one (.bor .v)) (.cons (.one (.bor .v)) .nil))) (by decide) all_nil .nil (zBW p.size 20 4000) rfl rfl (nle rfl)) (.r rfl (zAo rfl rfl) (.r rfl (zAL (zBM rfl) (zAG h2)) (.r rfl (zAC rfl rfl underlying30 rfl sizeOf2 (by decide)) (.r rfl (zAD rfl rfl rfl isAgg2 rfl) (.run [1400] [] rfl (zAF rfl 1400 (X := []) en65 rfl (.val nod) (.cons (.one (.bor .v)) (.cons (.one (.bor .v)) (.cons (.one (.bor .v)) .nil))) (by decide) all_nil .nil (zBW p.kind 0 2) rfl rfl (nle rfl)) (.r rfl (zAo rfl rfl) (.a rfl rfl .nil)))))))))))))) ?_
   refine zAI ?_
   exact ends [_] [] (.cons (.tmp (zAG (by simp [zBi, h1', h2']))) .nil) (.cons (.one .v (.v _)) .nil) (by decide) trivial
theorem zIv (p : Shp) : Con Tryd.prog 24 [.agg [PV.v (.int .i64 p.every), PV.v (.int .i64 p.size), PV.v (.int .i64 p.kind)]] [] [.one (.v (.bool (zBi p)))] := by
 refine zAR func24 rfl rfl rfl rfl ?_
 refine zAB (zAA rfl (.run [] [1] rfl (zB9 rfl 1 rfl rfl (by decide) rfl (by decide)) (.a rfl rfl .nil)) ?_)
 refine zAB ?_
 rcases bfc (zAl p.every 1 16) with h1 | h1
 ·
  have h1' := h1
  refine zAA rfl (.r rfl (zAC rfl rfl underlying30 rfl sizeOf2 (by decide)) (.r rfl (zAD rfl rfl rfl isAgg2 rfl) (.run [500] [] rfl (zAF rfl 500 (X := []) en53 rfl (.val nod) (.cons (.one (.bor .v)) (.cons (.one (.bor .v)) (.cons (.one (.bor .v)) .nil))) (by decide) all_nil .nil (zB0 p.every 1 16) rfl rfl (nle rfl)) (.r rfl (zAL (zBM rfl) (zAG h1)) (.not rfl (.not rfl (.not rfl (.r rfl (zAg rfl rfl) (.m rfl rfl (.not rfl (.not rfl (.not rfl (.r rfl (zAg rfl rfl) (.a rfl rfl .nil)))))))))))))) ?_
  refine zAI ?_
  exact ends [_] [] (.cons (.tmp (zAG (by simp [zBi, h1']))) .nil) (.cons (.one .v (.v _)) .nil) (by decide) trivial
 ·
  have h1' := h1
  rcases bfc (zAl p.size 20 4000) with h2 | h2
  ·
   have h2' := h2
   refine zAA rfl (.r rfl (zAC rfl rfl underlying30 rfl sizeOf2 (by decide)) (.r rfl (zAD rfl rfl rfl isAgg2 rfl) (.run [500] [] rfl (zAF rfl 500 (X := []) en53 rfl (.val nod) (.cons (.one (.bor .v)) (.cons (.one (.bor .v)) (.cons (.one (.bor .v)) .nil))) (by decide) all_nil .nil (zB0 p.every 1 16) rfl rfl (nle rfl)) (.r rfl (zAL (zBM rfl) (zAG h1)) (.r rfl (zAC rfl rfl underlying30 rfl sizeOf2 (by decide)) (.r rfl (zAD rfl rfl rfl isAgg2 rfl) (.run [900] [] rfl (zAF rfl 900 (X := []) en53 rfl (.val nod) (.cons (.one (.bor .v)) (.cons (.one (.bor .v)) (.cons (.one (.bor .v)) .nil))) (by decide) all_nil .nil (zB0 p.size 20 4000) rfl rfl (nle rfl)) (.r rfl (zAo rfl rfl) (.r rfl (zAL (zBM rfl) (zAG h2)) (.not rfl (.not rfl (.not rfl (.r rfl (zAg rfl rfl) (.a rfl rfl .nil)))))))))))))) ?_
   refine zAI ?_
   exact ends [_] [] (.cons (.tmp (zAG (by simp [zBi, h1', h2']))) .nil) (.cons (.one .v (.v _)) .nil) (by decide) trivial
  ·
   have h2' := h2
   refine zAA rfl (.r rfl (zAC rfl rfl underlying30 rfl sizeOf2 (by decide)) (.r rfl (zAD rfl rfl rfl isAgg2 rfl) (.run [500] [] rfl (zAF rfl 500 (X := []) en53 rfl (.val nod) (.cons (.one (.bor .v)) (.cons (.one (.bor .v)) (.cons (.one (.bor .v)) .nil))) (by decide) all_nil .nil (zB0 p.every 1 16) rfl rfl (nle rfl)) (.r rfl (zAL (zBM rfl) (zAG h1)) (.r rfl (zAC rfl rfl underlying30 rfl sizeOf2 (by decide)) (.r rfl (zAD rfl rfl rfl isAgg2 rfl) (.run [900] [] rfl (zAF rfl 900 (X := []) en53 rfl (.val nod) (.cons (.one (.bor .v)) (.cons (.one (.bor .v)) (.cons (.one (.bor .v)) .nil))) (by decide) all_nil .nil (zB0 p.size 20 4000) rfl rfl (nle rfl)) (.r rfl (zAo rfl rfl) (.r rfl (zAL (zBM rfl) (zAG h2)) (.r rfl (zAC rfl rfl underlying30 rfl sizeOf2 (by decide)) (.r rfl (zAD rfl rfl rfl isAgg2 rfl) (.run [1400] [] rfl (zAF rfl 1400 (X := []) en53 rfl (.val nod) (.cons (.one (.bor .v)) (.cons (.one (.bor .v)) (.cons (.one (.bor .v)) .nil))) (by decide) all_nil .nil (zB0 p.kind 0 2) rfl rfl (nle rfl)) (.r rfl (zAo rfl rfl) (.a rfl rfl .nil)))))))))))))) ?_
   refine zAI ?_
   exact ends [_] [] (.cons (.tmp (zAG (by simp [zBi, h1', h2']))) .nil) (.cons (.one .v (.v _)) .nil) (by decide) trivial
end Go.Rl
namespace Go.Rl
open Go.RowKit
theorem zMG {α : Type} {xs : List (List α)} {h j : Nat} {p : α} (hj : (xs.take h).flatten[j]? = some p) : xs.flatten[j]? = some p := by
 have e : xs.flatten = (xs.take h).flatten ++ (xs.drop h).flatten := by rw [← List.flatten_append, List.take_append_drop]
 rw [e, List.getElem?_append_left (List.getElem?_eq_some_iff.1 hj).1]
 exact hj
theorem zFi {α : Type} (xs : List (List α)) (h : Nat) : (xs.take h).flatten.length ≤ xs.flatten.length := by
 have e : xs.flatten = (xs.take h).flatten ++ (xs.drop h).flatten := by rw [← List.flatten_append, List.take_append_drop]
 rw [e, List.length_append]; omega
theorem zI2 {a b : Nat} (h : a ≤ b) (n : Nat → List Nat) : ∃ r, (List.range b).flatMap n = (List.range a).flatMap n ++ r := by
 obtain ⟨d, rfl⟩ : ∃ d, b = a + d := ⟨b - a, by omega⟩
 rw [List.range_add]
 exact ⟨_, List.flatMap_append⟩
theorem zN9 {Z : Nat → Prop} {w : World} {sz h m c : Nat} {A : Option Addr} {xs : List (List PV)} {N : List Nat} (hp : PVO Z w (.sl true sz xs) (.slice A m c) N) (hh : h ≤ xs.length) :
  ∃ N', PVO Z w (.sl true sz (xs.take h)) (.slice A h c) N' ∧ ∃ r, N = N' ++ r := by
 cases hp with
 | nil _ A =>
  obtain rfl : h = 0 := by simpa using hh
  exact ⟨[], .nil sz A, [], rfl⟩
 | own _ _ k c cur ty hlen hk hsz hc hm u n hcell hpp hfz =>
  obtain ⟨r, hr⟩ := zI2 (zFi xs h) n
  have hl : (xs.take h).length = h := by rw [List.length_take]; omega
  have := PVO.own (Z := Z) sz (xs.take h) k c cur ty (fun es he => hlen es (List.mem_of_mem_take he)) hk hsz ⟨by omega, hc.2⟩ hm u n (fun j hj => hcell j (Nat.lt_of_lt_of_le hj (zFi xs h))) (fun j p hj => hpp j p (zMG hj)) hfz
  rw [hl] at this
  exact ⟨_, this, r, by rw [hr]; rfl⟩
section
variable {γ : Gho} {P : Program} {n : Nat} {o : Oper} {M B : List Nat} {s : St}
theorem zHO {t e : TypeId} {x : Operand} {hi : Option Operand} (ho : o.op = .slice t x none hi none) {id len h sz : Nat} {xs : List (List PV)} (hx : s.ev x = .sl id 0 len) (hr : s.r id = some (sz, xs)) (hu : P.underlying t = some (.slice e)) (hsz : ∀ w, (sizeOf e).run P w = .ok sz w) (hh : BndA s len hi h) (h2 : h ≤ len) (hid1 : id < pinT) :
  StepD γ P n o M B s { put := .sl id 0 (xs.take h).length, kill := [id], setR := [(id, sz, xs.take h)] } := by
 intro s' ag hd w0 I L a w hG hrl K Q hK
 have he := (ag.ev1 ho (by simp [Op.operands])).trans hx
 have hr' := (ag.r1 ho (by simp [Op.operands]) hx (id := id) (by simp [AV.rows])).trans hr
 have b2 := zEG hrl (hh.at (zGy ho ag).2)
 have hv := hrl.ev x
 rw [he] at hv
 simp only [AVR] at hv
 obtain ⟨sz', xs', e1, e2, A, m, c, A', c', e3, e4, e5, e6, e7⟩ := hv
 rw [hr'] at e1
 cases e1
 obtain ⟨rfl, rfl⟩ := e6 rfl
 obtain ⟨q1, q2, q3⟩ := hrl.rw id sz xs hr'
 rw [e3] at q1
 obtain ⟨N', hN, r, hNr⟩ := zN9 (h := h) q1 (by omega)
 have hsub : ∀ k ∈ N', k ∈ L.ν id := fun k hk => by rw [hNr]; exact List.mem_append_left _ hk
 have hset := hrl.setrow [id] (J := []) (Same.refl [] w) (by simp) hN (fun k hk => .inl ⟨id, by simp, q3 k (hsub k hk)⟩) (by rw [hNr] at q2; exact (List.nodup_append.1 q2).1) hid1 (.inr (by simp))
 have hl : (xs.take h).length = h := by rw [List.length_take]; omega
 have hv' : (if c' = 0 then A' else A'.map (·.add (0 * sz))) = A' := by
  split
  · rfl
  ·
   cases A' with
   | none => rfl
   | some ad => simp only [Nat.zero_mul, Option.map_some, Option.some.injEq]; unfold Addr.add; split <;> simp_all
 have hex : (execOp a.eval o).run P w = .ok (.value (.slice A' h c')) w := by
  simp only [execOp, ho, e4, Option.map_none, Sem.run_bind, zJ5 (lo := none) hu hsz (.inl ⟨rfl, rfl⟩) b2 (Nat.zero_le _) (Nat.le_trans h2 e5) w]
  rw [hv']
  rfl
 unfold Oper.wp
 rw [hex, Oper.upon_value]
 have hfin := hset.put hd (av := .sl id 0 (xs.take h).length) (v := .slice A' h c') (zFg (sz := sz) (xs := xs.take h) (by simp) (by simp [Pl.row]) (hset.rw id sz _ (by simp)).1 rfl)
 exact hK _ _ _ (by rw [Dl.app, zDY]; exact hfin)
end
end Go.Rl
namespace Go.Rl
theorem zGK {P : Program} {nm : String} {g : Nat} {k : IntKind} {zs : List Int} {W : World} (hg : P.globalNamed nm = some g) (h : Lib.TabIs P W nm k zs) : ∃ o, W.heap[g]? = some o ∧ ∀ w : World, w.heap[g]? = some o → Lib.TabIs P w nm k zs := by
 have h0 := h
 unfold Lib.TabIs World.var? at h0
 rw [hg] at h0
 simp only [Option.bind_some] at h0
 obtain ⟨o, ho⟩ : ∃ o, W.heap[g]? = some o := by
  cases e : W.heap[g]? with
  | none => simp [e] at h0
  | some o => exact ⟨o, rfl⟩
 refine ⟨o, ho, fun w hw => ?_⟩
 unfold Lib.TabIs World.var? at h ⊢
 rw [hg] at h ⊢
 simp only [Option.bind_some, ho, hw] at h ⊢
 exact h
def tz64I : List Int := Lib.deBruijn64tab.map fun n => ((n : Nat) : Int)
theorem zGF : ∀ j, j < 64 → tz64I.getD j 0 = ((Lib.deBruijn64tab.getD j 0 : Nat) : Int) := by decide +kernel
end Go.Rl
namespace Go.Rl
open Go.Proofs Go.Proofs.Tryd
set_option maxRecDepth 1000000
set_option maxHeartbeats 2000000
theorem en85 : En Tryd.prog 85 := zAh func85 (by decide) rfl
theorem en121 : En Tryd.prog 121 := zAh func121 (by decide) rfl
theorem en84 : En Tryd.prog 84 := zAh func84 (by decide) rfl
theorem en105 : En Tryd.prog 105 := zAh func105 (by decide) rfl
theorem en60 : En Tryd.prog 60 := zAh func60 (by decide) rfl
theorem zN7 (u : ByteArray) : min (((1 + Lib.ctz 64 (zA2 7 u / 64) : Nat)) : Int) 58 = ((zBa u : Nat) : Int) := by rw [zBa, ← zN8]; omega
theorem zKt {u : ByteArray} {k y : Nat} (h : zCB (zA2 7 u / 64) 57 = k + zCB y (57 - k)) (hk : k ≤ 57) (he : k = 57 ∨ ¬ y % 2 = 0) : zBa u = k + 1 := by
 rw [zBa, h]
 rcases he with he | he
 · subst he; rfl
 · rw [zL7 he]
theorem zMh {x k y : Nat} (h : zCB x 57 = k + zCB y (57 - k)) (hk : k < 57) (he : y % 2 = 0) : zCB x 57 = (k + 1) + zCB (y / 2) (57 - (k + 1)) := by
 rw [h, show 57 - k = (57 - (k + 1)) + 1 by omega, zLa he]; omega
theorem zIM {r : List Nat} {u : ByteArray} {b : Nat} (h : r[zC0 u]? = some b) : r.set (zC0 u) (max b (zBa u)) = hllS r u := by rw [hllS, List.getD_eq_getElem?_getD, h]; rfl
theorem zLB {r : List Nat} {u : ByteArray} {b : Nat} (h : r[zC0 u]? = some b) (hlt : b < zBa u) : r.set (zC0 u) (zBa u) = hllS r u := by rw [← zIM h, show max b (zBa u) = zBa u by omega]
theorem zM9 {r : List Nat} {u : ByteArray} {b : Nat} (h : r[zC0 u]? = some b) (hlt : ¬ b < zBa u) : r = hllS r u := by
 rw [← zIM h, show max b (zBa u) = b by omega]
 refine List.ext_getElem? fun i => ?_
 by_cases q : zC0 u = i
 · subst q; rw [List.getElem?_set_self (List.getElem?_eq_some_iff.1 h).1, h]
 · rw [List.getElem?_set_ne q]
theorem zLE : List.replicate 64 [PV.v (.int .u8 0)] = pvB (ints (List.replicate 64 0)) := by simp [pvB, ints]
set_option maxHeartbeats 1000000 in
theorem zMC (x k idx : Nat) (w : World) (hx0 : ((x : Int) == 0) = false)
  (key : IntKind.u64.wrap (Go.bits BinOp.and IntKind.u64 (x : Int) (IntKind.u64.wrap (-(x : Int))) * 285870213051353865) / 288230376151711744 = (idx : Int))
  (hi : idx < 64) (hk : k < 64) (hcell : w.cell? ⟨0, idx, none⟩ = some (.int .u8 k)) :
  Calls Tryd.prog 121 #[.int .u64 x] w fun e w' => e = .returned (.int .i64 k) ∧ w' = w := by
 go_enter func121, Tryd.ntmps121
 go_wp2_with (simp only [key])
 go_ret
 exact ⟨rfl, rfl⟩
theorem zMB (w : World) : Calls Tryd.prog 121 #[.int .u64 0] w fun e w' => e = .returned (.int .i64 64) ∧ w' = w := by
 go_enter func121, Tryd.ntmps121
 go_wp2
 go_ret
 exact ⟨rfl, rfl⟩
def TzAt (w : World) : Prop := ∀ x : Nat, x < 18446744073709551616 → Calls Tryd.prog 121 #[.int .u64 x] w fun e w' => e = .returned (.int .i64 (Lib.ctz 64 x)) ∧ w' = w
theorem tz_at {w : World} (hT : ∀ j, j < 64 → w.cell? ⟨0, j, none⟩ = some (.int .u8 ((Lib.deBruijn64tab.getD j 0 : Nat) : Int))) : TzAt w := fun x hx => by
 by_cases hx0 : x = 0
 ·
  subst hx0
  exact zMB w
 ·
  obtain ⟨hlow, hk⟩ := Lib.lowest_bit 64 x hx0 hx
  obtain ⟨hi, htab⟩ := Lib.deBruijn64_at _ hk
  have hcell := hT _ hi
  rw [htab] at hcell
  exact zMC x _ _ w (by simp; omega) (Go.Proofs.tz64_key x _ hx hx0 hlow) hi hk hcell
def TabG (γ : Gho) : Prop := ∃ o, γ = some (0, o) ∧ ∀ w : World, w.heap[0]? = some o → TzAt w
theorem tz_con {γ : Gho} (ht : TabG γ) (x : Nat) (hx : x < 18446744073709551616) : ConG γ Tryd.prog 121 [.one (.v (.int .u64 ((x : Nat) : Int)))] [] [.one (.v (.int .i64 ((Lib.ctz 64 x : Nat) : Int)))] := by
 intro Z w vs E hG ha _ _ _
 obtain ⟨o, hγ, hT⟩ := ht
 have htab := hT w (hG 0 o hγ).1 x hx
 obtain ⟨rfl, rfl⟩ : vs = [.int .u64 ((x : Nat) : Int)] ∧ E = [] := by
  cases ha with
  | cons h1 t1 =>
   cases t1
   cases h1 with
   | one h1 =>
    cases h1 with
    | nf _ h1 =>
     cases h1
     exact ⟨rfl, rfl⟩
 refine htab.mono ?_
 rintro e w' ⟨rfl, rfl⟩
 exact ⟨_, [], rfl, Same.refl [] _, fun i lf xs' h => by simp at h, .one (.one (.nf rfl (.v _ rfl))), by simp [Leaf.all], fun k hk => by simp [Leaf.all] at hk⟩
theorem zJI (h : ByteArray) (hs : h.size ≤ 9000000000000000000) : Con Tryd.prog 85 [.one (PV.v (.string h))] [] [.one (.v (.bool (zBk h)))] := by
 refine zAR func85 rfl rfl rfl rfl ?_
 have hsz : decide ((h.size : Int) = 64) = decide (h.size = 64) := by congr 1; exact propext (by omega)
 refine zAB (zAA rfl (.a rfl rfl .nil) ?_)
 refine zAB ?_
 refine zAB (zAA rfl (.m rfl rfl (.r rfl (zAP rfl rfl underlying9) (.m rfl rfl .nil))) ?_)
 refine zAS ?_
 refine zAj (σ := Nat) (fun i => mk [(0, .vs h), (5, .vi (h.size : Int)), (6, .vi (i:Int))] [] []) (fun i => i ≤ h.size ∧ zDI h 58 i) (fun i => h.size - i) 0 ⟨Nat.zero_le _, zEW _ _⟩ (zAJ ⟨rfl, rfl, (zAE (by omega)), trivial⟩ trivial trivial rfl) ?_
 rintro i hG
 replace hG : i ≤ h.size ∧ zDI h 58 i := hG
 obtain ⟨hi, hS⟩ := hG
 refine zAB (zAA rfl (.r rfl (zAt rfl rfl rfl) .nil) ?_)
 refine zAB ?_
 refine zAT (t := decide ((i:Int) < (h.size : Int))) rfl (fun h1 => ?_) (fun h1 => ?_)
 ·
  replace h1 := of_decide_eq_true h1
  refine zAK ?_
  refine zAB ?_
  refine zAS ?_
  refine zAB (zAA rfl (.m rfl rfl (.a rfl rfl .nil)) ?_)
  refine zAB ?_
  obtain ⟨b, hb⟩ : ∃ b : UInt8, h[i]? = some b := ⟨_, getElem?_pos h i (by omega)⟩
  refine zAA rfl (.m rfl rfl (.m rfl rfl (.r rfl (zBX rfl rfl rfl underlying9 (by omega) hb) (.r rfl (zBE rfl rfl rfl) .nil)))) ?_
  refine zAT (t := decide (58 < (b.toNat : Int))) rfl (fun h2 => ?_) (fun h2 => ?_)
  ·
   replace h2 := of_decide_eq_true h2
   refine zAB (zAA rfl (.a rfl rfl .nil) ?_)
   refine zAI ?_
   exact ends [_] [] (.cons (.tmp (zAG (by rw [zBk, zLX (m := 58) hb (by omega), Bool.and_false]))) .nil) (.cons (.one .v (.v _)) .nil) (by decide) trivial
  ·
   replace h2 := of_decide_eq_false h2
   refine zAK ?_
   refine zAA rfl (.r rfl (zAW rfl rfl rfl (by omega)) (.m rfl rfl .nil)) ?_
   refine nxt (Q := fun _ _ => False) (z := i) (i + 1) ?_ ?_ ?_
   ·
    show (i + 1) ≤ h.size ∧ zDI h 58 (i + 1)
    exact ⟨by omega, zEX hS hb (by omega)⟩
   ·
    show h.size - (i + 1) < h.size - i
    omega
   · exact zAJ ⟨rfl, rfl, (zAE (by omega)), trivial⟩ trivial trivial rfl
 ·
  replace h1 := of_decide_eq_false h1
  refine zAi ?_
  refine zAB (zAA rfl (.m rfl rfl (.r rfl (zAP rfl rfl underlying9) (.r rfl (zBB rfl rfl rfl) (.a rfl rfl .nil)))) ?_)
  refine zAI ?_
  exact ends [_] [] (.cons (.tmp (zAG (by rw [zBk, zId hS (by omega), Bool.and_true, hsz]))) .nil) (.cons (.one .v (.v _)) .nil) (by decide) trivial
theorem zHT (h : ByteArray) (hs : h.size ≤ 9000000000000000000) : Con Tryd.prog 84 [.one (PV.v (.string h))] [] [.one (.v (.bool (zBk h)))] := by
 refine zAR func84 rfl rfl rfl rfl ?_
 have hsz : decide ((h.size : Int) = 64) = decide (h.size = 64) := by congr 1; exact propext (by omega)
 refine zAB (zAA rfl (.a rfl rfl .nil) ?_)
 refine zAB ?_
 refine zAB (zAA rfl (.m rfl rfl (.r rfl (zAP rfl rfl underlying9) (.r rfl (zB2 rfl rfl rfl) .nil))) ?_)
 refine zAT (t := (!(decide ((h.size : Int) = 64)))) rfl (fun h1 => ?_) (fun h1 => ?_)
 ·
  replace h1 : ¬ ((h.size : Int) = 64) := of_decide_eq_false (zAm h1)
  refine zAB (zAA rfl (.a rfl rfl .nil) ?_)
  refine zAI ?_
  exact ends [_] [] (.cons (.tmp (zAG (by rw [zBk, decide_eq_false (by omega), Bool.false_and]))) .nil) (.cons (.one .v (.v _)) .nil) (by decide) trivial
 ·
  replace h1 : (h.size : Int) = 64 := of_decide_eq_true (zAn h1)
  refine zAK ?_
  refine zAB ?_
  refine zAB (zAA rfl (.a rfl rfl .nil) ?_)
  refine zAS ?_
  refine zAj (σ := Nat) (fun i => mk [(0, .vs h), (3, .vi (i:Int))] [] []) (fun i => i ≤ h.size ∧ zDI h 58 i) (fun i => h.size - i) 0 ⟨Nat.zero_le _, zEW _ _⟩ (zAJ ⟨rfl, (zAE (by omega)), trivial⟩ trivial trivial rfl) ?_
  rintro i hG
  replace hG : i ≤ h.size ∧ zDI h 58 i := hG
  obtain ⟨hi, hS⟩ := hG
  refine zAB ?_
  refine zAB (zAA rfl (.m rfl rfl (.m rfl rfl (.r rfl (zAP rfl rfl underlying9) (.r rfl (zAt rfl rfl rfl) .nil)))) ?_)
  refine zAT (t := decide ((i:Int) < (h.size : Int))) rfl (fun h2 => ?_) (fun h2 => ?_)
  ·
   replace h2 := of_decide_eq_true h2
   refine zAK ?_
   refine zAB ?_
   refine zAS ?_
   refine zAB ?_
   obtain ⟨b, hb⟩ : ∃ b : UInt8, h[i]? = some b := ⟨_, getElem?_pos h i (by omega)⟩
   refine zAA rfl (.m rfl rfl (.m rfl rfl (.r rfl (zBX rfl rfl rfl underlying9 (by omega) hb) (.r rfl (zBE rfl rfl rfl) .nil)))) ?_
   refine zAT (t := decide (58 < (b.toNat : Int))) rfl (fun h3 => ?_) (fun h3 => ?_)
   ·
    replace h3 := of_decide_eq_true h3
    refine zAB (zAA rfl (.a rfl rfl .nil) ?_)
    refine zAI ?_
    exact ends [_] [] (.cons (.tmp (zAG (by rw [zBk, zLX (m := 58) hb (by omega), Bool.and_false]))) .nil) (.cons (.one .v (.v _)) .nil) (by decide) trivial
   ·
    replace h3 := of_decide_eq_false h3
    refine zAK ?_
    refine zAA rfl (.m rfl rfl (.r rfl (zAW rfl rfl rfl (by omega)) (.a rfl rfl .nil))) ?_
    refine nxt (Q := fun _ _ => False) (z := i) (i + 1) ?_ ?_ ?_
    ·
     show (i + 1) ≤ h.size ∧ zDI h 58 (i + 1)
     exact ⟨by omega, zEX hS hb (by omega)⟩
    ·
     show h.size - (i + 1) < h.size - i
     omega
    · exact zAJ ⟨rfl, (zAE (by omega)), trivial⟩ trivial trivial rfl
  ·
   replace h2 := of_decide_eq_false h2
   refine zAi ?_
   refine zAB (zAA rfl (.a rfl rfl .nil) ?_)
   refine zAI ?_
   exact ends [_] [] (.cons (.tmp (zAG (by rw [zBk, zId hS (by omega), decide_eq_true (by omega), Bool.and_true]))) .nil) (.cons (.one .v (.v _)) .nil) (by decide) trivial
theorem zLw {γ : Gho} (ht : TabG γ) (h : ByteArray) (hok : zBk h = true) (u : ByteArray) (hu : zBd u = true) : ConG γ Tryd.prog 105 [.one (PV.v (.string h)), .one (PV.v (.string u))] [] [.one (.v (.string (hllA h u)))] := by
 refine zAR func105 rfl rfl rfl rfl ?_
 have hl := zDl hok
 have hbn := (zBK (zA8 h)).trans ((zDM h).trans hl)
 have hat := zLD u
 have hus := zC7 hu
 have hrk := zGs u
 have hhl := zLF 7 u
 have hbl := (zDM h).trans hl
 refine zAB (zAA rfl (.a rfl rfl .nil) ?_)
 refine zAB ?_
 refine zAB ?_
 rcases bfc (!(zBk h)) with h1 | h1
 ·
  have h1' := h1
  replace h1' : (zBk h) = true := zAn h1'
  refine zAA rfl (.m rfl rfl (.run [900] [] rfl (zAF rfl 900 (X := []) en85 rfl (.val nod) (.cons (.one (.bor .v)) .nil) (by decide) all_nil .nil (zJI h (by omega)) rfl rfl (nle rfl)) (.r rfl (zAL (zAa (b := zBk h) rfl rfl) (zAG h1)) (.m rfl rfl (.m rfl rfl (.run [1300] [] rfl (zAF rfl 1300 (X := []) zNS rfl (.val nod) (.cons (.one (.bor .v)) .nil) (by decide) all_nil .nil (zDt u) rfl rfl (nle rfl)) (.r rfl (zAa (b := zBd u) rfl rfl) (.r rfl (zAg rfl rfl) .nil)))))))) ?_
  refine zAT (t := (!(zBd u))) rfl (fun h2 => ?_) (fun h2 => ?_)
  ·
   replace h2 : (zBd u) = false := zAm h2
   rw [hu] at h2; cases h2
  ·
   replace h2 : (zBd u) = true := zAn h2
   refine zAK ?_
   refine zAB (zAA rfl (.m rfl rfl (.run [1700] [] rfl (zAF rfl 1700 (X := []) en120 rfl (.val nod) (.cons (.one (.bor .v)) (.cons (.one (.bor .v)) .nil)) (by decide) all_nil .nil (zIN 7 u (by omega)) rfl rfl (nle rfl)) (.a rfl rfl .nil))) ?_)
   refine zAB (zAA rfl (.m rfl rfl (.run [1900] [] rfl (zHx rfl 1900 h rfl underlying9 underlying90 underlying5 (by decide) rfl (by decide) (by omega) (by simp only [maxLen]; omega)) (.a rfl rfl .nil))) ?_)
   refine zAB ?_
   obtain ⟨b, hb⟩ : ∃ b, (zA8 h)[zC0 u]? = some b := ⟨_, List.getElem?_eq_getElem (by omega)⟩
   have hb8 := zG1 b (List.mem_of_getElem? hb)
   refine zAO (s' := mk [(5, .p none (.v (.int .u64 ((zA2 7 u : Nat) : Int)))), (6, .sl 1900 0 ((pvNb (zA8 h)).length))] [] [(1900, 1, pvNb (zA8 h))]) ?_ ?_
   · exact zAJ ⟨rfl, rfl, trivial⟩ trivial ⟨rfl, trivial⟩ rfl
   refine zAA rfl (.m rfl rfl (.m rfl rfl (.r rfl (zAL (zCR (zA2 7 u) 64 rfl rfl rfl (by omega)) ((zAE (show ((zA2 7 u % 64 : Nat) : Int) = ((zC0 u : Nat) : Int) from rfl)))) (.r rfl (zA1 (zC0 u) rfl rfl rfl rfl underlying90 sizeOf5 rfl rfl (by omega)) (.a rfl rfl .nil))))) ?_
   refine zAB ?_
   have hcz := ctz_le (zA2 7 u / 64) (by omega)
   refine zAO (s' := mk [(5, .p none (.v (.int .u64 ((zA2 7 u : Nat) : Int)))), (6, .sl 1900 0 ((pvNb (zA8 h)).length)), (7, .ea 1900 (zC0 u) 0)] [] [(1900, 1, pvNb (zA8 h))]) ?_ ?_
   · exact zAJ ⟨rfl, rfl, rfl, trivial⟩ trivial ⟨rfl, trivial⟩ rfl
   refine zAb zBh rfl (.m rfl rfl (.m rfl rfl (.r rfl (zAd rfl rfl) (.r rfl (zA4 rfl rfl rfl (zCS hb) isAgg5 rfl) (.m rfl rfl (.r rfl (zAL (zD7 (k := .u64) 18446744073709551616 rfl (zA2 7 u) 64 rfl rfl rfl rfl (by omega)) ((zAE (show (((zA2 7 u / 64) % 18446744073709551616 : Nat) : Int) = ((zA2 7 u / 64 : Nat) : Int) by omega)))) (.run [3000] [] rfl (zCX (.inr rfl) rfl 3000 (X := []) en121 rfl (.val nod) (.cons (.one (.bor .v)) .nil) (by decide) all_nil .nil (tz_con ht (zA2 7 u / 64) (by omega)) rfl rfl (nle rfl)) (.r rfl (zAL (zAW rfl rfl rfl (by omega)) ((zAE (by omega)))) (.r rfl (zAL (zIp rfl rfl rfl) ((zAE (zN7 u)))) (.r rfl (zAL (zAe (k' := .u8) 256 rfl (zBa u) rfl rfl rfl underlying3 underlying5) ((zAE (show (((zBa u) % 256 : Nat) : Int) = ((zBa u : Nat) : Int) by omega)))) (.r rfl (zAL (zIq rfl rfl rfl) ((zAE (show max ((b : Nat) : Int) ((zBa u : Nat) : Int) = ((max b (zBa u) : Nat) : Int) by omega)))) (.r rfl (zAd rfl rfl) (.r rfl (zA9 rfl rfl rfl (FlatP.nf (zDW _)) (zCS hb) rfl rfl (.cons .v .nil) sizeOf5 rfl (nle rfl)) .nil))))))))))))) (by kernel_rfl) ?_
   have hr3 : (pvNb (zA8 h)).set (zC0 u) [PV.v (.int .u8 ((max b (zBa u) : Nat) : Int))] = pvNb (hllS (zA8 h) u) := by rw [zFE, zIM hb]
   have hl4 : (pvNb (zA8 h)).length = (pvNb (hllS (zA8 h) u)).length := by first | (rw [← hr3, List.length_set]; done) | simp [zBK]
   have hp5 : (.sl 1900 0 ((pvNb (zA8 h)).length) : AV) = .sl 1900 0 ((pvNb (hllS (zA8 h) u)).length) := by first | exact congrArg (AV.sl 1900 0) hl4 | simp only [hr3, hl4]
   refine zAO (s' := mk [(6, .sl 1900 0 ((pvNb (hllS (zA8 h) u)).length))] [] [(1900, 1, pvNb (hllS (zA8 h) u))]) ?_ ?_
   · exact zAJ ⟨hp5, trivial⟩ trivial ⟨(congrArg (fun x => some (1, x)) hr3), trivial⟩ rfl
   refine zAB (zAA rfl (.m rfl rfl (.r rfl (zCc (ints (hllS (zA8 h) u)) rfl rfl (.give (len := (pvNb (hllS (zA8 h) u)).length) (xs := pvNb (hllS (zA8 h) u)) rfl rfl) rfl (zCy _) underlying90 underlying9 underlying5) (.a rfl rfl .nil))) ?_)
   refine zAI ?_
   exact ends [_] [] (.cons (.tmp rfl) .nil) (.cons (.one .v (.v _)) .nil) (by decide) trivial
 ·
  have h1' := h1
  replace h1' : (zBk h) = false := zAm h1'
  rw [hok] at h1'; cases h1'
theorem zJ3 (h : ByteArray) (hok : zBk h = true) (u : ByteArray) (hu : zBd u = true) : Con Tryd.prog 60 [.one (PV.v (.string h)), .one (PV.v (.string u))] [] [.one (.v (.string (hllA h u)))] := by
 refine zAR func60 rfl rfl rfl rfl ?_
 have hl := zDl hok
 have hbn := (zBK (zA8 h)).trans ((zDM h).trans hl)
 have hat := zLD u
 have hus := zC7 hu
 have hrk := zGs u
 have hhl := zLF 7 u
 have hbl := (zDM h).trans hl
 refine zAB (zAA rfl (.a rfl rfl .nil) ?_)
 refine zAB ?_
 refine zAB ?_
 rcases bfc (!(zBk h)) with h1 | h1
 ·
  have h1' := h1
  replace h1' : (zBk h) = true := zAn h1'
  refine zAA rfl (.m rfl rfl (.run [1000] [] rfl (zAF rfl 1000 (X := []) en84 rfl (.val nod) (.cons (.one (.bor .v)) .nil) (by decide) all_nil .nil (zHT h (by omega)) rfl rfl (nle rfl)) (.r rfl (zAL (zAa (b := zBk h) rfl rfl) (zAG h1)) (.m rfl rfl (.m rfl rfl (.run [1400] [] rfl (zAF rfl 1400 (X := []) en89 rfl (.val nod) (.cons (.one (.bor .v)) .nil) (by decide) all_nil .nil (zDs u) rfl rfl (nle rfl)) (.r rfl (zAa (b := zBd u) rfl rfl) (.r rfl (zAg rfl rfl) .nil)))))))) ?_
  refine zAT (t := (!(zBd u))) rfl (fun h2 => ?_) (fun h2 => ?_)
  ·
   replace h2 : (zBd u) = false := zAm h2
   rw [hu] at h2; cases h2
  ·
   replace h2 : (zBd u) = true := zAn h2
   refine zAK ?_
   refine zAB (zAA rfl (.m rfl rfl (.run [1800] [] rfl (zAF rfl 1800 (X := []) en92 rfl (.val nod) (.cons (.one (.bor .v)) (.cons (.one (.bor .v)) .nil)) (by decide) all_nil .nil (zGR 7 u (by omega)) rfl rfl (nle rfl)) (.a rfl rfl .nil))) ?_)
   refine zAB (zAA rfl (.m rfl rfl (.r rfl (zAL (zCR (zA2 7 u) 64 rfl rfl rfl (by omega)) ((zAE (show ((zA2 7 u % 64 : Nat) : Int) = ((zC0 u : Nat) : Int) from rfl)))) (.a rfl rfl .nil))) ?_)
   refine zAB ?_
   refine zAO (s' := mk [(0, .vs h), (5, .p none (.v (.int .u64 ((zA2 7 u : Nat) : Int)))), (6, .p none (.v (.int .u64 ((zC0 u : Nat) : Int))))] [] []) ?_ ?_
   · exact zAJ ⟨rfl, rfl, rfl, trivial⟩ trivial trivial rfl
   refine zAA rfl (.m rfl rfl (.r rfl (zAL (zD7 (k := .u64) 18446744073709551616 rfl (zA2 7 u) 64 rfl rfl rfl rfl (by omega)) ((zAE (show (((zA2 7 u / 64) % 18446744073709551616 : Nat) : Int) = ((zA2 7 u / 64 : Nat) : Int) by omega)))) (.a rfl rfl .nil))) ?_
   refine zAB (zAA rfl (.a rfl rfl .nil) ?_)
   refine zAB ?_
   refine zAS ?_
   refine zAj (σ := Nat × Nat) (fun (k, y) => mk [(0, .vs h), (5, .p none (.v (.int .u64 ((y : Nat) : Int)))), (6, .p none (.v (.int .u64 ((zC0 u : Nat) : Int)))), (7, .vi ((k + 1 : Nat) : Int))] [] []) (fun (k, y) => (k ≤ 57 ∧ y < 18446744073709551616) ∧ zCB (zA2 7 u / 64) 57 = k + zCB y (57 - k)) (fun (k, y) => 57 - k) (0, zA2 7 u / 64) ⟨⟨by omega, by omega⟩, by rw [Nat.zero_add]⟩ (zAJ ⟨rfl, rfl, rfl, rfl, trivial⟩ trivial trivial rfl) ?_
   rintro ⟨k, y⟩ hG
   replace hG : (k ≤ 57 ∧ y < 18446744073709551616) ∧ zCB (zA2 7 u / 64) 57 = k + zCB y (57 - k) := hG
   obtain ⟨⟨hk, hy⟩, hz⟩ := hG
   refine zAB ?_
   refine zAB ?_
   rcases bfc (decide (((k + 1 : Nat) : Int) < 58)) with h3 | h3
   ·
    have h3' := h3
    replace h3' := of_decide_eq_false h3'
    refine zAA rfl (.m rfl rfl (.r rfl (zAL (zAt rfl rfl rfl) (zAG h3)) (.m rfl rfl (.not rfl (.not rfl (.not rfl (.r rfl (zAg rfl rfl) .nil))))))) ?_
    refine zAT (t := false) rfl (fun h => nomatch h) (fun _ => ?_)
    refine zAi ?_
    refine zAB ?_
    refine zAO (s' := mk [(0, .vs h), (6, .p none (.v (.int .u64 ((zC0 u : Nat) : Int)))), (7, .vi ((zBa u : Nat) : Int))] [] []) ?_ ?_
    · exact zAJ ⟨rfl, rfl, (zAE (by rw [zKt hz (by omega) (.inl (by omega))])), trivial⟩ trivial trivial rfl
    refine zAA rfl (.m rfl rfl (.run [3500] [] rfl (zHx rfl 3500 h rfl underlying9 underlying90 underlying5 (by decide) rfl (by decide) (by omega) (by simp only [maxLen]; omega)) (.a rfl rfl .nil))) ?_
    refine zAB ?_
    refine zAB ?_
    obtain ⟨b, hb⟩ : ∃ b, (zA8 h)[zC0 u]? = some b := ⟨_, List.getElem?_eq_getElem (by omega)⟩
    have hb8 := zG1 b (List.mem_of_getElem? hb)
    refine zAA rfl (.m rfl rfl (.m rfl rfl (.r rfl (zA1 (zC0 u) rfl rfl rfl rfl underlying90 sizeOf5 rfl rfl (by omega)) (.r rfl (zA4 rfl rfl rfl (zCS hb) isAgg5 rfl) (.r rfl (zBn rfl rfl underlying5 underlying3 (by omega)) (.m rfl rfl (.r rfl (zAt rfl rfl rfl) .nil))))))) ?_
    refine zAT (t := decide (((b : Nat) : Int) < ((zBa u : Nat) : Int))) rfl (fun h4 => ?_) (fun h4 => ?_)
    ·
     replace h4 := of_decide_eq_true h4
     refine zAA rfl (.m rfl rfl (.m rfl rfl (.m rfl rfl (.r rfl (zAL (zAe (k' := .u8) 256 rfl (zBa u) rfl rfl rfl underlying3 underlying5) ((zAE (show (((zBa u) % 256 : Nat) : Int) = ((zBa u : Nat) : Int) by omega)))) (.r rfl (zA1 (zC0 u) rfl rfl rfl rfl underlying90 sizeOf5 rfl rfl (by omega)) (.r rfl (zA9 rfl rfl rfl (FlatP.nf (zDW _)) (zCS hb) rfl rfl (.cons .v .nil) sizeOf5 rfl (nle rfl)) .nil)))))) ?_
     have hr5 : (pvNb (zA8 h)).set (zC0 u) [PV.v (.int .u8 ((zBa u : Nat) : Int))] = pvNb (hllS (zA8 h) u) := by rw [zFE, zLB hb (by omega)]
     have hl6 : (pvNb (zA8 h)).length = (pvNb (hllS (zA8 h) u)).length := by first | (rw [← hr5, List.length_set]; done) | simp [zBK]
     have hp7 : (.sl 3500 0 ((pvNb (zA8 h)).length) : AV) = .sl 3500 0 ((pvNb (hllS (zA8 h) u)).length) := by first | exact congrArg (AV.sl 3500 0) hl6 | simp only [hr5, hl6]
     refine zAO (s' := mk [(8, .sl 3500 0 ((pvNb (hllS (zA8 h) u)).length))] [] [(3500, 1, pvNb (hllS (zA8 h) u))]) ?_ ?_
     · exact zAJ ⟨hp7, trivial⟩ trivial ⟨(congrArg (fun x => some (1, x)) hr5), trivial⟩ rfl
     refine zAB (zAA rfl (.m rfl rfl (.r rfl (zCc (ints (hllS (zA8 h) u)) rfl rfl (.give (len := (pvNb (hllS (zA8 h) u)).length) (xs := pvNb (hllS (zA8 h) u)) rfl rfl) rfl (by first | exact zCy _ | exact hS0) underlying90 underlying9 underlying5) (.a rfl rfl .nil))) ?_)
     refine zAI ?_
     exact ends [_] [] (.cons (.tmp rfl) .nil) (.cons (.one .v (.v _)) .nil) (by decide) trivial
    ·
     replace h4 := of_decide_eq_false h4
     refine zAK ?_
     refine zAB ?_
     have hS0 : pvNb (zA8 h) = pvB (ints (hllS (zA8 h) u)) := by rw [← zM9 hb (by omega)]; exact zCy _
     refine zAA rfl (.m rfl rfl (.r rfl (zCc (ints (hllS (zA8 h) u)) rfl rfl (.give (len := (pvNb (zA8 h)).length) (xs := pvNb (zA8 h)) rfl rfl) rfl (by first | exact zCy _ | exact hS0) underlying90 underlying9 underlying5) (.a rfl rfl .nil))) ?_
     refine zAI ?_
     exact ends [_] [] (.cons (.tmp rfl) .nil) (.cons (.one .v (.v _)) .nil) (by decide) trivial
   ·
    have h3' := h3
    replace h3' := of_decide_eq_true h3'
    refine zAA rfl (.m rfl rfl (.r rfl (zAL (zAt rfl rfl rfl) (zAG h3)) (.m rfl rfl (.m rfl rfl (.r rfl (zCR y 2 rfl rfl rfl (by omega)) (.r rfl (zBB rfl rfl rfl) (.r rfl (zAo rfl rfl) .nil))))))) ?_
    refine zAT (t := decide (((y % 2 : Nat) : Int) = 0)) rfl (fun h8 => ?_) (fun h8 => ?_)
    ·
     replace h8 := of_decide_eq_true h8
     refine zAK ?_
     refine zAS ?_
     refine zAB (zAA rfl (.m rfl rfl (.r rfl (zAW rfl rfl rfl (by omega)) (.a rfl rfl .nil))) ?_)
     refine zAA rfl (.m rfl rfl (.r rfl (zD7 (k := .u64) 18446744073709551616 rfl y 2 rfl rfl rfl rfl (by omega)) (.a rfl rfl .nil))) ?_
     refine nxt (Q := fun _ _ => False) (z := (k, y)) (k + 1, y / 2) ?_ ?_ ?_
     ·
      show ((k + 1) ≤ 57 ∧ (y / 2) < 18446744073709551616) ∧ zCB (zA2 7 u / 64) 57 = (k + 1) + zCB (y / 2) (57 - (k + 1))
      exact ⟨⟨by omega, by omega⟩, zMh hz (by omega) (by omega)⟩
     ·
      show 57 - (k + 1) < 57 - k
      omega
     · exact zAJ ⟨rfl, (zAE (by omega)), rfl, (zAE (by omega)), trivial⟩ trivial trivial rfl
    ·
     replace h8 := of_decide_eq_false h8
     refine zAi ?_
     refine zAB ?_
     refine zAO (s' := mk [(0, .vs h), (6, .p none (.v (.int .u64 ((zC0 u : Nat) : Int)))), (7, .vi ((zBa u : Nat) : Int))] [] []) ?_ ?_
     · exact zAJ ⟨rfl, rfl, (zAE (by rw [zKt hz (by omega) (.inr (by omega))])), trivial⟩ trivial trivial rfl
     refine zAA rfl (.m rfl rfl (.run [3500] [] rfl (zHx rfl 3500 h rfl underlying9 underlying90 underlying5 (by decide) rfl (by decide) (by omega) (by simp only [maxLen]; omega)) (.a rfl rfl .nil))) ?_
     refine zAB ?_
     refine zAB ?_
     obtain ⟨b, hb⟩ : ∃ b, (zA8 h)[zC0 u]? = some b := ⟨_, List.getElem?_eq_getElem (by omega)⟩
     have hb8 := zG1 b (List.mem_of_getElem? hb)
     refine zAA rfl (.m rfl rfl (.m rfl rfl (.r rfl (zA1 (zC0 u) rfl rfl rfl rfl underlying90 sizeOf5 rfl rfl (by omega)) (.r rfl (zA4 rfl rfl rfl (zCS hb) isAgg5 rfl) (.r rfl (zBn rfl rfl underlying5 underlying3 (by omega)) (.m rfl rfl (.r rfl (zAt rfl rfl rfl) .nil))))))) ?_
     refine zAT (t := decide (((b : Nat) : Int) < ((zBa u : Nat) : Int))) rfl (fun h9 => ?_) (fun h9 => ?_)
     ·
      replace h9 := of_decide_eq_true h9
      refine zAA rfl (.m rfl rfl (.m rfl rfl (.m rfl rfl (.r rfl (zAL (zAe (k' := .u8) 256 rfl (zBa u) rfl rfl rfl underlying3 underlying5) ((zAE (show (((zBa u) % 256 : Nat) : Int) = ((zBa u : Nat) : Int) by omega)))) (.r rfl (zA1 (zC0 u) rfl rfl rfl rfl underlying90 sizeOf5 rfl rfl (by omega)) (.r rfl (zA9 rfl rfl rfl (FlatP.nf (zDW _)) (zCS hb) rfl rfl (.cons .v .nil) sizeOf5 rfl (nle rfl)) .nil)))))) ?_
      have hr10 : (pvNb (zA8 h)).set (zC0 u) [PV.v (.int .u8 ((zBa u : Nat) : Int))] = pvNb (hllS (zA8 h) u) := by rw [zFE, zLB hb (by omega)]
      have hl11 : (pvNb (zA8 h)).length = (pvNb (hllS (zA8 h) u)).length := by first | (rw [← hr10, List.length_set]; done) | simp [zBK]
      have hp12 : (.sl 3500 0 ((pvNb (zA8 h)).length) : AV) = .sl 3500 0 ((pvNb (hllS (zA8 h) u)).length) := by first | exact congrArg (AV.sl 3500 0) hl11 | simp only [hr10, hl11]
      refine zAO (s' := mk [(8, .sl 3500 0 ((pvNb (hllS (zA8 h) u)).length))] [] [(3500, 1, pvNb (hllS (zA8 h) u))]) ?_ ?_
      · exact zAJ ⟨hp12, trivial⟩ trivial ⟨(congrArg (fun x => some (1, x)) hr10), trivial⟩ rfl
      refine zAB (zAA rfl (.m rfl rfl (.r rfl (zCc (ints (hllS (zA8 h) u)) rfl rfl (.give (len := (pvNb (hllS (zA8 h) u)).length) (xs := pvNb (hllS (zA8 h) u)) rfl rfl) rfl (by first | exact zCy _ | exact hS0) underlying90 underlying9 underlying5) (.a rfl rfl .nil))) ?_)
      refine zAI ?_
      exact ends [_] [] (.cons (.tmp rfl) .nil) (.cons (.one .v (.v _)) .nil) (by decide) trivial
     ·
      replace h9 := of_decide_eq_false h9
      refine zAK ?_
      refine zAB ?_
      have hS0 : pvNb (zA8 h) = pvB (ints (hllS (zA8 h) u)) := by rw [← zM9 hb (by omega)]; exact zCy _
      refine zAA rfl (.m rfl rfl (.r rfl (zCc (ints (hllS (zA8 h) u)) rfl rfl (.give (len := (pvNb (zA8 h)).length) (xs := pvNb (zA8 h)) rfl rfl) rfl (by first | exact zCy _ | exact hS0) underlying90 underlying9 underlying5) (.a rfl rfl .nil))) ?_
      refine zAI ?_
      exact ends [_] [] (.cons (.tmp rfl) .nil) (.cons (.one .v (.v _)) .nil) (by decide) trivial
 ·
  have h1' := h1
  replace h1' : (zBk h) = false := zAm h1'
  rw [hok] at h1'; cases h1'
theorem zNA {γ : Gho} (ht : TabG γ) (us : List ByteArray) (hu : ∀ u ∈ us, zBd u = true) (hn : us.length ≤ 400) : ConG γ Tryd.prog 74 [.one (PV.sl false 1 (pvT us))] [] [.one (.v (.string (hllF us)))] := by
 refine zAR func74 rfl rfl rfl rfl ?_
 have hle := zBG us
 refine zAB (zAA rfl (.a rfl rfl .nil) ?_)
 refine zAB ?_
 refine zAB (zAA rfl (.m rfl rfl (.run [700] [] rfl (zAF rfl 700 (X := []) zOc rfl (.val nod) (.cons (.one (.bor (.sl nod))) .nil) (by decide) all_nil .nil (zD0 us (by assumption) (by omega)) rfl rfl (nle rfl)) (.r rfl (zAa (b := true) rfl rfl) .nil))) ?_)
 refine zAT (t := false) rfl (fun h => nomatch h) (fun _ => ?_)
 refine zAK ?_
 refine zAB (zAA rfl (.run [900] [] rfl (zD8 rfl 900 (l := 64) (c := 64) rfl rfl underlying90 inf5 rfl rfl (by decide) rfl (by decide) (by omega) (by omega) (by simp only [maxLen]; omega)) (.r rfl (zCc (ints (List.replicate 64 0)) rfl rfl (.give (len := 64) (xs := List.replicate 64 [PV.v (.int .u8 0)]) rfl rfl) rfl zLE underlying90 underlying9 underlying5) (.a rfl rfl .nil))) ?_)
 refine zAB ?_
 refine zAB (zAA rfl (.m rfl rfl (.r rfl (zAp rfl rfl underlying59) (.m rfl rfl .nil))) ?_)
 refine zAS ?_
 refine zAj (σ := Nat) (fun i => mk [(3, .vs (hllN us i)), (11, .p none (.sl false 1 (pvT us))), (12, .vi ((pvT us).length : Int)), (13, .vi (i:Int))] [] []) (fun i => i ≤ us.length) (fun i => us.length - i) 0 (by simp) (zAJ ⟨(zA3 (by rfl)), rfl, rfl, (zAE (by omega)), trivial⟩ trivial trivial rfl) ?_
 rintro i hG
 replace hG : i ≤ us.length := hG
 refine zAB (zAA rfl (.r rfl (zAt rfl rfl rfl) .nil) ?_)
 refine zAB ?_
 refine zAT (t := decide ((i:Int) < ((pvT us).length : Int))) rfl (fun h1 => ?_) (fun h1 => ?_)
 ·
  replace h1 := of_decide_eq_true h1
  refine zAK ?_
  refine zAB ?_
  refine zAS ?_
  refine zAB ?_
  obtain ⟨x, hx⟩ : ∃ x, us[i]? = some x := ⟨_, List.getElem?_eq_getElem (by omega)⟩
  have huo := hu _ (List.mem_of_getElem? hx)
  have hus := zC7 huo
  refine zAA rfl (.r rfl (zAq rfl rfl rfl underlying59 sizeOf9 rfl (by omega) (zCk hx)) (.r rfl (zAx rfl rfl isAgg9 rfl) (.a rfl rfl .nil))) ?_
  refine zAA rfl (.m rfl rfl (.m rfl rfl (.run [1900] [] rfl (zCX (.inr rfl) rfl 1900 (X := []) en105 rfl (.val nod) (.cons (.one (.bor .v)) (.cons (.one (.bor .v)) .nil)) (by decide) all_nil .nil (zLw ht (hllN us i) (zEE us i) x huo) rfl rfl (nle rfl)) (.a rfl rfl .nil)))) ?_
  refine zAA rfl (.r rfl (zAW rfl rfl rfl (by omega)) (.m rfl rfl .nil)) ?_
  refine nxt (Q := fun _ _ => False) (z := i) (i + 1) ?_ ?_ ?_
  ·
   show (i + 1) ≤ us.length
   omega
  ·
   show us.length - (i + 1) < us.length - i
   omega
  · exact zAJ ⟨(zA3 (by rw [zJJ hx])), rfl, rfl, (zAE (by omega)), trivial⟩ trivial trivial rfl
 ·
  replace h1 := of_decide_eq_false h1
  refine zAi ?_
  refine zAB (zAA rfl (.m rfl rfl (.a rfl rfl .nil)) ?_)
  refine zAI ?_
  exact ends [_] [] (.cons (.tmp (zA3 (by rw [show i = us.length by omega]; rfl))) .nil) (.cons (.one .v (.v _)) .nil) (by decide) trivial
theorem zLj (us : List ByteArray) (hu : ∀ u ∈ us, zBd u = true) (hn : us.length ≤ 400) : Con Tryd.prog 32 [.one (PV.sl false 1 (pvT us))] [] [.one (.v (.string (hllF us)))] := by
 refine zAR func32 rfl rfl rfl rfl ?_
 have hle := zBG us
 refine zAB (zAA rfl (.a rfl rfl .nil) ?_)
 refine zAB ?_
 refine zAB (zAA rfl (.m rfl rfl (.run [600] [] rfl (zAF rfl 600 (X := []) en57 rfl (.val nod) (.cons (.one (.bor (.sl nod))) .nil) (by decide) all_nil .nil (zDe us (by assumption) (by omega)) rfl rfl (nle rfl)) (.r rfl (zAa (b := true) rfl rfl) .nil))) ?_)
 refine zAT (t := false) rfl (fun h => nomatch h) (fun _ => ?_)
 refine zAK ?_
 refine zAB (zAA rfl (.run [800] [] rfl (zD8 rfl 800 (l := 64) (c := 64) rfl rfl underlying90 inf5 rfl rfl (by decide) rfl (by decide) (by omega) (by omega) (by simp only [maxLen]; omega)) (.r rfl (zCc (ints (List.replicate 64 0)) rfl rfl (.give (len := 64) (xs := List.replicate 64 [PV.v (.int .u8 0)]) rfl rfl) rfl zLE underlying90 underlying9 underlying5) (.a rfl rfl .nil))) ?_)
 refine zAB ?_
 refine zAB (zAA rfl (.a rfl rfl .nil) ?_)
 refine zAS ?_
 refine zAj (σ := Nat) (fun i => mk [(0, .p none (.sl false 1 (pvT us))), (3, .vs (hllN us i)), (4, .vi (i:Int))] [] []) (fun i => i ≤ us.length) (fun i => us.length - i) 0 (by simp) (zAJ ⟨rfl, (zA3 (by rfl)), (zAE (by omega)), trivial⟩ trivial trivial rfl) ?_
 rintro i hG
 replace hG : i ≤ us.length := hG
 refine zAB ?_
 refine zAB (zAA rfl (.m rfl rfl (.m rfl rfl (.r rfl (zAp rfl rfl underlying59) (.r rfl (zAt rfl rfl rfl) .nil)))) ?_)
 refine zAT (t := decide ((i:Int) < ((pvT us).length : Int))) rfl (fun h1 => ?_) (fun h1 => ?_)
 ·
  replace h1 := of_decide_eq_true h1
  refine zAK ?_
  refine zAB ?_
  refine zAS ?_
  obtain ⟨x, hx⟩ : ∃ x, us[i]? = some x := ⟨_, List.getElem?_eq_getElem (by omega)⟩
  have huo := hu _ (List.mem_of_getElem? hx)
  have hus := zC7 huo
  refine zAA rfl (.m rfl rfl (.m rfl rfl (.m rfl rfl (.r rfl (zAq rfl rfl rfl underlying59 sizeOf9 rfl (by omega) (zCk hx)) (.r rfl (zAx rfl rfl isAgg9 rfl) (.run [2100] [] rfl (zAF rfl 2100 (X := []) en60 rfl (.val nod) (.cons (.one (.bor .v)) (.cons (.one (.bor .v)) .nil)) (by decide) all_nil .nil (zJ3 (hllN us i) (zEE us i) x huo) rfl rfl (nle rfl)) (.a rfl rfl .nil))))))) ?_
  refine zAA rfl (.m rfl rfl (.r rfl (zAW rfl rfl rfl (by omega)) (.a rfl rfl .nil))) ?_
  refine nxt (Q := fun _ _ => False) (z := i) (i + 1) ?_ ?_ ?_
  ·
   show (i + 1) ≤ us.length
   omega
  ·
   show us.length - (i + 1) < us.length - i
   omega
  · exact zAJ ⟨rfl, (zA3 (by rw [zJJ hx])), (zAE (by omega)), trivial⟩ trivial trivial rfl
 ·
  replace h1 := of_decide_eq_false h1
  refine zAi ?_
  refine zAB (zAA rfl (.m rfl rfl (.a rfl rfl .nil)) ?_)
  refine zAI ?_
  exact ends [_] [] (.cons (.tmp (zA3 (by rw [show i = us.length by omega]; rfl))) .nil) (.cons (.one .v (.v _)) .nil) (by decide) trivial
end Go.Rl

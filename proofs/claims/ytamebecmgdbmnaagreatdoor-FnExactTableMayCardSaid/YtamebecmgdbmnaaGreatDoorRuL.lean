/- Promises of functions, proved by walks over their operations; no conditions beyond those that each theorem states. -/
import Derived.Test.YtamebecmgdbmnaaGreatDoorRuJ
import Derived.Test.YtamebecmgdbmnaaGreatDoorRlT
import Derived.Shelf.Spec.TrailingZeros
import Derived.Lib.LaidTab
set_option linter.unusedSimpArgs false
set_option linter.unusedVariables false
namespace Go.Rl
open Go.Proofs Go.Proofs.Tryz
set_option maxRecDepth 1000000
set_option maxHeartbeats 2000000
theorem zM6 : En Tryz.prog 111 := zAl func111 (by decide) rfl
theorem en79 : En Tryz.prog 79 := zAl func79 (by decide) rfl
theorem en110 : En Tryz.prog 110 := zAl func110 (by decide) rfl
theorem en109 : En Tryz.prog 109 := zAl func109 (by decide) rfl
theorem en77 : En Tryz.prog 77 := zAl func77 (by decide) rfl
theorem en76 : En Tryz.prog 76 := zAl func76 (by decide) rfl
theorem zLI (a b : Flt) (w : World) : (Op.equalIn 10000 64 (.agg ⟨[.int .i64 a.kind, .int .i64 a.seed, .int .i64 a.probes, .string a.bits]⟩) (.agg ⟨[.int .i64 b.kind, .int .i64 b.seed, .int .i64 b.probes, .string b.bits]⟩)).run Tryz.prog w = .ok (decide (a = b)) w := by
 rw [show (10000 : Nat) = 9999 + 1 from rfl, run_equalIn_agg w 9999 64 _ _ underlying64 (by kernel_rfl)]
 rw [show (Tryz.prog.fieldsOf 64).toList = [⟨"Kind", 2, 0, false, "", "", 0⟩, ⟨"Seed", 2, 1, false, "", "", 8⟩, ⟨"Probes", 2, 2, false, "", "", 16⟩, ⟨"Bits", 9, 3, false, "", "", 24⟩] from rfl]
 rw [show (9999 : Nat) = 9998 + 1 from rfl]
 simp [Op.eqFields, part, isAgg2, sizeOf2, isAgg9, sizeOf9, run_equalIn_int (h := underlying2), run_equalIn_string (h := underlying9), zLj]
 cases a; cases b
 simp only [Flt.mk.injEq]
 (repeat' split) <;> simp_all
theorem zDA (f : Flt) (hf : f.bits.size ≤ 9000000000000000000) : Con Tryz.prog 111 [.agg [PV.v (.int .i64 f.kind), PV.v (.int .i64 f.seed), PV.v (.int .i64 f.probes), PV.v (.string f.bits)]] [] [.one (.v (.bool (zAY f)))] := by
 refine zAR func111 rfl rfl rfl rfl ?_
 refine zAB (zAA rfl (.run [] [1] rfl (zCF rfl 1 rfl rfl (by decide) rfl (by decide)) (.a rfl rfl .nil)) ?_)
 refine zAB ?_
 refine zAB (zAA rfl (.r rfl (zAC rfl rfl underlying64 rfl sizeOf2 (by decide)) (.r rfl (zAD rfl rfl rfl isAgg2 rfl) .nil)) ?_)
 refine zAS ?_
 refine zAB (zAA rfl (.r rfl (zA9 rfl rfl rfl) (.a rfl rfl .nil)) ?_)
 refine zAT (t := decide (f.kind = 0)) rfl (fun h1 => ?_) (fun h1 => ?_)
 ·
  replace h1 := of_decide_eq_true h1
  refine zAB (zAA rfl (.r rfl (zAW rfl rfl rfl isAgg64 sizeOf64 (nle rfl)) (.r rfl (zAt (pl := [(0, 1), (1, 1), (2, 1), (3, 1)]) rfl underlying64 zCm (by kernel_rfl) rfl rfl) (.r rfl (zJy rfl rfl rfl rfl rfl Tryz.eqGuardType64 (fun w => zLI f (⟨0, 0, 0, ⟨#[]⟩⟩ : Flt) w)) (.a rfl rfl .nil)))) ?_)
  refine zAK ?_
  exact ends [_] [] (.cons (.tmp (zAE (zOJ h1))) .nil) (.cons (.one .v (.v _)) .nil) (by decide) trivial
 ·
  replace h1 := of_decide_eq_false h1
  refine zAB (zAA rfl (.r rfl (zA9 rfl rfl rfl) (.a rfl rfl .nil)) ?_)
  refine zAT (t := decide (f.kind = 1)) rfl (fun h2 => ?_) (fun h2 => ?_)
  ·
   replace h2 := of_decide_eq_true h2
   refine zAB ?_
   refine zAQ (s' := mk [(1, .ptr 1 0)] [(1, [.vi f.kind, .vi f.seed, .vi f.probes, .vs f.bits])] []) ?_ ?_
   · exact zAJ ⟨rfl, trivial⟩ ⟨rfl, trivial⟩ trivial rfl
   rcases bfc (decide (f.seed = 0)) with h3 | h3
   ·
    have h3' := h3
    replace h3' := of_decide_eq_false h3'
    refine zAA rfl (.r rfl (zAC rfl rfl underlying64 rfl sizeOf2 (by decide)) (.r rfl (zAD rfl rfl rfl isAgg2 rfl) (.r rfl (zAI (zA9 rfl rfl rfl) (zAE h3)) (.m rfl rfl (.not rfl (.not rfl (.not rfl (.r rfl (zAg rfl rfl) (.m rfl rfl (.not rfl (.not rfl (.not rfl (.not rfl (.r rfl (zAg rfl rfl) (.a rfl rfl .nil))))))))))))))) ?_
    refine zAK ?_
    exact ends [_] [] (.cons (.tmp (zAE (by rw [zIS h2]; simp [h3']))) .nil) (.cons (.one .v (.v _)) .nil) (by decide) trivial
   ·
    have h3' := h3
    replace h3' := of_decide_eq_true h3'
    rcases bfc (zAi f.probes 1 30) with h4 | h4
    ·
     have h4' := h4
     refine zAA rfl (.r rfl (zAC rfl rfl underlying64 rfl sizeOf2 (by decide)) (.r rfl (zAD rfl rfl rfl isAgg2 rfl) (.r rfl (zAI (zA9 rfl rfl rfl) (zAE h3)) (.m rfl rfl (.r rfl (zAC rfl rfl underlying64 rfl sizeOf2 (by decide)) (.r rfl (zAD rfl rfl rfl isAgg2 rfl) (.run [1900] [] rfl (zAF rfl 1900 (X := []) en60 rfl (.val nod) (.cons (.one (.bor .v)) (.cons (.one (.bor .v)) (.cons (.one (.bor .v)) .nil))) (by decide) all_nil .nil (zBU f.probes 1 30) rfl rfl (nle rfl)) (.r rfl (zAh rfl rfl) (.r rfl (zAI (zBF rfl) (zAE h4)) (.not rfl (.not rfl (.not rfl (.not rfl (.r rfl (zAg rfl rfl) (.a rfl rfl .nil))))))))))))))) ?_
     refine zAK ?_
     exact ends [_] [] (.cons (.tmp (zAE (by rw [zIS h2]; simp [h3', h4']))) .nil) (.cons (.one .v (.v _)) .nil) (by decide) trivial
    ·
     have h4' := h4
     refine zAA rfl (.r rfl (zAC rfl rfl underlying64 rfl sizeOf2 (by decide)) (.r rfl (zAD rfl rfl rfl isAgg2 rfl) (.r rfl (zAI (zA9 rfl rfl rfl) (zAE h3)) (.m rfl rfl (.r rfl (zAC rfl rfl underlying64 rfl sizeOf2 (by decide)) (.r rfl (zAD rfl rfl rfl isAgg2 rfl) (.run [1900] [] rfl (zAF rfl 1900 (X := []) en60 rfl (.val nod) (.cons (.one (.bor .v)) (.cons (.one (.bor .v)) (.cons (.one (.bor .v)) .nil))) (by decide) all_nil .nil (zBU f.probes 1 30) rfl rfl (nle rfl)) (.r rfl (zAh rfl rfl) (.r rfl (zAI (zBF rfl) (zAE h4)) (.r rfl (zAC rfl rfl underlying64 rfl sizeOf9 (by decide)) (.r rfl (zAD rfl rfl rfl isAgg9 rfl) (.r rfl (zAO rfl rfl underlying9) (.run [2500] [] rfl (zAF rfl 2500 (X := []) en60 rfl (.val nod) (.cons (.one (.bor .v)) (.cons (.one (.bor .v)) (.cons (.one (.bor .v)) .nil))) (by decide) all_nil .nil (zBU (f.bits.size : Int) 1 1000) rfl rfl (nle rfl)) (.r rfl (zAh rfl rfl) (.a rfl rfl .nil))))))))))))))) ?_
     refine zAK ?_
     exact ends [_] [] (.cons (.tmp (zAE (by rw [zIS h2]; simp [h3', h4']))) .nil) (.cons (.one .v (.v _)) .nil) (by decide) trivial
  ·
   replace h2 := of_decide_eq_false h2
   refine zAB (zAA rfl (.r rfl (zA9 rfl rfl rfl) (.a rfl rfl .nil)) ?_)
   refine zAT (t := decide (f.kind = 2)) rfl (fun h5 => ?_) (fun h5 => ?_)
   ·
    replace h5 := of_decide_eq_true h5
    refine zAB ?_
    refine zAB ?_
    refine zAQ (s' := mk [(1, .ptr 1 0)] [(1, [.vi f.kind, .vi f.seed, .vi f.probes, .vs f.bits])] []) ?_ ?_
    · exact zAJ ⟨rfl, trivial⟩ ⟨rfl, trivial⟩ trivial rfl
    rcases bfc (!(decide (f.probes = 0))) with h6 | h6
    ·
     have h6' := h6
     replace h6' : f.probes = 0 := of_decide_eq_true (zAq h6')
     rcases bfc (!(zAi f.seed 0 3)) with h7 | h7
     ·
      have h7' := h7
      replace h7' : (zAi f.seed 0 3) = true := zAq h7'
      refine zAA rfl (.r rfl (zAC rfl rfl underlying64 rfl sizeOf2 (by decide)) (.r rfl (zAD rfl rfl rfl isAgg2 rfl) (.r rfl (zAI (zB8 rfl rfl rfl) (zAE h6)) (.m rfl rfl (.r rfl (zAC rfl rfl underlying64 rfl sizeOf2 (by decide)) (.r rfl (zAD rfl rfl rfl isAgg2 rfl) (.run [3500] [] rfl (zAF rfl 3500 (X := []) en60 rfl (.val nod) (.cons (.one (.bor .v)) (.cons (.one (.bor .v)) (.cons (.one (.bor .v)) .nil))) (by decide) all_nil .nil (zBU f.seed 0 3) rfl rfl (nle rfl)) (.r rfl (zAI (zAa (b := zAi f.seed 0 3) rfl rfl) (zAE h7)) (.r rfl (zAg rfl rfl) (.m rfl rfl (.r rfl (zAC rfl rfl underlying64 rfl sizeOf9 (by decide)) (.r rfl (zAD rfl rfl rfl isAgg9 rfl) (.r rfl (zAO rfl rfl underlying9) (.run [4200] [] rfl (zAF rfl 4200 (X := []) en60 rfl (.val nod) (.cons (.one (.bor .v)) (.cons (.one (.bor .v)) (.cons (.one (.bor .v)) .nil))) (by decide) all_nil .nil (zBU (f.bits.size : Int) 20 600) rfl rfl (nle rfl)) (.r rfl (zAa (b := zAi (f.bits.size : Int) 20 600) rfl rfl) (.r rfl (zAg rfl rfl) .nil)))))))))))))))) ?_
      refine zAT (t := (!(zAi (f.bits.size : Int) 20 600))) rfl (fun h8 => ?_) (fun h8 => ?_)
      ·
       replace h8 : (zAi (f.bits.size : Int) 20 600) = false := zAp h8
       refine zAB ?_
       refine zAQ (s' := mk [] [] []) ?_ ?_
       · exact zAJ trivial trivial trivial rfl
       refine zAA rfl (.a rfl rfl .nil) ?_
       refine zAK ?_
       exact ends [_] [] (.cons (.tmp (zAE (by rw [zFh h5]; simp [h6', h7', h8]))) .nil) (.cons (.one .v (.v _)) .nil) (by decide) trivial
      ·
       replace h8 : (zAi (f.bits.size : Int) 20 600) = true := zAq h8
       refine zAM ?_
       refine zAB ?_
       refine zAB ?_
       refine zAQ (s' := mk [(1, .ptr 1 0)] [(1, [.vi f.kind, .vi f.seed, .vi f.probes, .vs f.bits])] []) ?_ ?_
       · exact zAJ ⟨rfl, trivial⟩ ⟨rfl, trivial⟩ trivial rfl
       refine zAA rfl (.r rfl (zAC rfl rfl underlying64 rfl sizeOf9 (by decide)) (.r rfl (zAD rfl rfl rfl isAgg9 rfl) (.r rfl (zAO rfl rfl underlying9) (.m rfl rfl .nil)))) ?_
       refine zAS ?_
       refine zAo (σ := Nat) (fun i => mk [(1, .ptr 1 0), (47, .vi (f.bits.size : Int)), (48, .vi (i:Int))] [(1, [.vi f.kind, .vi f.seed, .vi f.probes, .vs f.bits])] []) (fun i => i ≤ f.bits.size ∧ zDG f.bits 127 i) (fun i => f.bits.size - i) 0 ⟨Nat.zero_le _, zEU _ _⟩ (zAJ ⟨rfl, rfl, (zAG (by omega)), trivial⟩ ⟨rfl, trivial⟩ trivial rfl) ?_
       rintro i hG
       replace hG : i ≤ f.bits.size ∧ zDG f.bits 127 i := hG
       obtain ⟨hi, hS⟩ := hG
       refine zAB (zAA rfl (.r rfl (zAz rfl rfl rfl) .nil) ?_)
       refine zAB ?_
       refine zAT (t := decide ((i:Int) < (f.bits.size : Int))) rfl (fun h9 => ?_) (fun h9 => ?_)
       ·
        replace h9 := of_decide_eq_true h9
        refine zAM ?_
        refine zAB ?_
        refine zAS ?_
        refine zAB (zAA rfl (.m rfl rfl (.a rfl rfl .nil)) ?_)
        refine zAB ?_
        obtain ⟨b, hb⟩ : ∃ b : UInt8, f.bits[i]? = some b := ⟨_, getElem?_pos f.bits i (by omega)⟩
        refine zAA rfl (.r rfl (zAC rfl rfl underlying64 rfl sizeOf9 (by decide)) (.r rfl (zAD rfl rfl rfl isAgg9 rfl) (.m rfl rfl (.r rfl (zBY rfl rfl rfl underlying9 (by omega) hb) (.r rfl (zBH rfl rfl rfl) .nil))))) ?_
        refine zAT (t := decide (127 < (b.toNat : Int))) rfl (fun h10 => ?_) (fun h10 => ?_)
        ·
         replace h10 := of_decide_eq_true h10
         refine zAB (zAA rfl (.a rfl rfl .nil) ?_)
         refine zAK ?_
         exact ends [_] [] (.cons (.tmp (zAE (by rw [zFh h5]; simp [h6', h7', h8, zLG (m := 127) hb (by omega)]))) .nil) (.cons (.one .v (.v _)) .nil) (by decide) trivial
        ·
         replace h10 := of_decide_eq_false h10
         refine zAM ?_
         refine zAA rfl (.r rfl (zAd rfl rfl rfl (by omega)) (.m rfl rfl .nil)) ?_
         refine nxt (Q := fun _ _ => False) (z := i) (i + 1) ?_ ?_ ?_
         ·
          show (i + 1) ≤ f.bits.size ∧ zDG f.bits 127 (i + 1)
          exact ⟨by omega, zEV hS hb (by omega)⟩
         ·
          show f.bits.size - (i + 1) < f.bits.size - i
          omega
         · exact zAJ ⟨rfl, rfl, (zAG (by omega)), trivial⟩ ⟨rfl, trivial⟩ trivial rfl
       ·
        replace h9 := of_decide_eq_false h9
        refine zAn ?_
        refine zAB (zAA rfl (.a rfl rfl .nil) ?_)
        refine zAK ?_
        exact ends [_] [] (.cons (.tmp (zAE (by rw [zFh h5]; simp [h6', h7', h8, zIg hS (by omega)]))) .nil) (.cons (.one .v (.v _)) .nil) (by decide) trivial
     ·
      have h7' := h7
      replace h7' : (zAi f.seed 0 3) = false := zAp h7'
      refine zAA rfl (.r rfl (zAC rfl rfl underlying64 rfl sizeOf2 (by decide)) (.r rfl (zAD rfl rfl rfl isAgg2 rfl) (.r rfl (zAI (zB8 rfl rfl rfl) (zAE h6)) (.m rfl rfl (.r rfl (zAC rfl rfl underlying64 rfl sizeOf2 (by decide)) (.r rfl (zAD rfl rfl rfl isAgg2 rfl) (.run [3500] [] rfl (zAF rfl 3500 (X := []) en60 rfl (.val nod) (.cons (.one (.bor .v)) (.cons (.one (.bor .v)) (.cons (.one (.bor .v)) .nil))) (by decide) all_nil .nil (zBU f.seed 0 3) rfl rfl (nle rfl)) (.r rfl (zAI (zAa (b := zAi f.seed 0 3) rfl rfl) (zAE h7)) (.r rfl (zAg rfl rfl) (.m rfl rfl (.not rfl (.not rfl (.not rfl (.not rfl (.not rfl (.r rfl (zAh rfl rfl) .nil)))))))))))))))) ?_
      refine zAT (t := true) rfl (fun _ => ?_) (fun h => nomatch h)
      refine zAB ?_
      refine zAQ (s' := mk [] [] []) ?_ ?_
      · exact zAJ trivial trivial trivial rfl
      refine zAA rfl (.a rfl rfl .nil) ?_
      refine zAK ?_
      exact ends [_] [] (.cons (.tmp (zAE (by rw [zFh h5]; simp [h6', h7']))) .nil) (.cons (.one .v (.v _)) .nil) (by decide) trivial
    ·
     have h6' := h6
     replace h6' : ¬ (f.probes = 0) := of_decide_eq_false (zAp h6')
     refine zAA rfl (.r rfl (zAC rfl rfl underlying64 rfl sizeOf2 (by decide)) (.r rfl (zAD rfl rfl rfl isAgg2 rfl) (.r rfl (zAI (zB8 rfl rfl rfl) (zAE h6)) (.m rfl rfl (.not rfl (.not rfl (.not rfl (.not rfl (.r rfl (zAh rfl rfl) (.m rfl rfl (.not rfl (.not rfl (.not rfl (.not rfl (.not rfl (.r rfl (zAh rfl rfl) .nil)))))))))))))))) ?_
     refine zAT (t := true) rfl (fun _ => ?_) (fun h => nomatch h)
     refine zAB ?_
     refine zAQ (s' := mk [] [] []) ?_ ?_
     · exact zAJ trivial trivial trivial rfl
     refine zAA rfl (.a rfl rfl .nil) ?_
     refine zAK ?_
     exact ends [_] [] (.cons (.tmp (zAE (by rw [zFh h5]; simp [h6']))) .nil) (.cons (.one .v (.v _)) .nil) (by decide) trivial
   ·
    replace h5 := of_decide_eq_false h5
    refine zAM ?_
    refine zAB (zAA rfl (.a rfl rfl .nil) ?_)
    refine zAK ?_
    exact ends [_] [] (.cons (.tmp (zAE (fok_x h1 h2 h5))) .nil) (.cons (.one .v (.v _)) .nil) (by decide) trivial
theorem zDI (f : Flt) (hf : f.bits.size ≤ 9000000000000000000) : Con Tryz.prog 79 [.agg [PV.v (.int .i64 f.kind), PV.v (.int .i64 f.seed), PV.v (.int .i64 f.probes), PV.v (.string f.bits)]] [] [.one (.v (.bool (zAY f)))] := by
 refine zAR func79 rfl rfl rfl rfl ?_
 refine zAB (zAA rfl (.run [] [1] rfl (zCF rfl 1 rfl rfl (by decide) rfl (by decide)) (.a rfl rfl .nil)) ?_)
 refine zAB ?_
 refine zAB (zAA rfl (.r rfl (zAC rfl rfl underlying64 rfl sizeOf2 (by decide)) (.r rfl (zAD rfl rfl rfl isAgg2 rfl) .nil)) ?_)
 refine zAS ?_
 refine zAB (zAA rfl (.r rfl (zA9 rfl rfl rfl) (.a rfl rfl .nil)) ?_)
 refine zAT (t := decide (f.kind = 0)) rfl (fun h1 => ?_) (fun h1 => ?_)
 ·
  replace h1 := of_decide_eq_true h1
  refine zAB (zAA rfl (.r rfl (zAW rfl rfl rfl isAgg64 sizeOf64 (nle rfl)) (.r rfl (zAt (pl := [(0, 1), (1, 1), (2, 1), (3, 1)]) rfl underlying64 zCm (by kernel_rfl) rfl rfl) (.r rfl (zJy rfl rfl rfl rfl rfl Tryz.eqGuardType64 (fun w => zLI f (⟨0, 0, 0, ⟨#[]⟩⟩ : Flt) w)) (.a rfl rfl .nil)))) ?_)
  refine zAK ?_
  exact ends [_] [] (.cons (.tmp (zAE (zOJ h1))) .nil) (.cons (.one .v (.v _)) .nil) (by decide) trivial
 ·
  replace h1 := of_decide_eq_false h1
  refine zAB (zAA rfl (.r rfl (zA9 rfl rfl rfl) (.a rfl rfl .nil)) ?_)
  refine zAT (t := decide (f.kind = 1)) rfl (fun h2 => ?_) (fun h2 => ?_)
  ·
   replace h2 := of_decide_eq_true h2
   refine zAB ?_
   refine zAQ (s' := mk [(1, .ptr 1 0)] [(1, [.vi f.kind, .vi f.seed, .vi f.probes, .vs f.bits])] []) ?_ ?_
   · exact zAJ ⟨rfl, trivial⟩ ⟨rfl, trivial⟩ trivial rfl
   rcases bfc (decide (f.seed = 0)) with h3 | h3
   ·
    have h3' := h3
    replace h3' := of_decide_eq_false h3'
    refine zAA rfl (.r rfl (zAC rfl rfl underlying64 rfl sizeOf2 (by decide)) (.r rfl (zAD rfl rfl rfl isAgg2 rfl) (.r rfl (zAI (zA9 rfl rfl rfl) (zAE h3)) (.m rfl rfl (.not rfl (.not rfl (.not rfl (.r rfl (zAg rfl rfl) (.m rfl rfl (.not rfl (.not rfl (.not rfl (.not rfl (.r rfl (zAg rfl rfl) (.a rfl rfl .nil))))))))))))))) ?_
    refine zAK ?_
    exact ends [_] [] (.cons (.tmp (zAE (by rw [zIS h2]; simp [h3']))) .nil) (.cons (.one .v (.v _)) .nil) (by decide) trivial
   ·
    have h3' := h3
    replace h3' := of_decide_eq_true h3'
    rcases bfc (zAi f.probes 1 30) with h4 | h4
    ·
     have h4' := h4
     refine zAA rfl (.r rfl (zAC rfl rfl underlying64 rfl sizeOf2 (by decide)) (.r rfl (zAD rfl rfl rfl isAgg2 rfl) (.r rfl (zAI (zA9 rfl rfl rfl) (zAE h3)) (.m rfl rfl (.r rfl (zAC rfl rfl underlying64 rfl sizeOf2 (by decide)) (.r rfl (zAD rfl rfl rfl isAgg2 rfl) (.run [1900] [] rfl (zAF rfl 1900 (X := []) en71 rfl (.val nod) (.cons (.one (.bor .v)) (.cons (.one (.bor .v)) (.cons (.one (.bor .v)) .nil))) (by decide) all_nil .nil (zBv f.probes 1 30) rfl rfl (nle rfl)) (.r rfl (zAh rfl rfl) (.r rfl (zAI (zBF rfl) (zAE h4)) (.not rfl (.not rfl (.not rfl (.not rfl (.r rfl (zAg rfl rfl) (.a rfl rfl .nil))))))))))))))) ?_
     refine zAK ?_
     exact ends [_] [] (.cons (.tmp (zAE (by rw [zIS h2]; simp [h3', h4']))) .nil) (.cons (.one .v (.v _)) .nil) (by decide) trivial
    ·
     have h4' := h4
     refine zAA rfl (.r rfl (zAC rfl rfl underlying64 rfl sizeOf2 (by decide)) (.r rfl (zAD rfl rfl rfl isAgg2 rfl) (.r rfl (zAI (zA9 rfl rfl rfl) (zAE h3)) (.m rfl rfl (.r rfl (zAC rfl rfl underlying64 rfl sizeOf2 (by decide)) (.r rfl (zAD rfl rfl rfl isAgg2 rfl) (.run [1900] [] rfl (zAF rfl 1900 (X := []) en71 rfl (.val nod) (.cons (.one (.bor .v)) (.cons (.one (.bor .v)) (.cons (.one (.bor .v)) .nil))) (by decide) all_nil .nil (zBv f.probes 1 30) rfl rfl (nle rfl)) (.r rfl (zAh rfl rfl) (.r rfl (zAI (zBF rfl) (zAE h4)) (.r rfl (zAC rfl rfl underlying64 rfl sizeOf9 (by decide)) (.r rfl (zAD rfl rfl rfl isAgg9 rfl) (.r rfl (zAO rfl rfl underlying9) (.run [2500] [] rfl (zAF rfl 2500 (X := []) en71 rfl (.val nod) (.cons (.one (.bor .v)) (.cons (.one (.bor .v)) (.cons (.one (.bor .v)) .nil))) (by decide) all_nil .nil (zBv (f.bits.size : Int) 1 1000) rfl rfl (nle rfl)) (.r rfl (zAh rfl rfl) (.a rfl rfl .nil))))))))))))))) ?_
     refine zAK ?_
     exact ends [_] [] (.cons (.tmp (zAE (by rw [zIS h2]; simp [h3', h4']))) .nil) (.cons (.one .v (.v _)) .nil) (by decide) trivial
  ·
   replace h2 := of_decide_eq_false h2
   refine zAB (zAA rfl (.r rfl (zA9 rfl rfl rfl) (.a rfl rfl .nil)) ?_)
   refine zAT (t := decide (f.kind = 2)) rfl (fun h5 => ?_) (fun h5 => ?_)
   ·
    replace h5 := of_decide_eq_true h5
    refine zAB ?_
    refine zAB ?_
    refine zAQ (s' := mk [(1, .ptr 1 0)] [(1, [.vi f.kind, .vi f.seed, .vi f.probes, .vs f.bits])] []) ?_ ?_
    · exact zAJ ⟨rfl, trivial⟩ ⟨rfl, trivial⟩ trivial rfl
    rcases bfc (!(decide (f.probes = 0))) with h6 | h6
    ·
     have h6' := h6
     replace h6' : f.probes = 0 := of_decide_eq_true (zAq h6')
     rcases bfc (!(zAi f.seed 0 3)) with h7 | h7
     ·
      have h7' := h7
      replace h7' : (zAi f.seed 0 3) = true := zAq h7'
      refine zAA rfl (.r rfl (zAC rfl rfl underlying64 rfl sizeOf2 (by decide)) (.r rfl (zAD rfl rfl rfl isAgg2 rfl) (.r rfl (zAI (zB8 rfl rfl rfl) (zAE h6)) (.m rfl rfl (.r rfl (zAC rfl rfl underlying64 rfl sizeOf2 (by decide)) (.r rfl (zAD rfl rfl rfl isAgg2 rfl) (.run [3500] [] rfl (zAF rfl 3500 (X := []) en71 rfl (.val nod) (.cons (.one (.bor .v)) (.cons (.one (.bor .v)) (.cons (.one (.bor .v)) .nil))) (by decide) all_nil .nil (zBv f.seed 0 3) rfl rfl (nle rfl)) (.r rfl (zAI (zAa (b := zAi f.seed 0 3) rfl rfl) (zAE h7)) (.r rfl (zAg rfl rfl) (.m rfl rfl (.r rfl (zAC rfl rfl underlying64 rfl sizeOf9 (by decide)) (.r rfl (zAD rfl rfl rfl isAgg9 rfl) (.r rfl (zAO rfl rfl underlying9) (.run [4200] [] rfl (zAF rfl 4200 (X := []) en71 rfl (.val nod) (.cons (.one (.bor .v)) (.cons (.one (.bor .v)) (.cons (.one (.bor .v)) .nil))) (by decide) all_nil .nil (zBv (f.bits.size : Int) 20 600) rfl rfl (nle rfl)) (.r rfl (zAa (b := zAi (f.bits.size : Int) 20 600) rfl rfl) (.r rfl (zAg rfl rfl) .nil)))))))))))))))) ?_
      refine zAT (t := (!(zAi (f.bits.size : Int) 20 600))) rfl (fun h8 => ?_) (fun h8 => ?_)
      ·
       replace h8 : (zAi (f.bits.size : Int) 20 600) = false := zAp h8
       refine zAB ?_
       refine zAQ (s' := mk [] [] []) ?_ ?_
       · exact zAJ trivial trivial trivial rfl
       refine zAA rfl (.a rfl rfl .nil) ?_
       refine zAK ?_
       exact ends [_] [] (.cons (.tmp (zAE (by rw [zFh h5]; simp [h6', h7', h8]))) .nil) (.cons (.one .v (.v _)) .nil) (by decide) trivial
      ·
       replace h8 : (zAi (f.bits.size : Int) 20 600) = true := zAq h8
       refine zAM ?_
       refine zAB ?_
       refine zAB ?_
       refine zAQ (s' := mk [(1, .ptr 1 0)] [(1, [.vi f.kind, .vi f.seed, .vi f.probes, .vs f.bits])] []) ?_ ?_
       · exact zAJ ⟨rfl, trivial⟩ ⟨rfl, trivial⟩ trivial rfl
       refine zAA rfl (.a rfl rfl .nil) ?_
       refine zAS ?_
       refine zAo (σ := Nat) (fun i => mk [(1, .ptr 1 0), (3, .vi (i:Int))] [(1, [.vi f.kind, .vi f.seed, .vi f.probes, .vs f.bits])] []) (fun i => i ≤ f.bits.size ∧ zDG f.bits 127 i) (fun i => f.bits.size - i) 0 ⟨Nat.zero_le _, zEU _ _⟩ (zAJ ⟨rfl, (zAG (by omega)), trivial⟩ ⟨rfl, trivial⟩ trivial rfl) ?_
       rintro i hG
       replace hG : i ≤ f.bits.size ∧ zDG f.bits 127 i := hG
       obtain ⟨hi, hS⟩ := hG
       refine zAB ?_
       refine zAB (zAA rfl (.m rfl rfl (.r rfl (zAC rfl rfl underlying64 rfl sizeOf9 (by decide)) (.r rfl (zAD rfl rfl rfl isAgg9 rfl) (.r rfl (zAO rfl rfl underlying9) (.r rfl (zAz rfl rfl rfl) .nil))))) ?_)
       refine zAT (t := decide ((i:Int) < (f.bits.size : Int))) rfl (fun h9 => ?_) (fun h9 => ?_)
       ·
        replace h9 := of_decide_eq_true h9
        refine zAM ?_
        refine zAB ?_
        refine zAS ?_
        refine zAB ?_
        obtain ⟨b, hb⟩ : ∃ b : UInt8, f.bits[i]? = some b := ⟨_, getElem?_pos f.bits i (by omega)⟩
        refine zAA rfl (.r rfl (zAC rfl rfl underlying64 rfl sizeOf9 (by decide)) (.r rfl (zAD rfl rfl rfl isAgg9 rfl) (.m rfl rfl (.r rfl (zBY rfl rfl rfl underlying9 (by omega) hb) (.r rfl (zBH rfl rfl rfl) .nil))))) ?_
        refine zAT (t := decide (127 < (b.toNat : Int))) rfl (fun h10 => ?_) (fun h10 => ?_)
        ·
         replace h10 := of_decide_eq_true h10
         refine zAB (zAA rfl (.a rfl rfl .nil) ?_)
         refine zAK ?_
         exact ends [_] [] (.cons (.tmp (zAE (by rw [zFh h5]; simp [h6', h7', h8, zLG (m := 127) hb (by omega)]))) .nil) (.cons (.one .v (.v _)) .nil) (by decide) trivial
        ·
         replace h10 := of_decide_eq_false h10
         refine zAM ?_
         refine zAA rfl (.m rfl rfl (.r rfl (zAd rfl rfl rfl (by omega)) (.a rfl rfl .nil))) ?_
         refine nxt (Q := fun _ _ => False) (z := i) (i + 1) ?_ ?_ ?_
         ·
          show (i + 1) ≤ f.bits.size ∧ zDG f.bits 127 (i + 1)
          exact ⟨by omega, zEV hS hb (by omega)⟩
         ·
          show f.bits.size - (i + 1) < f.bits.size - i
          omega
         · exact zAJ ⟨rfl, (zAG (by omega)), trivial⟩ ⟨rfl, trivial⟩ trivial rfl
       ·
        replace h9 := of_decide_eq_false h9
        refine zAn ?_
        refine zAB (zAA rfl (.a rfl rfl .nil) ?_)
        refine zAK ?_
        exact ends [_] [] (.cons (.tmp (zAE (by rw [zFh h5]; simp [h6', h7', h8, zIg hS (by omega)]))) .nil) (.cons (.one .v (.v _)) .nil) (by decide) trivial
     ·
      have h7' := h7
      replace h7' : (zAi f.seed 0 3) = false := zAp h7'
      refine zAA rfl (.r rfl (zAC rfl rfl underlying64 rfl sizeOf2 (by decide)) (.r rfl (zAD rfl rfl rfl isAgg2 rfl) (.r rfl (zAI (zB8 rfl rfl rfl) (zAE h6)) (.m rfl rfl (.r rfl (zAC rfl rfl underlying64 rfl sizeOf2 (by decide)) (.r rfl (zAD rfl rfl rfl isAgg2 rfl) (.run [3500] [] rfl (zAF rfl 3500 (X := []) en71 rfl (.val nod) (.cons (.one (.bor .v)) (.cons (.one (.bor .v)) (.cons (.one (.bor .v)) .nil))) (by decide) all_nil .nil (zBv f.seed 0 3) rfl rfl (nle rfl)) (.r rfl (zAI (zAa (b := zAi f.seed 0 3) rfl rfl) (zAE h7)) (.r rfl (zAg rfl rfl) (.m rfl rfl (.not rfl (.not rfl (.not rfl (.not rfl (.not rfl (.r rfl (zAh rfl rfl) .nil)))))))))))))))) ?_
      refine zAT (t := true) rfl (fun _ => ?_) (fun h => nomatch h)
      refine zAB ?_
      refine zAQ (s' := mk [] [] []) ?_ ?_
      · exact zAJ trivial trivial trivial rfl
      refine zAA rfl (.a rfl rfl .nil) ?_
      refine zAK ?_
      exact ends [_] [] (.cons (.tmp (zAE (by rw [zFh h5]; simp [h6', h7']))) .nil) (.cons (.one .v (.v _)) .nil) (by decide) trivial
    ·
     have h6' := h6
     replace h6' : ¬ (f.probes = 0) := of_decide_eq_false (zAp h6')
     refine zAA rfl (.r rfl (zAC rfl rfl underlying64 rfl sizeOf2 (by decide)) (.r rfl (zAD rfl rfl rfl isAgg2 rfl) (.r rfl (zAI (zB8 rfl rfl rfl) (zAE h6)) (.m rfl rfl (.not rfl (.not rfl (.not rfl (.not rfl (.r rfl (zAh rfl rfl) (.m rfl rfl (.not rfl (.not rfl (.not rfl (.not rfl (.not rfl (.r rfl (zAh rfl rfl) .nil)))))))))))))))) ?_
     refine zAT (t := true) rfl (fun _ => ?_) (fun h => nomatch h)
     refine zAB ?_
     refine zAQ (s' := mk [] [] []) ?_ ?_
     · exact zAJ trivial trivial trivial rfl
     refine zAA rfl (.a rfl rfl .nil) ?_
     refine zAK ?_
     exact ends [_] [] (.cons (.tmp (zAE (by rw [zFh h5]; simp [h6']))) .nil) (.cons (.one .v (.v _)) .nil) (by decide) trivial
   ·
    replace h5 := of_decide_eq_false h5
    refine zAM ?_
    refine zAB (zAA rfl (.a rfl rfl .nil) ?_)
    refine zAK ?_
    exact ends [_] [] (.cons (.tmp (zAE (fok_x h1 h2 h5))) .nil) (.cons (.one .v (.v _)) .nil) (by decide) trivial
theorem zHD (f : Flt) (hf : f.bits.size ≤ 4000000000000000000) : Con Tryz.prog 68 [.agg [PV.v (.int .i64 f.kind), PV.v (.int .i64 f.seed), PV.v (.int .i64 f.probes), PV.v (.string f.bits)]] [] [.one (.v (.string (zBf f)))] := by
 refine zAR func68 rfl rfl rfl rfl ?_
 refine zAB (zAA rfl (.run [] [1] rfl (zCF rfl 1 rfl rfl (by decide) rfl (by decide)) (.a rfl rfl .nil)) ?_)
 refine zAB ?_
 refine zAB (zAA rfl (.r rfl (zAW rfl rfl rfl isAgg64 sizeOf64 (nle rfl)) (.run [400] [] rfl (zAF rfl 400 (X := []) zM6 rfl (.val nod) (.cons (.agg (.cons (.bor .v) (.cons (.bor .v) (.cons (.bor .v) (.cons (.bor .v) .nil))))) .nil) (by decide) all_nil .nil (zDA f (by omega)) rfl rfl (nle rfl)) (.r rfl (zAa (b := zAY f) rfl rfl) .nil))) ?_)
 refine zAT (t := (!(zAY f))) rfl (fun h1 => ?_) (fun h1 => ?_)
 ·
  replace h1 : (zAY f) = false := zAp h1
  refine zAB (zAA rfl (.a rfl rfl .nil) ?_)
  refine zAK ?_
  exact ends [_] [] (.cons (.tmp (zA5 (zFi h1))) .nil) (.cons (.one .v (.v _)) .nil) (by decide) trivial
 ·
  replace h1 : (zAY f) = true := zAq h1
  refine zAM ?_
  refine zAB ?_
  have hn := zDK h1
  have hp0 := zA4 (n := f.kind.toNat) (by omega)
  have hp1 := zA4 (n := f.seed.toNat) (by omega)
  have hp2 := zA4 (n := f.probes.toNat) (by omega)
  have hp3 := zBS (s := f.bits) (by omega)
  refine zAQ (s' := mk [(1, .ptr 1 0)] [(1, [.vi f.kind, .vi f.seed, .vi f.probes, .vs f.bits])] []) ?_ ?_
  · exact zAJ ⟨rfl, trivial⟩ ⟨rfl, trivial⟩ trivial rfl
  refine zAf zBo rfl (.r rfl (zAC rfl rfl underlying64 rfl sizeOf2 (by decide)) (.r rfl (zAD rfl rfl rfl isAgg2 rfl) (.run [800] [] rfl (zAF rfl 800 (X := []) en62 rfl (.val nod) (.cons (.one (.bor .v)) .nil) (by decide) all_nil .nil (zCA f.kind (by omega) (by omega)) rfl rfl (nle rfl)) (.r rfl (zAC rfl rfl underlying64 rfl sizeOf2 (by decide)) (.r rfl (zAD rfl rfl rfl isAgg2 rfl) (.run [1100] [] rfl (zAF rfl 1100 (X := []) en62 rfl (.val nod) (.cons (.one (.bor .v)) .nil) (by decide) all_nil .nil (zCA f.seed (by omega) (by omega)) rfl rfl (nle rfl)) (.r rfl (zAx rfl rfl rfl (by first | omega | (simp only [zAZ, zAU]; omega))) (.r rfl (zAC rfl rfl underlying64 rfl sizeOf2 (by decide)) (.r rfl (zAD rfl rfl rfl isAgg2 rfl) (.run [1500] [] rfl (zAF rfl 1500 (X := []) en62 rfl (.val nod) (.cons (.one (.bor .v)) .nil) (by decide) all_nil .nil (zCA f.probes (by omega) (by omega)) rfl rfl (nle rfl)) (.r rfl (zAx rfl rfl rfl (by first | omega | (simp only [zAZ, zAU]; omega))) (.r rfl (zAC rfl rfl underlying64 rfl sizeOf9 (by decide)) (.r rfl (zAD rfl rfl rfl isAgg9 rfl) (.run [1900] [] rfl (zAF rfl 1900 (X := []) en63 rfl (.val nod) (.cons (.one (.bor .v)) .nil) (by decide) all_nil .nil (zCW f.bits (by omega)) rfl rfl (nle rfl)) (.r rfl (zAx rfl rfl rfl (by first | omega | (simp only [zAZ, zAU]; omega))) (.a rfl rfl .nil)))))))))))))))) (by kernel_rfl) ?_
  refine zAK ?_
  exact ends [_] [] (.cons (.tmp (zA5 (zD8 h1))) .nil) (.cons (.one .v (.v _)) .nil) (by decide) trivial
theorem zGQ (f : Flt) (hf : f.bits.size ≤ 4000000000000000000) : Con Tryz.prog 40 [.agg [PV.v (.int .i64 f.kind), PV.v (.int .i64 f.seed), PV.v (.int .i64 f.probes), PV.v (.string f.bits)]] [] [.one (.v (.string (zBf f)))] := by
 refine zAR func40 rfl rfl rfl rfl ?_
 refine zAB (zAA rfl (.run [] [1] rfl (zCF rfl 1 rfl rfl (by decide) rfl (by decide)) (.a rfl rfl .nil)) ?_)
 refine zAB ?_
 refine zAB (zAA rfl (.r rfl (zAW rfl rfl rfl isAgg64 sizeOf64 (nle rfl)) (.run [400] [] rfl (zAF rfl 400 (X := []) en79 rfl (.val nod) (.cons (.agg (.cons (.bor .v) (.cons (.bor .v) (.cons (.bor .v) (.cons (.bor .v) .nil))))) .nil) (by decide) all_nil .nil (zDI f (by omega)) rfl rfl (nle rfl)) (.r rfl (zAa (b := zAY f) rfl rfl) .nil))) ?_)
 refine zAT (t := (!(zAY f))) rfl (fun h1 => ?_) (fun h1 => ?_)
 ·
  replace h1 : (zAY f) = false := zAp h1
  refine zAB (zAA rfl (.a rfl rfl .nil) ?_)
  refine zAK ?_
  exact ends [_] [] (.cons (.tmp (zA5 (zFi h1))) .nil) (.cons (.one .v (.v _)) .nil) (by decide) trivial
 ·
  replace h1 : (zAY f) = true := zAq h1
  refine zAM ?_
  refine zAB ?_
  have hn := zDK h1
  have hp0 := zA4 (n := f.kind.toNat) (by omega)
  have hp1 := zA4 (n := f.seed.toNat) (by omega)
  have hp2 := zA4 (n := f.probes.toNat) (by omega)
  have hp3 := zBS (s := f.bits) (by omega)
  refine zAQ (s' := mk [(1, .ptr 1 0)] [(1, [.vi f.kind, .vi f.seed, .vi f.probes, .vs f.bits])] []) ?_ ?_
  · exact zAJ ⟨rfl, trivial⟩ ⟨rfl, trivial⟩ trivial rfl
  refine zAf zBo rfl (.r rfl (zAC rfl rfl underlying64 rfl sizeOf2 (by decide)) (.r rfl (zAD rfl rfl rfl isAgg2 rfl) (.r rfl (zAI (zEF rfl rfl underlying2 underlying58) ((zAG (by rw [IntKind.wrap_u64]; omega)))) (.run [900] [] rfl (zAF rfl 900 (X := []) en32 rfl (.val nod) (.cons (.one (.bor .v)) .nil) (by decide) all_nil .nil (zBs f.kind.toNat (by omega)) rfl rfl (nle rfl)) (.r rfl (zAC rfl rfl underlying64 rfl sizeOf2 (by decide)) (.r rfl (zAD rfl rfl rfl isAgg2 rfl) (.r rfl (zAI (zEF rfl rfl underlying2 underlying58) ((zAG (by rw [IntKind.wrap_u64]; omega)))) (.run [1300] [] rfl (zAF rfl 1300 (X := []) en32 rfl (.val nod) (.cons (.one (.bor .v)) .nil) (by decide) all_nil .nil (zBs f.seed.toNat (by omega)) rfl rfl (nle rfl)) (.r rfl (zAx rfl rfl rfl (by first | omega | (simp only [zAZ, zAU]; omega))) (.r rfl (zAC rfl rfl underlying64 rfl sizeOf2 (by decide)) (.r rfl (zAD rfl rfl rfl isAgg2 rfl) (.r rfl (zAI (zEF rfl rfl underlying2 underlying58) ((zAG (by rw [IntKind.wrap_u64]; omega)))) (.run [1800] [] rfl (zAF rfl 1800 (X := []) en32 rfl (.val nod) (.cons (.one (.bor .v)) .nil) (by decide) all_nil .nil (zBs f.probes.toNat (by omega)) rfl rfl (nle rfl)) (.r rfl (zAx rfl rfl rfl (by first | omega | (simp only [zAZ, zAU]; omega))) (.r rfl (zAC rfl rfl underlying64 rfl sizeOf9 (by decide)) (.r rfl (zAD rfl rfl rfl isAgg9 rfl) (.run [2200] [] rfl (zAF rfl 2200 (X := []) en33 rfl (.val nod) (.cons (.one (.bor .v)) .nil) (by decide) all_nil .nil (zCG f.bits (by omega)) rfl rfl (nle rfl)) (.r rfl (zAx rfl rfl rfl (by first | omega | (simp only [zAZ, zAU]; omega))) (.a rfl rfl .nil))))))))))))))))))) (by kernel_rfl) ?_
  refine zAK ?_
  exact ends [_] [] (.cons (.tmp (zA5 (zD8 h1))) .nil) (.cons (.one .v (.v _)) .nil) (by decide) trivial
theorem zJQ (us : List ByteArray) (kd : Nat) (hkd : kd ≤ 2) (hu : ∀ u ∈ us, zBa u = true) (hn : us.length ≤ 400) : Con Tryz.prog 67 [.one (PV.sl false 1 (pvT us)), .one (PV.v (.int .i64 (kd:Int)))] [] [.agg [.v (.int .i64 (zAr us (kd : Int)).kind), .v (.int .i64 (zAr us (kd : Int)).seed), .v (.int .i64 (zAr us (kd : Int)).probes), .v (.string (zAr us (kd : Int)).bits)], .one (.v (.bool true))] := by
 refine zAR func67 rfl rfl rfl rfl ?_
 refine zAB (zAA rfl (.run [] [4] rfl (zA7 rfl 4 zCm rfl (by decide) rfl (by decide)) (.a rfl rfl .nil)) ?_)
 refine zAB ?_
 refine zAB (zAA rfl (.m rfl rfl (.run [1000] [] rfl (zAF rfl 1000 (X := []) zOO rfl (.val nod) (.cons (.one (.bor (.sl nod))) .nil) (by decide) all_nil .nil (zDw us (by assumption) (by omega)) rfl rfl (nle rfl)) (.r rfl (zAa (b := true) rfl rfl) (.m rfl rfl (.m rfl rfl (.run [1400] [] rfl (zAF rfl 1400 (X := []) en60 rfl (.val nod) (.cons (.one (.bor .v)) (.cons (.one (.bor .v)) (.cons (.one (.bor .v)) .nil))) (by decide) all_nil .nil (zBU (kd:Int) 0 2) rfl rfl (nle rfl)) (.r rfl (zAa (b := zAi (kd:Int) 0 2) rfl rfl) (.r rfl (zAg rfl rfl) .nil)))))))) ?_)
 refine zAT (t := (!(zAi (kd:Int) 0 2))) rfl (fun h1 => ?_) (fun h1 => ?_)
 ·
  replace h1 : (zAi (kd:Int) 0 2) = false := zAp h1
  rw [show zAi (kd : Int) 0 2 = true by simp only [zAi, Bool.and_eq_true, decide_eq_true_eq]; omega] at h1; cases h1
 ·
  replace h1 : (zAi (kd:Int) 0 2) = true := zAq h1
  refine zAM ?_
  refine zAB ?_
  refine zAB (zAA rfl (.m rfl rfl (.r rfl (zA9 rfl rfl rfl) .nil)) ?_)
  refine zAT (t := decide ((kd:Int) = 0)) rfl (fun h2 => ?_) (fun h2 => ?_)
  ·
   replace h2 := of_decide_eq_true h2
   refine zAB ?_
   have hZ : zAr us (kd : Int) = (⟨0, 0, 0, ⟨#[]⟩⟩ : Flt) := by rw [zAr, if_pos (by omega)]; rfl
   rw [hZ]
   refine zAA rfl (.r rfl (zAt (pl := [(0, 1), (1, 1), (2, 1), (3, 1)]) rfl underlying64 zCm (by kernel_rfl) rfl rfl) (.r rfl (zAN rfl rfl rfl rfl rfl sizeOf64 rfl (nle rfl)) (.a rfl rfl .nil))) ?_
   refine zAK ?_
   exact ends [_, _] [] (.cons (.cell rfl rfl isAgg64 sizeOf64 (nle rfl)) (.cons (.tmp rfl) .nil)) (.cons (.agg (.cons .v (.cons .v (.cons .v (.cons .v .nil)))) (zAL (.v _) (zAL (.v _) (zAL (.v _) (zAL (.v _) zBR))))) (.cons (.one .v (.v _)) .nil)) (by decide) trivial
  ·
   replace h2 := of_decide_eq_false h2
   refine zAM ?_
   refine zAB ?_
   refine zAB (zAA rfl (.a rfl rfl .nil) ?_)
   refine zAS ?_
   refine zAo (σ := Nat) (fun n => mk [(0, .p none (.sl false 1 (pvT us))), (1, .vi (kd:Int)), (4, .ptr 4 0), (6, .vi (n:Int))] [(4, [.vi 0, .vi 0, .vi 0, .vs ⟨#[]⟩])] []) (fun n => n ≤ 4 ∧ (kd = 2 → zCV us n = none)) (fun n => 4 - n) 0 ⟨Nat.zero_le _, fun _ => rfl⟩ (zAJ ⟨rfl, rfl, rfl, (zAG (by omega)), trivial⟩ ⟨rfl, trivial⟩ trivial rfl) ?_
   rintro n hG
   replace hG : n ≤ 4 ∧ (kd = 2 → zCV us n = none) := hG
   obtain ⟨hn4, hR⟩ := hG
   refine zAB ?_
   refine zAB ?_
   rcases bfc (decide ((kd:Int) = 2)) with h3 | h3
   ·
    have h3' := h3
    replace h3' := of_decide_eq_false h3'
    refine zAA rfl (.m rfl rfl (.r rfl (zAI (zA9 rfl rfl rfl) (zAE h3)) (.m rfl rfl (.not rfl (.not rfl (.r rfl (zAg rfl rfl) .nil)))))) ?_
    refine zAT (t := false) rfl (fun h => nomatch h) (fun _ => ?_)
    refine zAn ?_
    refine zAB ?_
    have hZ : zAr us (kd : Int) = zCf us := (zDL (by omega) (fun q => by first | exact absurd q (by omega) | (have h4 := hR (by omega); rwa [show n = 4 by omega] at h4))).symm
    rw [hZ]
    refine zAA rfl (.m rfl rfl (.run [3800, 3801, 3802, 3803, 3804] [] rfl (zAF rfl 3800 (X := []) en110 rfl (.val nod) (.cons (.one (.bor (.sl nod))) (.cons (.one (.bor .v)) .nil)) (by decide) all_nil .nil (zGz us (by assumption) (by omega)) rfl rfl (nle rfl)) (.r rfl (zAH rfl rfl rfl) (.r rfl (zAH rfl rfl rfl) (.r rfl (zAN rfl rfl rfl rfl rfl sizeOf64 rfl (nle rfl)) (.a rfl rfl .nil)))))) ?_
    refine zAK ?_
    exact ends [_, _] [] (.cons (.cell rfl rfl isAgg64 sizeOf64 (nle rfl)) (.cons (.tmp rfl) .nil)) (.cons (.agg (.cons .v (.cons .v (.cons .v (.cons .v .nil)))) (zAL (.v _) (zAL (.v _) (zAL (.v _) (zAL (.v _) zBR))))) (.cons (.one .v (.v _)) .nil)) (by decide) trivial
   ·
    have h3' := h3
    replace h3' := of_decide_eq_true h3'
    refine zAA rfl (.m rfl rfl (.r rfl (zAI (zA9 rfl rfl rfl) (zAE h3)) (.m rfl rfl (.m rfl rfl (.r rfl (zAz rfl rfl rfl) (.r rfl (zAh rfl rfl) .nil)))))) ?_
    refine zAT (t := decide ((n:Int) < 4)) rfl (fun h4 => ?_) (fun h4 => ?_)
    ·
     replace h4 := of_decide_eq_true h4
     refine zAM ?_
     refine zAB ?_
     refine zAS ?_
     refine zAB (zAA rfl (.m rfl rfl (.m rfl rfl (.run [3200, 3201, 3202, 3203, 3204] [] rfl (zAF rfl 3200 (X := []) en109 rfl (.val nod) (.cons (.one (.bor (.sl nod))) (.cons (.one (.bor .v)) .nil)) (by decide) all_nil .nil (zI0 us n (by omega) hu hn) rfl rfl (nle rfl)) (.m rfl rfl (.r rfl (zAH rfl rfl rfl) (.r rfl (zAH rfl rfl rfl) (.run [] [7] rfl (zA7 rfl 7 zCm rfl (by decide) rfl (by decide)) (.r rfl (zAN rfl rfl rfl rfl rfl sizeOf64 rfl (nle rfl)) (.a rfl rfl .nil))))))))) ?_)
     refine zAB (zAA rfl (.m rfl rfl .nil) ?_)
     refine zAT (t := (zBO us n).isSome) rfl (fun h5 => ?_) (fun h5 => ?_)
     ·
      refine zAB ?_
      have hZ : zAr us (kd : Int) = (zBO us n).getD .zero := by rw [show (kd : Int) = 2 by omega]; exact (zHQ (hR (by omega)) h5 (by omega)).symm
      rw [hZ]
      refine zAQ (s' := mk [(4, .ptr 4 0), (7, .ptr 7 0)] [(4, [.vi 0, .vi 0, .vi 0, .vs ⟨#[]⟩]), (7, [.vi (((zBO us n).getD .zero).kind), .vi (((zBO us n).getD .zero).seed), .vi (((zBO us n).getD .zero).probes), .vs (((zBO us n).getD .zero).bits)])] []) ?_ ?_
      · exact zAJ ⟨rfl, rfl, trivial⟩ ⟨rfl, rfl, trivial⟩ trivial rfl
      refine zAA rfl (.r rfl (zAW rfl rfl rfl isAgg64 sizeOf64 (nle rfl)) (.r rfl (zAN rfl rfl rfl rfl rfl sizeOf64 rfl (nle rfl)) (.a rfl rfl .nil))) ?_
      refine zAK ?_
      exact ends [_, _] [] (.cons (.cell rfl rfl isAgg64 sizeOf64 (nle rfl)) (.cons (.tmp rfl) .nil)) (.cons (.agg (.cons .v (.cons .v (.cons .v (.cons .v .nil)))) (zAL (.v _) (zAL (.v _) (zAL (.v _) (zAL (.v _) zBR))))) (.cons (.one .v (.v _)) .nil)) (by decide) trivial
     ·
      refine zAM ?_
      refine zAQ (s' := mk [(0, .p none (.sl false 1 (pvT us))), (1, .vi (kd:Int)), (4, .ptr 4 0), (6, .vi (n:Int)), (24, .vi (n:Int)), (25, .vb (decide ((n:Int) < 4)))] [(4, [.vi 0, .vi 0, .vi 0, .vs ⟨#[]⟩])] []) ?_ ?_
      · exact zAJ ⟨rfl, rfl, rfl, rfl, rfl, rfl, trivial⟩ ⟨rfl, trivial⟩ trivial rfl
      refine zAA rfl (.m rfl rfl (.r rfl (zAd rfl rfl rfl (by omega)) (.a rfl rfl .nil))) ?_
      refine nxt (Q := fun _ _ => False) (z := n) (n + 1) ?_ ?_ ?_
      ·
       show (n + 1) ≤ 4 ∧ (kd = 2 → zCV us (n + 1) = none)
       exact ⟨by omega, fun q => zGZ (hR q) h5⟩
      ·
       show 4 - (n + 1) < 4 - n
       omega
      · exact zAJ ⟨rfl, rfl, rfl, (zAG (by omega)), trivial⟩ ⟨rfl, trivial⟩ trivial rfl
    ·
     replace h4 := of_decide_eq_false h4
     refine zAn ?_
     refine zAB ?_
     have hZ : zAr us (kd : Int) = zCf us := (zDL (by omega) (fun q => by first | exact absurd q (by omega) | (have h4 := hR (by omega); rwa [show n = 4 by omega] at h4))).symm
     rw [hZ]
     refine zAA rfl (.m rfl rfl (.run [3800, 3801, 3802, 3803, 3804] [] rfl (zAF rfl 3800 (X := []) en110 rfl (.val nod) (.cons (.one (.bor (.sl nod))) (.cons (.one (.bor .v)) .nil)) (by decide) all_nil .nil (zGz us (by assumption) (by omega)) rfl rfl (nle rfl)) (.r rfl (zAH rfl rfl rfl) (.r rfl (zAH rfl rfl rfl) (.r rfl (zAN rfl rfl rfl rfl rfl sizeOf64 rfl (nle rfl)) (.a rfl rfl .nil)))))) ?_
     refine zAK ?_
     exact ends [_, _] [] (.cons (.cell rfl rfl isAgg64 sizeOf64 (nle rfl)) (.cons (.tmp rfl) .nil)) (.cons (.agg (.cons .v (.cons .v (.cons .v (.cons .v .nil)))) (zAL (.v _) (zAL (.v _) (zAL (.v _) (zAL (.v _) zBR))))) (.cons (.one .v (.v _)) .nil)) (by decide) trivial
theorem zH4 (us : List ByteArray) (kd : Nat) (hkd : kd ≤ 2) (hu : ∀ u ∈ us, zBa u = true) (hn : us.length ≤ 400) : Con Tryz.prog 37 [.one (PV.sl false 1 (pvT us)), .one (PV.v (.int .i64 (kd:Int)))] [] [.agg [.v (.int .i64 (zAr us (kd : Int)).kind), .v (.int .i64 (zAr us (kd : Int)).seed), .v (.int .i64 (zAr us (kd : Int)).probes), .v (.string (zAr us (kd : Int)).bits)], .one (.v (.bool true))] := by
 refine zAR func37 rfl rfl rfl rfl ?_
 refine zAB (zAA rfl (.run [] [4] rfl (zA7 rfl 4 zCm rfl (by decide) rfl (by decide)) (.a rfl rfl .nil)) ?_)
 refine zAB ?_
 refine zAB (zAA rfl (.m rfl rfl (.run [1000] [] rfl (zAF rfl 1000 (X := []) en75 rfl (.val nod) (.cons (.one (.bor (.sl nod))) .nil) (by decide) all_nil .nil (zDd us (by assumption) (by omega)) rfl rfl (nle rfl)) (.r rfl (zAa (b := true) rfl rfl) (.m rfl rfl (.m rfl rfl (.run [1400] [] rfl (zAF rfl 1400 (X := []) en71 rfl (.val nod) (.cons (.one (.bor .v)) (.cons (.one (.bor .v)) (.cons (.one (.bor .v)) .nil))) (by decide) all_nil .nil (zBv (kd:Int) 0 2) rfl rfl (nle rfl)) (.r rfl (zAa (b := zAi (kd:Int) 0 2) rfl rfl) (.r rfl (zAg rfl rfl) .nil)))))))) ?_)
 refine zAT (t := (!(zAi (kd:Int) 0 2))) rfl (fun h1 => ?_) (fun h1 => ?_)
 ·
  replace h1 : (zAi (kd:Int) 0 2) = false := zAp h1
  rw [show zAi (kd : Int) 0 2 = true by simp only [zAi, Bool.and_eq_true, decide_eq_true_eq]; omega] at h1; cases h1
 ·
  replace h1 : (zAi (kd:Int) 0 2) = true := zAq h1
  refine zAM ?_
  refine zAB ?_
  refine zAB (zAA rfl (.m rfl rfl (.r rfl (zA9 rfl rfl rfl) .nil)) ?_)
  refine zAT (t := decide ((kd:Int) = 0)) rfl (fun h2 => ?_) (fun h2 => ?_)
  ·
   replace h2 := of_decide_eq_true h2
   refine zAB ?_
   have hZ : zAr us (kd : Int) = (⟨0, 0, 0, ⟨#[]⟩⟩ : Flt) := by rw [zAr, if_pos (by omega)]; rfl
   rw [hZ]
   refine zAA rfl (.r rfl (zAt (pl := [(0, 1), (1, 1), (2, 1), (3, 1)]) rfl underlying64 zCm (by kernel_rfl) rfl rfl) (.r rfl (zAN rfl rfl rfl rfl rfl sizeOf64 rfl (nle rfl)) (.a rfl rfl .nil))) ?_
   refine zAK ?_
   exact ends [_, _] [] (.cons (.cell rfl rfl isAgg64 sizeOf64 (nle rfl)) (.cons (.tmp rfl) .nil)) (.cons (.agg (.cons .v (.cons .v (.cons .v (.cons .v .nil)))) (zAL (.v _) (zAL (.v _) (zAL (.v _) (zAL (.v _) zBR))))) (.cons (.one .v (.v _)) .nil)) (by decide) trivial
  ·
   replace h2 := of_decide_eq_false h2
   refine zAM ?_
   refine zAB ?_
   refine zAB (zAA rfl (.a rfl rfl .nil) ?_)
   refine zAS ?_
   refine zAo (σ := Nat) (fun n => mk [(0, .p none (.sl false 1 (pvT us))), (1, .vi (kd:Int)), (4, .ptr 4 0), (6, .vi (n:Int))] [(4, [.vi 0, .vi 0, .vi 0, .vs ⟨#[]⟩])] []) (fun n => n ≤ 4 ∧ (kd = 2 → zCV us n = none)) (fun n => 4 - n) 0 ⟨Nat.zero_le _, fun _ => rfl⟩ (zAJ ⟨rfl, rfl, rfl, (zAG (by omega)), trivial⟩ ⟨rfl, trivial⟩ trivial rfl) ?_
   rintro n hG
   replace hG : n ≤ 4 ∧ (kd = 2 → zCV us n = none) := hG
   obtain ⟨hn4, hR⟩ := hG
   refine zAB ?_
   refine zAB ?_
   rcases bfc (decide ((kd:Int) = 2)) with h3 | h3
   ·
    have h3' := h3
    replace h3' := of_decide_eq_false h3'
    refine zAA rfl (.m rfl rfl (.r rfl (zAI (zA9 rfl rfl rfl) (zAE h3)) (.m rfl rfl (.not rfl (.not rfl (.r rfl (zAg rfl rfl) .nil)))))) ?_
    refine zAT (t := false) rfl (fun h => nomatch h) (fun _ => ?_)
    refine zAn ?_
    refine zAB ?_
    have hZ : zAr us (kd : Int) = zCf us := (zDL (by omega) (fun q => by first | exact absurd q (by omega) | (have h4 := hR (by omega); rwa [show n = 4 by omega] at h4))).symm
    rw [hZ]
    refine zAA rfl (.m rfl rfl (.run [3800, 3801, 3802, 3803, 3804] [] rfl (zAF rfl 3800 (X := []) en77 rfl (.val nod) (.cons (.one (.bor (.sl nod))) (.cons (.one (.bor .v)) .nil)) (by decide) all_nil .nil (zFq us (by assumption) (by omega)) rfl rfl (nle rfl)) (.r rfl (zAH rfl rfl rfl) (.r rfl (zAH rfl rfl rfl) (.r rfl (zAN rfl rfl rfl rfl rfl sizeOf64 rfl (nle rfl)) (.a rfl rfl .nil)))))) ?_
    refine zAK ?_
    exact ends [_, _] [] (.cons (.cell rfl rfl isAgg64 sizeOf64 (nle rfl)) (.cons (.tmp rfl) .nil)) (.cons (.agg (.cons .v (.cons .v (.cons .v (.cons .v .nil)))) (zAL (.v _) (zAL (.v _) (zAL (.v _) (zAL (.v _) zBR))))) (.cons (.one .v (.v _)) .nil)) (by decide) trivial
   ·
    have h3' := h3
    replace h3' := of_decide_eq_true h3'
    refine zAA rfl (.m rfl rfl (.r rfl (zAI (zA9 rfl rfl rfl) (zAE h3)) (.m rfl rfl (.m rfl rfl (.r rfl (zAz rfl rfl rfl) (.r rfl (zAh rfl rfl) .nil)))))) ?_
    refine zAT (t := decide ((n:Int) < 4)) rfl (fun h4 => ?_) (fun h4 => ?_)
    ·
     replace h4 := of_decide_eq_true h4
     refine zAM ?_
     refine zAB ?_
     refine zAS ?_
     refine zAB (zAA rfl (.m rfl rfl (.m rfl rfl (.run [3200, 3201, 3202, 3203, 3204] [] rfl (zAF rfl 3200 (X := []) en76 rfl (.val nod) (.cons (.one (.bor (.sl nod))) (.cons (.one (.bor .v)) .nil)) (by decide) all_nil .nil (zH1 us n (by omega) hu hn) rfl rfl (nle rfl)) (.m rfl rfl (.r rfl (zAH rfl rfl rfl) (.r rfl (zAH rfl rfl rfl) (.run [] [7] rfl (zA7 rfl 7 zCm rfl (by decide) rfl (by decide)) (.r rfl (zAN rfl rfl rfl rfl rfl sizeOf64 rfl (nle rfl)) (.a rfl rfl .nil))))))))) ?_)
     refine zAB (zAA rfl (.m rfl rfl .nil) ?_)
     refine zAT (t := (zBO us n).isSome) rfl (fun h5 => ?_) (fun h5 => ?_)
     ·
      refine zAB ?_
      have hZ : zAr us (kd : Int) = (zBO us n).getD .zero := by rw [show (kd : Int) = 2 by omega]; exact (zHQ (hR (by omega)) h5 (by omega)).symm
      rw [hZ]
      refine zAQ (s' := mk [(4, .ptr 4 0), (7, .ptr 7 0)] [(4, [.vi 0, .vi 0, .vi 0, .vs ⟨#[]⟩]), (7, [.vi (((zBO us n).getD .zero).kind), .vi (((zBO us n).getD .zero).seed), .vi (((zBO us n).getD .zero).probes), .vs (((zBO us n).getD .zero).bits)])] []) ?_ ?_
      · exact zAJ ⟨rfl, rfl, trivial⟩ ⟨rfl, rfl, trivial⟩ trivial rfl
      refine zAA rfl (.r rfl (zAW rfl rfl rfl isAgg64 sizeOf64 (nle rfl)) (.r rfl (zAN rfl rfl rfl rfl rfl sizeOf64 rfl (nle rfl)) (.a rfl rfl .nil))) ?_
      refine zAK ?_
      exact ends [_, _] [] (.cons (.cell rfl rfl isAgg64 sizeOf64 (nle rfl)) (.cons (.tmp rfl) .nil)) (.cons (.agg (.cons .v (.cons .v (.cons .v (.cons .v .nil)))) (zAL (.v _) (zAL (.v _) (zAL (.v _) (zAL (.v _) zBR))))) (.cons (.one .v (.v _)) .nil)) (by decide) trivial
     ·
      refine zAM ?_
      refine zAQ (s' := mk [(0, .p none (.sl false 1 (pvT us))), (1, .vi (kd:Int)), (4, .ptr 4 0), (6, .vi (n:Int)), (24, .vi (n:Int)), (25, .vb (decide ((n:Int) < 4)))] [(4, [.vi 0, .vi 0, .vi 0, .vs ⟨#[]⟩])] []) ?_ ?_
      · exact zAJ ⟨rfl, rfl, rfl, rfl, rfl, rfl, trivial⟩ ⟨rfl, trivial⟩ trivial rfl
      refine zAA rfl (.m rfl rfl (.r rfl (zAd rfl rfl rfl (by omega)) (.a rfl rfl .nil))) ?_
      refine nxt (Q := fun _ _ => False) (z := n) (n + 1) ?_ ?_ ?_
      ·
       show (n + 1) ≤ 4 ∧ (kd = 2 → zCV us (n + 1) = none)
       exact ⟨by omega, fun q => zGZ (hR q) h5⟩
      ·
       show 4 - (n + 1) < 4 - n
       omega
      · exact zAJ ⟨rfl, rfl, rfl, (zAG (by omega)), trivial⟩ ⟨rfl, trivial⟩ trivial rfl
    ·
     replace h4 := of_decide_eq_false h4
     refine zAn ?_
     refine zAB ?_
     have hZ : zAr us (kd : Int) = zCf us := (zDL (by omega) (fun q => by first | exact absurd q (by omega) | (have h4 := hR (by omega); rwa [show n = 4 by omega] at h4))).symm
     rw [hZ]
     refine zAA rfl (.m rfl rfl (.run [3800, 3801, 3802, 3803, 3804] [] rfl (zAF rfl 3800 (X := []) en77 rfl (.val nod) (.cons (.one (.bor (.sl nod))) (.cons (.one (.bor .v)) .nil)) (by decide) all_nil .nil (zFq us (by assumption) (by omega)) rfl rfl (nle rfl)) (.r rfl (zAH rfl rfl rfl) (.r rfl (zAH rfl rfl rfl) (.r rfl (zAN rfl rfl rfl rfl rfl sizeOf64 rfl (nle rfl)) (.a rfl rfl .nil)))))) ?_
     refine zAK ?_
     exact ends [_, _] [] (.cons (.cell rfl rfl isAgg64 sizeOf64 (nle rfl)) (.cons (.tmp rfl) .nil)) (.cons (.agg (.cons .v (.cons .v (.cons .v (.cons .v .nil)))) (zAL (.v _) (zAL (.v _) (zAL (.v _) (zAL (.v _) zBR))))) (.cons (.one .v (.v _)) .nil)) (by decide) trivial
theorem zJ0 (p : Shp) : Con Tryz.prog 27 [.agg [PV.v (.int .i64 p.every), PV.v (.int .i64 p.size), PV.v (.int .i64 p.kind)]] [] [.one (.v (.bool (zBg p)))] := by
 refine zAR func27 rfl rfl rfl rfl ?_
 refine zAB (zAA rfl (.run [] [1] rfl (zCF rfl 1 rfl rfl (by decide) rfl (by decide)) (.a rfl rfl .nil)) ?_)
 refine zAB ?_
 rcases bfc (zAi p.every 1 16) with h1 | h1
 ·
  have h1' := h1
  refine zAA rfl (.r rfl (zAC rfl rfl underlying26 rfl sizeOf2 (by decide)) (.r rfl (zAD rfl rfl rfl isAgg2 rfl) (.run [500] [] rfl (zAF rfl 500 (X := []) en60 rfl (.val nod) (.cons (.one (.bor .v)) (.cons (.one (.bor .v)) (.cons (.one (.bor .v)) .nil))) (by decide) all_nil .nil (zBU p.every 1 16) rfl rfl (nle rfl)) (.r rfl (zAI (zBF rfl) (zAE h1)) (.not rfl (.not rfl (.not rfl (.r rfl (zAg rfl rfl) (.m rfl rfl (.not rfl (.not rfl (.not rfl (.r rfl (zAg rfl rfl) (.a rfl rfl .nil)))))))))))))) ?_
  refine zAK ?_
  exact ends [_] [] (.cons (.tmp (zAE (by simp [zBg, h1']))) .nil) (.cons (.one .v (.v _)) .nil) (by decide) trivial
 ·
  have h1' := h1
  rcases bfc (zAi p.size 20 4000) with h2 | h2
  ·
   have h2' := h2
   refine zAA rfl (.r rfl (zAC rfl rfl underlying26 rfl sizeOf2 (by decide)) (.r rfl (zAD rfl rfl rfl isAgg2 rfl) (.run [500] [] rfl (zAF rfl 500 (X := []) en60 rfl (.val nod) (.cons (.one (.bor .v)) (.cons (.one (.bor .v)) (.cons (.one (.bor .v)) .nil))) (by decide) all_nil .nil (zBU p.every 1 16) rfl rfl (nle rfl)) (.r rfl (zAI (zBF rfl) (zAE h1)) (.r rfl (zAC rfl rfl underlying26 rfl sizeOf2 (by decide)) (.r rfl (zAD rfl rfl rfl isAgg2 rfl) (.run [900] [] rfl (zAF rfl 900 (X := []) en60 rfl (.val nod) (.cons (.one (.bor .v)) (.cons (.one (.bor .v)) (.cons (.one (.bor .v)) .nil))) (by decide) all_nil .nil (zBU p.size 20 4000) rfl rfl (nle rfl)) (.r rfl (zAh rfl rfl) (.r rfl (zAI (zBF rfl) (zAE h2)) (.not rfl (.not rfl (.not rfl (.r rfl (zAg rfl rfl) (.a rfl rfl .nil)))))))))))))) ?_
   refine zAK ?_
   exact ends [_] [] (.cons (.tmp (zAE (by simp [zBg, h1', h2']))) .nil) (.cons (.one .v (.v _)) .nil) (by decide) trivial
  ·
   have h2' := h2
   refine zAA rfl (.r rfl (zAC rfl rfl underlying26 rfl sizeOf2 (by decide)) (.r rfl (zAD rfl rfl rfl isAgg2 rfl) (.run [500] [] rfl (zAF rfl 500 (X := []) en60 rfl (.val nod) (.cons (.one (.bor .v)) (.cons (.one (.bor .v)) (.cons (.one (.bor .v)) .nil))) (by decide) all_nil .nil (zBU p.every 1 16) rfl rfl (nle rfl)) (.r rfl (zAI (zBF rfl) (zAE h1)) (.r rfl (zAC rfl rfl underlying26 rfl sizeOf2 (by decide)) (.r rfl (zAD rfl rfl rfl isAgg2 rfl) (.run [900] [] rfl (zAF rfl 900 (X := []) en60 rfl (.val nod) (.cons (.one (.bor .v)) (.cons (.one (.bor .v)) (.cons (.one (.bor .v)) .nil))) (by decide) all_nil .nil (zBU p.size 20 4000) rfl rfl (nle rfl)) (.r rfl (zAh rfl rfl) (.r rfl (zAI (zBF rfl) (zAE h2)) (.r rfl (zAC rfl rfl underlying26 rfl sizeOf2 (by decide)) (.r rfl (zAD rfl rfl rfl isAgg2 rfl) (.run [1400] [] rfl (zAF rfl 1400 (X := []) en60 rfl (.val nod) (.cons (.one (.bor .v)) (.cons (.one (.bor .v)) (.cons (.one (.bor .v)) .nil))) (by decide) all_nil .nil (zBU p.kind 0 2) rfl rfl (nle rfl)) (.r rfl (zAh rfl rfl) (.a rfl rfl .nil)))))))))))))) ?_
   refine zAK ?_
   exact ends [_] [] (.cons (.tmp (zAE (by simp [zBg, h1', h2']))) .nil) (.cons (.one .v (.v _)) .nil) (by decide) trivial
theorem zIw (p : Shp) : Con Tryz.prog 30 [.agg [PV.v (.int .i64 p.every), PV.v (.int .i64 p.size), PV.v (.int .i64 p.kind)]] [] [.one (.v (.bool (zBg p)))] := by
 refine zAR func30 rfl rfl rfl rfl ?_
 refine zAB (zAA rfl (.run [] [1] rfl (zCF rfl 1 rfl rfl (by decide) rfl (by decide)) (.a rfl rfl .nil)) ?_)
 refine zAB ?_
 rcases bfc (zAi p.every 1 16) with h1 | h1
 ·
  have h1' := h1
  refine zAA rfl (.r rfl (zAC rfl rfl underlying26 rfl sizeOf2 (by decide)) (.r rfl (zAD rfl rfl rfl isAgg2 rfl) (.run [500] [] rfl (zAF rfl 500 (X := []) en71 rfl (.val nod) (.cons (.one (.bor .v)) (.cons (.one (.bor .v)) (.cons (.one (.bor .v)) .nil))) (by decide) all_nil .nil (zBv p.every 1 16) rfl rfl (nle rfl)) (.r rfl (zAI (zBF rfl) (zAE h1)) (.not rfl (.not rfl (.not rfl (.r rfl (zAg rfl rfl) (.m rfl rfl (.not rfl (.not rfl (.not rfl (.r rfl (zAg rfl rfl) (.a rfl rfl .nil)))))))))))))) ?_
  refine zAK ?_
  exact ends [_] [] (.cons (.tmp (zAE (by simp [zBg, h1']))) .nil) (.cons (.one .v (.v _)) .nil) (by decide) trivial
 ·
  have h1' := h1
  rcases bfc (zAi p.size 20 4000) with h2 | h2
  ·
   have h2' := h2
   refine zAA rfl (.r rfl (zAC rfl rfl underlying26 rfl sizeOf2 (by decide)) (.r rfl (zAD rfl rfl rfl isAgg2 rfl) (.run [500] [] rfl (zAF rfl 500 (X := []) en71 rfl (.val nod) (.cons (.one (.bor .v)) (.cons (.one (.bor .v)) (.cons (.one (.bor .v)) .nil))) (by decide) all_nil .nil (zBv p.every 1 16) rfl rfl (nle rfl)) (.r rfl (zAI (zBF rfl) (zAE h1)) (.r rfl (zAC rfl rfl underlying26 rfl sizeOf2 (by decide)) (.r rfl (zAD rfl rfl rfl isAgg2 rfl) (.run [900] [] rfl (zAF rfl 900 (X := []) en71 rfl (.val nod) (.cons (.one (.bor .v)) (.cons (.one (.bor .v)) (.cons (.one (.bor .v)) .nil))) (by decide) all_nil .nil (zBv p.size 20 4000) rfl rfl (nle rfl)) (.r rfl (zAh rfl rfl) (.r rfl (zAI (zBF rfl) (zAE h2)) (.not rfl (.not rfl (.not rfl (.r rfl (zAg rfl rfl) (.a rfl rfl .nil)))))))))))))) ?_
   refine zAK ?_
   exact ends [_] [] (.cons (.tmp (zAE (by simp [zBg, h1', h2']))) .nil) (.cons (.one .v (.v _)) .nil) (by decide) trivial
  ·
   have h2' := h2
   refine zAA rfl (.r rfl (zAC rfl rfl underlying26 rfl sizeOf2 (by decide)) (.r rfl (zAD rfl rfl rfl isAgg2 rfl) (.run [500] [] rfl (zAF rfl 500 (X := []) en71 rfl (.val nod) (.cons (.one (.bor .v)) (.cons (.one (.bor .v)) (.cons (.one (.bor .v)) .nil))) (by decide) all_nil .nil (zBv p.every 1 16) rfl rfl (nle rfl)) (.r rfl (zAI (zBF rfl) (zAE h1)) (.r rfl (zAC rfl rfl underlying26 rfl sizeOf2 (by decide)) (.r rfl (zAD rfl rfl rfl isAgg2 rfl) (.run [900] [] rfl (zAF rfl 900 (X := []) en71 rfl (.val nod) (.cons (.one (.bor .v)) (.cons (.one (.bor .v)) (.cons (.one (.bor .v)) .nil))) (by decide) all_nil .nil (zBv p.size 20 4000) rfl rfl (nle rfl)) (.r rfl (zAh rfl rfl) (.r rfl (zAI (zBF rfl) (zAE h2)) (.r rfl (zAC rfl rfl underlying26 rfl sizeOf2 (by decide)) (.r rfl (zAD rfl rfl rfl isAgg2 rfl) (.run [1400] [] rfl (zAF rfl 1400 (X := []) en71 rfl (.val nod) (.cons (.one (.bor .v)) (.cons (.one (.bor .v)) (.cons (.one (.bor .v)) .nil))) (by decide) all_nil .nil (zBv p.kind 0 2) rfl rfl (nle rfl)) (.r rfl (zAh rfl rfl) (.a rfl rfl .nil)))))))))))))) ?_
   refine zAK ?_
   exact ends [_] [] (.cons (.tmp (zAE (by simp [zBg, h1', h2']))) .nil) (.cons (.one .v (.v _)) .nil) (by decide) trivial
end Go.Rl
namespace Go.Rl
open Go.RowKit
theorem zLy {α : Type} {xs : List (List α)} {h j : Nat} {p : α} (hj : (xs.take h).flatten[j]? = some p) : xs.flatten[j]? = some p := by
 have e : xs.flatten = (xs.take h).flatten ++ (xs.drop h).flatten := by rw [← List.flatten_append, List.take_append_drop]
 rw [e, List.getElem?_append_left (List.getElem?_eq_some_iff.1 hj).1]
 exact hj
theorem zFo {α : Type} (xs : List (List α)) (h : Nat) : (xs.take h).flatten.length ≤ xs.flatten.length := by
 have e : xs.flatten = (xs.take h).flatten ++ (xs.drop h).flatten := by rw [← List.flatten_append, List.take_append_drop]
 rw [e, List.length_append]; omega
theorem zI3 {a b : Nat} (h : a ≤ b) (n : Nat → List Nat) : ∃ r, (List.range b).flatMap n = (List.range a).flatMap n ++ r := by
 obtain ⟨d, rfl⟩ : ∃ d, b = a + d := ⟨b - a, by omega⟩
 rw [List.range_add]
 exact ⟨_, List.flatMap_append⟩
theorem zNr {Z : Nat → Prop} {w : World} {sz h m c : Nat} {A : Option Addr} {xs : List (List PV)} {N : List Nat} (hp : PVO Z w (.sl true sz xs) (.slice A m c) N) (hh : h ≤ xs.length) :
  ∃ N', PVO Z w (.sl true sz (xs.take h)) (.slice A h c) N' ∧ ∃ r, N = N' ++ r := by
 cases hp with
 | nil _ A =>
  obtain rfl : h = 0 := by simpa using hh
  exact ⟨[], .nil sz A, [], rfl⟩
 | own _ _ k c cur ty hlen hk hsz hc hm u n hcell hpp hfz =>
  obtain ⟨r, hr⟩ := zI3 (zFo xs h) n
  have hl : (xs.take h).length = h := by rw [List.length_take]; omega
  have := PVO.own (Z := Z) sz (xs.take h) k c cur ty (fun es he => hlen es (List.mem_of_mem_take he)) hk hsz ⟨by omega, hc.2⟩ hm u n (fun j hj => hcell j (Nat.lt_of_lt_of_le hj (zFo xs h))) (fun j p hj => hpp j p (zLy hj)) hfz
  rw [hl] at this
  exact ⟨_, this, r, by rw [hr]; rfl⟩
section
variable {γ : Gho} {P : Program} {n : Nat} {o : Oper} {M B : List Nat} {s : St}
theorem zHJ {t e : TypeId} {x : Operand} {hi : Option Operand} (ho : o.op = .slice t x none hi none) {id len h sz : Nat} {xs : List (List PV)} (hx : s.ev x = .sl id 0 len) (hr : s.r id = some (sz, xs)) (hu : P.underlying t = some (.slice e)) (hsz : ∀ w, (sizeOf e).run P w = .ok sz w) (hh : BndA s len hi h) (h2 : h ≤ len) (hid1 : id < pinT) :
  StepD γ P n o M B s { put := .sl id 0 (xs.take h).length, kill := [id], setR := [(id, sz, xs.take h)] } := by
 intro s' ag hd w0 I L a w hG hrl K Q hK
 have he := (ag.ev1 ho (by simp [Op.operands])).trans hx
 have hr' := (ag.r1 ho (by simp [Op.operands]) hx (id := id) (by simp [AV.rows])).trans hr
 have b2 := zD9 hrl (hh.at (zGu ho ag).2)
 have hv := hrl.ev x
 rw [he] at hv
 simp only [AVR] at hv
 obtain ⟨sz', xs', e1, e2, A, m, c, A', c', e3, e4, e5, e6, e7⟩ := hv
 rw [hr'] at e1
 cases e1
 obtain ⟨rfl, rfl⟩ := e6 rfl
 obtain ⟨q1, q2, q3⟩ := hrl.rw id sz xs hr'
 rw [e3] at q1
 obtain ⟨N', hN, r, hNr⟩ := zNr (h := h) q1 (by omega)
 have hsub : ∀ k ∈ N', k ∈ L.ν id := fun k hk => by rw [hNr]; exact List.mem_append_left _ hk
 have hset := hrl.setrow [id] (J := []) (Same.refl [] w) (by simp) hN (fun k hk => .inl ⟨id, by simp, q3 k (hsub k hk)⟩) (by rw [hNr] at q2; exact (List.nodup_append.1 q2).1) hid1 (.inr (by simp))
 have hl : (xs.take h).length = h := by rw [List.length_take]; omega
 have hv' : (if c' = 0 then A' else A'.map (·.add (0 * sz))) = A' := by
  split
  · rfl
  ·
   cases A' with
   | none => rfl
   | some ad => simp only [Nat.zero_mul, Option.map_some, Option.some.injEq]; unfold Addr.add; split <;> simp_all
 have hex : (execOp a.eval o).run P w = .ok (.value (.slice A' h c')) w := by
  simp only [execOp, ho, e4, Option.map_none, Sem.run_bind, zJ5 (lo := none) hu hsz (.inl ⟨rfl, rfl⟩) b2 (Nat.zero_le _) (Nat.le_trans h2 e5) w]
  rw [hv']
  rfl
 unfold Oper.wp
 rw [hex, Oper.upon_value]
 have hfin := hset.put hd (av := .sl id 0 (xs.take h).length) (v := .slice A' h c') (zFm (sz := sz) (xs := xs.take h) (by simp) (by simp [Pl.row]) (hset.rw id sz _ (by simp)).1 rfl)
 exact hK _ _ _ (by rw [Dl.app, zDX]; exact hfin)
end
end Go.Rl
namespace Go.Rl
theorem zL4 {P : Program} {nm : String} {g : Nat} {k : IntKind} {zs : List Int} {W : World} (hg : P.globalNamed nm = some g) (h : Lib.TabIs P W nm k zs) : ∃ o, W.heap[g]? = some o ∧ ∀ w : World, w.heap[g]? = some o → Lib.TabIs P w nm k zs := by
 have h0 := h
 unfold Lib.TabIs World.var? at h0
 rw [hg] at h0
 simp only [Option.bind_some] at h0
 obtain ⟨o, ho⟩ : ∃ o, W.heap[g]? = some o := by
  cases e : W.heap[g]? with
  | none => simp [e] at h0
  | some o => exact ⟨o, rfl⟩
 refine ⟨o, ho, fun w hw => ?_⟩
 unfold Lib.TabIs World.var? at h ⊢
 rw [hg] at h ⊢
 simp only [Option.bind_some, ho, hw] at h ⊢
 exact h
def tz64I : List Int := Lib.deBruijn64tab.map fun n => ((n : Nat) : Int)
theorem zLt : ∀ j, j < 64 → tz64I.getD j 0 = ((Lib.deBruijn64tab.getD j 0 : Nat) : Int) := by decide +kernel
end Go.Rl
namespace Go.Rl
open Go.Proofs Go.Proofs.Tryz
set_option maxRecDepth 1000000
set_option maxHeartbeats 2000000
theorem en88 : En Tryz.prog 88 := zAl func88 (by decide) rfl
theorem en134 : En Tryz.prog 134 := zAl func134 (by decide) rfl
theorem en116 : En Tryz.prog 116 := zAl func116 (by decide) rfl
theorem en112 : En Tryz.prog 112 := zAl func112 (by decide) rfl
theorem en78 : En Tryz.prog 78 := zAl func78 (by decide) rfl
theorem zNp (u : ByteArray) : min (((1 + Lib.ctz 64 (zAj 7 u / 64) : Nat)) : Int) 58 = ((zBV u : Nat) : Int) := by rw [zBV, ← zNq]; omega
theorem zKj {u : ByteArray} {k y : Nat} (h : zB7 (zAj 7 u / 64) 57 = k + zB7 y (57 - k)) (hk : k ≤ 57) (he : k = 57 ∨ ¬ y % 2 = 0) : zBV u = k + 1 := by
 rw [zBV, h]
 rcases he with he | he
 · subst he; rfl
 · rw [zLn he]
theorem zMR {x k y : Nat} (h : zB7 x 57 = k + zB7 y (57 - k)) (hk : k < 57) (he : y % 2 = 0) : zB7 x 57 = (k + 1) + zB7 (y / 2) (57 - (k + 1)) := by
 rw [h, show 57 - k = (57 - (k + 1)) + 1 by omega, zLJ he]; omega
theorem zIO {r : List Nat} {u : ByteArray} {b : Nat} (h : r[zC1 u]? = some b) : r.set (zC1 u) (max b (zBV u)) = hllS r u := by rw [hllS, List.getD_eq_getElem?_getD, h]; rfl
theorem zKx {r : List Nat} {u : ByteArray} {b : Nat} (h : r[zC1 u]? = some b) (hlt : b < zBV u) : r.set (zC1 u) (zBV u) = hllS r u := by rw [← zIO h, show max b (zBV u) = zBV u by omega]
theorem zMq {r : List Nat} {u : ByteArray} {b : Nat} (h : r[zC1 u]? = some b) (hlt : ¬ b < zBV u) : r = hllS r u := by
 rw [← zIO h, show max b (zBV u) = b by omega]
 refine List.ext_getElem? fun i => ?_
 by_cases q : zC1 u = i
 · subst q; rw [List.getElem?_set_self (List.getElem?_eq_some_iff.1 h).1, h]
 · rw [List.getElem?_set_ne q]
theorem zKz : List.replicate 64 [PV.v (.int .u8 0)] = pvB (ints (List.replicate 64 0)) := by simp [pvB, ints]
set_option maxHeartbeats 1000000 in
theorem zLu (x k idx : Nat) (w : World) (hx0 : ((x : Int) == 0) = false)
  (key : IntKind.u64.wrap (Go.bits BinOp.and IntKind.u64 (x : Int) (IntKind.u64.wrap (-(x : Int))) * 285870213051353865) / 288230376151711744 = (idx : Int))
  (hi : idx < 64) (hk : k < 64) (hcell : w.cell? ⟨0, idx, none⟩ = some (.int .u8 k)) :
  Calls Tryz.prog 134 #[.int .u64 x] w fun e w' => e = .returned (.int .i64 k) ∧ w' = w := by
 go_enter func134, Tryz.ntmps134
 go_wp2_with (simp only [key])
 go_ret
 exact ⟨rfl, rfl⟩
theorem zLs (w : World) : Calls Tryz.prog 134 #[.int .u64 0] w fun e w' => e = .returned (.int .i64 64) ∧ w' = w := by
 go_enter func134, Tryz.ntmps134
 go_wp2
 go_ret
 exact ⟨rfl, rfl⟩
def TzAt (w : World) : Prop := ∀ x : Nat, x < 18446744073709551616 → Calls Tryz.prog 134 #[.int .u64 x] w fun e w' => e = .returned (.int .i64 (Lib.ctz 64 x)) ∧ w' = w
theorem tz_at {w : World} (hT : ∀ j, j < 64 → w.cell? ⟨0, j, none⟩ = some (.int .u8 ((Lib.deBruijn64tab.getD j 0 : Nat) : Int))) : TzAt w := fun x hx => by
 by_cases hx0 : x = 0
 ·
  subst hx0
  exact zLs w
 ·
  obtain ⟨hlow, hk⟩ := Lib.lowest_bit 64 x hx0 hx
  obtain ⟨hi, htab⟩ := Lib.deBruijn64_at _ hk
  have hcell := hT _ hi
  rw [htab] at hcell
  exact zLu x _ _ w (by simp; omega) (Go.Proofs.tz64_key x _ hx hx0 hlow) hi hk hcell
def TabG (γ : Gho) : Prop := ∃ o, γ = some (0, o) ∧ ∀ w : World, w.heap[0]? = some o → TzAt w
theorem tz_con {γ : Gho} (ht : TabG γ) (x : Nat) (hx : x < 18446744073709551616) : ConG γ Tryz.prog 134 [.one (.v (.int .u64 ((x : Nat) : Int)))] [] [.one (.v (.int .i64 ((Lib.ctz 64 x : Nat) : Int)))] := by
 intro Z w vs E hG ha _ _ _
 obtain ⟨o, hγ, hT⟩ := ht
 have htab := hT w (hG 0 o hγ).1 x hx
 obtain ⟨rfl, rfl⟩ : vs = [.int .u64 ((x : Nat) : Int)] ∧ E = [] := by
  cases ha with
  | cons h1 t1 =>
   cases t1
   cases h1 with
   | one h1 =>
    cases h1 with
    | nf _ h1 =>
     cases h1
     exact ⟨rfl, rfl⟩
 refine htab.mono ?_
 rintro e w' ⟨rfl, rfl⟩
 exact ⟨_, [], rfl, Same.refl [] _, fun i lf xs' h => by simp at h, .one (.one (.nf rfl (.v _ rfl))), by simp [Leaf.all], fun k hk => by simp [Leaf.all] at hk⟩
theorem zMr (h : ByteArray) (hs : h.size ≤ 9000000000000000000) : Con Tryz.prog 88 [.one (PV.v (.string h))] [] [.one (.v (.bool (zCI h)))] := by
 refine zAR func88 rfl rfl rfl rfl ?_
 have hsz : decide ((h.size : Int) = 64) = decide (h.size = 64) := by congr 1; exact propext (by omega)
 refine zAB (zAA rfl (.a rfl rfl .nil) ?_)
 refine zAB ?_
 refine zAB (zAA rfl (.m rfl rfl (.r rfl (zAO rfl rfl underlying9) (.m rfl rfl .nil))) ?_)
 refine zAS ?_
 refine zAo (σ := Nat) (fun i => mk [(0, .vs h), (5, .vi (h.size : Int)), (6, .vi (i:Int))] [] []) (fun i => i ≤ h.size ∧ zDG h 58 i) (fun i => h.size - i) 0 ⟨Nat.zero_le _, zEU _ _⟩ (zAJ ⟨rfl, rfl, (zAG (by omega)), trivial⟩ trivial trivial rfl) ?_
 rintro i hG
 replace hG : i ≤ h.size ∧ zDG h 58 i := hG
 obtain ⟨hi, hS⟩ := hG
 refine zAB (zAA rfl (.r rfl (zAz rfl rfl rfl) .nil) ?_)
 refine zAB ?_
 refine zAT (t := decide ((i:Int) < (h.size : Int))) rfl (fun h1 => ?_) (fun h1 => ?_)
 ·
  replace h1 := of_decide_eq_true h1
  refine zAM ?_
  refine zAB ?_
  refine zAS ?_
  refine zAB (zAA rfl (.m rfl rfl (.a rfl rfl .nil)) ?_)
  refine zAB ?_
  obtain ⟨b, hb⟩ : ∃ b : UInt8, h[i]? = some b := ⟨_, getElem?_pos h i (by omega)⟩
  refine zAA rfl (.m rfl rfl (.m rfl rfl (.r rfl (zBY rfl rfl rfl underlying9 (by omega) hb) (.r rfl (zBH rfl rfl rfl) .nil)))) ?_
  refine zAT (t := decide (58 < (b.toNat : Int))) rfl (fun h2 => ?_) (fun h2 => ?_)
  ·
   replace h2 := of_decide_eq_true h2
   refine zAB (zAA rfl (.a rfl rfl .nil) ?_)
   refine zAK ?_
   exact ends [_] [] (.cons (.tmp (zAE (by rw [zCI, zLG (m := 58) hb (by omega), Bool.and_false]))) .nil) (.cons (.one .v (.v _)) .nil) (by decide) trivial
  ·
   replace h2 := of_decide_eq_false h2
   refine zAM ?_
   refine zAA rfl (.r rfl (zAd rfl rfl rfl (by omega)) (.m rfl rfl .nil)) ?_
   refine nxt (Q := fun _ _ => False) (z := i) (i + 1) ?_ ?_ ?_
   ·
    show (i + 1) ≤ h.size ∧ zDG h 58 (i + 1)
    exact ⟨by omega, zEV hS hb (by omega)⟩
   ·
    show h.size - (i + 1) < h.size - i
    omega
   · exact zAJ ⟨rfl, rfl, (zAG (by omega)), trivial⟩ trivial trivial rfl
 ·
  replace h1 := of_decide_eq_false h1
  refine zAn ?_
  refine zAB (zAA rfl (.m rfl rfl (.r rfl (zAO rfl rfl underlying9) (.r rfl (zA9 rfl rfl rfl) (.a rfl rfl .nil)))) ?_)
  refine zAK ?_
  exact ends [_] [] (.cons (.tmp (zAE (by rw [zCI, zIg hS (by omega), Bool.and_true, hsz]))) .nil) (.cons (.one .v (.v _)) .nil) (by decide) trivial
theorem zLR (h : ByteArray) (hs : h.size ≤ 9000000000000000000) : Con Tryz.prog 116 [.one (PV.v (.string h))] [] [.one (.v (.bool (zCI h)))] := by
 refine zAR func116 rfl rfl rfl rfl ?_
 have hsz : decide ((h.size : Int) = 64) = decide (h.size = 64) := by congr 1; exact propext (by omega)
 refine zAB (zAA rfl (.a rfl rfl .nil) ?_)
 refine zAB ?_
 refine zAB (zAA rfl (.m rfl rfl (.r rfl (zAO rfl rfl underlying9) (.r rfl (zB8 rfl rfl rfl) .nil))) ?_)
 refine zAT (t := (!(decide ((h.size : Int) = 64)))) rfl (fun h1 => ?_) (fun h1 => ?_)
 ·
  replace h1 : ¬ ((h.size : Int) = 64) := of_decide_eq_false (zAp h1)
  refine zAB (zAA rfl (.a rfl rfl .nil) ?_)
  refine zAK ?_
  exact ends [_] [] (.cons (.tmp (zAE (by rw [zCI, decide_eq_false (by omega), Bool.false_and]))) .nil) (.cons (.one .v (.v _)) .nil) (by decide) trivial
 ·
  replace h1 : (h.size : Int) = 64 := of_decide_eq_true (zAq h1)
  refine zAM ?_
  refine zAB ?_
  refine zAB (zAA rfl (.a rfl rfl .nil) ?_)
  refine zAS ?_
  refine zAo (σ := Nat) (fun i => mk [(0, .vs h), (3, .vi (i:Int))] [] []) (fun i => i ≤ h.size ∧ zDG h 58 i) (fun i => h.size - i) 0 ⟨Nat.zero_le _, zEU _ _⟩ (zAJ ⟨rfl, (zAG (by omega)), trivial⟩ trivial trivial rfl) ?_
  rintro i hG
  replace hG : i ≤ h.size ∧ zDG h 58 i := hG
  obtain ⟨hi, hS⟩ := hG
  refine zAB ?_
  refine zAB (zAA rfl (.m rfl rfl (.m rfl rfl (.r rfl (zAO rfl rfl underlying9) (.r rfl (zAz rfl rfl rfl) .nil)))) ?_)
  refine zAT (t := decide ((i:Int) < (h.size : Int))) rfl (fun h2 => ?_) (fun h2 => ?_)
  ·
   replace h2 := of_decide_eq_true h2
   refine zAM ?_
   refine zAB ?_
   refine zAS ?_
   refine zAB ?_
   obtain ⟨b, hb⟩ : ∃ b : UInt8, h[i]? = some b := ⟨_, getElem?_pos h i (by omega)⟩
   refine zAA rfl (.m rfl rfl (.m rfl rfl (.r rfl (zBY rfl rfl rfl underlying9 (by omega) hb) (.r rfl (zBH rfl rfl rfl) .nil)))) ?_
   refine zAT (t := decide (58 < (b.toNat : Int))) rfl (fun h3 => ?_) (fun h3 => ?_)
   ·
    replace h3 := of_decide_eq_true h3
    refine zAB (zAA rfl (.a rfl rfl .nil) ?_)
    refine zAK ?_
    exact ends [_] [] (.cons (.tmp (zAE (by rw [zCI, zLG (m := 58) hb (by omega), Bool.and_false]))) .nil) (.cons (.one .v (.v _)) .nil) (by decide) trivial
   ·
    replace h3 := of_decide_eq_false h3
    refine zAM ?_
    refine zAA rfl (.m rfl rfl (.r rfl (zAd rfl rfl rfl (by omega)) (.a rfl rfl .nil))) ?_
    refine nxt (Q := fun _ _ => False) (z := i) (i + 1) ?_ ?_ ?_
    ·
     show (i + 1) ≤ h.size ∧ zDG h 58 (i + 1)
     exact ⟨by omega, zEV hS hb (by omega)⟩
    ·
     show h.size - (i + 1) < h.size - i
     omega
    · exact zAJ ⟨rfl, (zAG (by omega)), trivial⟩ trivial trivial rfl
  ·
   replace h2 := of_decide_eq_false h2
   refine zAn ?_
   refine zAB (zAA rfl (.a rfl rfl .nil) ?_)
   refine zAK ?_
   exact ends [_] [] (.cons (.tmp (zAE (by rw [zCI, zIg hS (by omega), decide_eq_true (by omega), Bool.and_true]))) .nil) (.cons (.one .v (.v _)) .nil) (by decide) trivial
theorem zLe {γ : Gho} (ht : TabG γ) (h : ByteArray) (hok : zCI h = true) (u : ByteArray) (hu : zBa u = true) : ConG γ Tryz.prog 112 [.one (PV.v (.string h)), .one (PV.v (.string u))] [] [.one (.v (.string (hllA h u)))] := by
 refine zAR func112 rfl rfl rfl rfl ?_
 have hl := zE3 hok
 have hbn := (zBK (zAw h)).trans ((zC5 h).trans hl)
 have hat := zKy u
 have hus := zC7 hu
 have hrk := zGr u
 have hhl := zK0 7 u
 have hbl := (zC5 h).trans hl
 refine zAB (zAA rfl (.a rfl rfl .nil) ?_)
 refine zAB ?_
 refine zAB ?_
 rcases bfc (!(zCI h)) with h1 | h1
 ·
  have h1' := h1
  replace h1' : (zCI h) = true := zAq h1'
  refine zAA rfl (.m rfl rfl (.run [900] [] rfl (zAF rfl 900 (X := []) en88 rfl (.val nod) (.cons (.one (.bor .v)) .nil) (by decide) all_nil .nil (zMr h (by omega)) rfl rfl (nle rfl)) (.r rfl (zAI (zAa (b := zCI h) rfl rfl) (zAE h1)) (.m rfl rfl (.m rfl rfl (.run [1300] [] rfl (zAF rfl 1300 (X := []) zM4 rfl (.val nod) (.cons (.one (.bor .v)) .nil) (by decide) all_nil .nil (zDp u) rfl rfl (nle rfl)) (.r rfl (zAa (b := zBa u) rfl rfl) (.r rfl (zAg rfl rfl) .nil)))))))) ?_
  refine zAT (t := (!(zBa u))) rfl (fun h2 => ?_) (fun h2 => ?_)
  ·
   replace h2 : (zBa u) = false := zAp h2
   rw [hu] at h2; cases h2
  ·
   replace h2 : (zBa u) = true := zAq h2
   refine zAM ?_
   refine zAB (zAA rfl (.m rfl rfl (.run [1700] [] rfl (zAF rfl 1700 (X := []) en133 rfl (.val nod) (.cons (.one (.bor .v)) (.cons (.one (.bor .v)) .nil)) (by decide) all_nil .nil (zIP 7 u (by omega)) rfl rfl (nle rfl)) (.a rfl rfl .nil))) ?_)
   refine zAB (zAA rfl (.m rfl rfl (.run [1900] [] rfl (zF5 rfl 1900 h rfl underlying9 underlying22 underlying5 (by decide) rfl (by decide) (by omega) (by simp only [maxLen]; omega)) (.a rfl rfl .nil))) ?_)
   refine zAB ?_
   obtain ⟨b, hb⟩ : ∃ b, (zAw h)[zC1 u]? = some b := ⟨_, List.getElem?_eq_getElem (by omega)⟩
   have hb8 := zGx b (List.mem_of_getElem? hb)
   refine zAQ (s' := mk [(5, .p none (.v (.int .u64 ((zAj 7 u : Nat) : Int)))), (6, .sl 1900 0 ((pvNb (zAw h)).length))] [] [(1900, 1, pvNb (zAw h))]) ?_ ?_
   · exact zAJ ⟨rfl, rfl, trivial⟩ trivial ⟨rfl, trivial⟩ rfl
   refine zAA rfl (.m rfl rfl (.m rfl rfl (.r rfl (zAI (zB1 (zAj 7 u) 64 rfl rfl rfl (by omega)) ((zAG (show ((zAj 7 u % 64 : Nat) : Int) = ((zC1 u : Nat) : Int) from rfl)))) (.r rfl (zA0 (zC1 u) rfl rfl rfl rfl underlying22 sizeOf5 rfl rfl (by omega)) (.a rfl rfl .nil))))) ?_
   refine zAB ?_
   have hcz := ctz_le (zAj 7 u / 64) (by omega)
   refine zAQ (s' := mk [(5, .p none (.v (.int .u64 ((zAj 7 u : Nat) : Int)))), (6, .sl 1900 0 ((pvNb (zAw h)).length)), (7, .ea 1900 (zC1 u) 0)] [] [(1900, 1, pvNb (zAw h))]) ?_ ?_
   · exact zAJ ⟨rfl, rfl, rfl, trivial⟩ trivial ⟨rfl, trivial⟩ rfl
   refine zAf zBo rfl (.m rfl rfl (.m rfl rfl (.r rfl (zAe rfl rfl) (.r rfl (zA3 rfl rfl rfl (zCT hb) isAgg5 rfl) (.m rfl rfl (.r rfl (zAI (zDP (k := .u64) 18446744073709551616 rfl (zAj 7 u) 64 rfl rfl rfl rfl (by omega)) ((zAG (show (((zAj 7 u / 64) % 18446744073709551616 : Nat) : Int) = ((zAj 7 u / 64 : Nat) : Int) by omega)))) (.run [3000] [] rfl (zDa (.inr rfl) rfl 3000 (X := []) en134 rfl (.val nod) (.cons (.one (.bor .v)) .nil) (by decide) all_nil .nil (tz_con ht (zAj 7 u / 64) (by omega)) rfl rfl (nle rfl)) (.r rfl (zAI (zAd rfl rfl rfl (by omega)) ((zAG (by omega)))) (.r rfl (zAI (zL6 rfl rfl rfl) ((zAG (zNp u)))) (.r rfl (zAI (zAc (k' := .u8) 256 rfl (zBV u) rfl rfl rfl underlying3 underlying5) ((zAG (show (((zBV u) % 256 : Nat) : Int) = ((zBV u : Nat) : Int) by omega)))) (.r rfl (zAI (zIq rfl rfl rfl) ((zAG (show max ((b : Nat) : Int) ((zBV u : Nat) : Int) = ((max b (zBV u) : Nat) : Int) by omega)))) (.r rfl (zAe rfl rfl) (.r rfl (zBC rfl rfl rfl (FlatP.nf (zDV _)) (zCT hb) rfl rfl (.cons .v .nil) sizeOf5 rfl (nle rfl)) .nil))))))))))))) (by kernel_rfl) ?_
   have hr3 : (pvNb (zAw h)).set (zC1 u) [PV.v (.int .u8 ((max b (zBV u) : Nat) : Int))] = pvNb (hllS (zAw h) u) := by rw [zFH, zIO hb]
   have hl4 : (pvNb (zAw h)).length = (pvNb (hllS (zAw h) u)).length := by first | (rw [← hr3, List.length_set]; done) | simp [zBK]
   have hp5 : (.sl 1900 0 ((pvNb (zAw h)).length) : AV) = .sl 1900 0 ((pvNb (hllS (zAw h) u)).length) := by first | exact congrArg (AV.sl 1900 0) hl4 | simp only [hr3, hl4]
   refine zAQ (s' := mk [(6, .sl 1900 0 ((pvNb (hllS (zAw h) u)).length))] [] [(1900, 1, pvNb (hllS (zAw h) u))]) ?_ ?_
   · exact zAJ ⟨hp5, trivial⟩ trivial ⟨(congrArg (fun x => some (1, x)) hr3), trivial⟩ rfl
   refine zAB (zAA rfl (.m rfl rfl (.r rfl (zCj (ints (hllS (zAw h) u)) rfl rfl (.give (len := (pvNb (hllS (zAw h) u)).length) (xs := pvNb (hllS (zAw h) u)) rfl rfl) rfl (zC0 _) underlying22 underlying9 underlying5) (.a rfl rfl .nil))) ?_)
   refine zAK ?_
   exact ends [_] [] (.cons (.tmp rfl) .nil) (.cons (.one .v (.v _)) .nil) (by decide) trivial
 ·
  have h1' := h1
  replace h1' : (zCI h) = false := zAp h1'
  rw [hok] at h1'; cases h1'
theorem zJ3 (h : ByteArray) (hok : zCI h = true) (u : ByteArray) (hu : zBa u = true) : Con Tryz.prog 78 [.one (PV.v (.string h)), .one (PV.v (.string u))] [] [.one (.v (.string (hllA h u)))] := by
 refine zAR func78 rfl rfl rfl rfl ?_
 have hl := zE3 hok
 have hbn := (zBK (zAw h)).trans ((zC5 h).trans hl)
 have hat := zKy u
 have hus := zC7 hu
 have hrk := zGr u
 have hhl := zK0 7 u
 have hbl := (zC5 h).trans hl
 refine zAB (zAA rfl (.a rfl rfl .nil) ?_)
 refine zAB ?_
 refine zAB ?_
 rcases bfc (!(zCI h)) with h1 | h1
 ·
  have h1' := h1
  replace h1' : (zCI h) = true := zAq h1'
  refine zAA rfl (.m rfl rfl (.run [1000] [] rfl (zAF rfl 1000 (X := []) en116 rfl (.val nod) (.cons (.one (.bor .v)) .nil) (by decide) all_nil .nil (zLR h (by omega)) rfl rfl (nle rfl)) (.r rfl (zAI (zAa (b := zCI h) rfl rfl) (zAE h1)) (.m rfl rfl (.m rfl rfl (.run [1400] [] rfl (zAF rfl 1400 (X := []) zM5 rfl (.val nod) (.cons (.one (.bor .v)) .nil) (by decide) all_nil .nil (zDo u) rfl rfl (nle rfl)) (.r rfl (zAa (b := zBa u) rfl rfl) (.r rfl (zAg rfl rfl) .nil)))))))) ?_
  refine zAT (t := (!(zBa u))) rfl (fun h2 => ?_) (fun h2 => ?_)
  ·
   replace h2 : (zBa u) = false := zAp h2
   rw [hu] at h2; cases h2
  ·
   replace h2 : (zBa u) = true := zAq h2
   refine zAM ?_
   refine zAB (zAA rfl (.m rfl rfl (.run [1800] [] rfl (zAF rfl 1800 (X := []) en117 rfl (.val nod) (.cons (.one (.bor .v)) (.cons (.one (.bor .v)) .nil)) (by decide) all_nil .nil (zGP 7 u (by omega)) rfl rfl (nle rfl)) (.a rfl rfl .nil))) ?_)
   refine zAB (zAA rfl (.m rfl rfl (.r rfl (zAI (zB1 (zAj 7 u) 64 rfl rfl rfl (by omega)) ((zAG (show ((zAj 7 u % 64 : Nat) : Int) = ((zC1 u : Nat) : Int) from rfl)))) (.a rfl rfl .nil))) ?_)
   refine zAB ?_
   refine zAQ (s' := mk [(0, .vs h), (5, .p none (.v (.int .u64 ((zAj 7 u : Nat) : Int)))), (6, .p none (.v (.int .u64 ((zC1 u : Nat) : Int))))] [] []) ?_ ?_
   · exact zAJ ⟨rfl, rfl, rfl, trivial⟩ trivial trivial rfl
   refine zAA rfl (.m rfl rfl (.r rfl (zAI (zDP (k := .u64) 18446744073709551616 rfl (zAj 7 u) 64 rfl rfl rfl rfl (by omega)) ((zAG (show (((zAj 7 u / 64) % 18446744073709551616 : Nat) : Int) = ((zAj 7 u / 64 : Nat) : Int) by omega)))) (.a rfl rfl .nil))) ?_
   refine zAB (zAA rfl (.a rfl rfl .nil) ?_)
   refine zAB ?_
   refine zAS ?_
   refine zAo (σ := Nat × Nat) (fun (k, y) => mk [(0, .vs h), (5, .p none (.v (.int .u64 ((y : Nat) : Int)))), (6, .p none (.v (.int .u64 ((zC1 u : Nat) : Int)))), (7, .vi ((k + 1 : Nat) : Int))] [] []) (fun (k, y) => (k ≤ 57 ∧ y < 18446744073709551616) ∧ zB7 (zAj 7 u / 64) 57 = k + zB7 y (57 - k)) (fun (k, y) => 57 - k) (0, zAj 7 u / 64) ⟨⟨by omega, by omega⟩, by rw [Nat.zero_add]⟩ (zAJ ⟨rfl, rfl, rfl, rfl, trivial⟩ trivial trivial rfl) ?_
   rintro ⟨k, y⟩ hG
   replace hG : (k ≤ 57 ∧ y < 18446744073709551616) ∧ zB7 (zAj 7 u / 64) 57 = k + zB7 y (57 - k) := hG
   obtain ⟨⟨hk, hy⟩, hz⟩ := hG
   refine zAB ?_
   refine zAB ?_
   rcases bfc (decide (((k + 1 : Nat) : Int) < 58)) with h3 | h3
   ·
    have h3' := h3
    replace h3' := of_decide_eq_false h3'
    refine zAA rfl (.m rfl rfl (.r rfl (zAI (zAz rfl rfl rfl) (zAE h3)) (.m rfl rfl (.not rfl (.not rfl (.not rfl (.r rfl (zAg rfl rfl) .nil))))))) ?_
    refine zAT (t := false) rfl (fun h => nomatch h) (fun _ => ?_)
    refine zAn ?_
    refine zAB ?_
    refine zAQ (s' := mk [(0, .vs h), (6, .p none (.v (.int .u64 ((zC1 u : Nat) : Int)))), (7, .vi ((zBV u : Nat) : Int))] [] []) ?_ ?_
    · exact zAJ ⟨rfl, rfl, (zAG (by rw [zKj hz (by omega) (.inl (by omega))])), trivial⟩ trivial trivial rfl
    refine zAA rfl (.m rfl rfl (.run [3500] [] rfl (zF5 rfl 3500 h rfl underlying9 underlying22 underlying5 (by decide) rfl (by decide) (by omega) (by simp only [maxLen]; omega)) (.a rfl rfl .nil))) ?_
    refine zAB ?_
    refine zAB ?_
    obtain ⟨b, hb⟩ : ∃ b, (zAw h)[zC1 u]? = some b := ⟨_, List.getElem?_eq_getElem (by omega)⟩
    have hb8 := zGx b (List.mem_of_getElem? hb)
    refine zAA rfl (.m rfl rfl (.m rfl rfl (.r rfl (zA0 (zC1 u) rfl rfl rfl rfl underlying22 sizeOf5 rfl rfl (by omega)) (.r rfl (zA3 rfl rfl rfl (zCT hb) isAgg5 rfl) (.r rfl (zBe rfl rfl underlying5 underlying3 (by omega)) (.m rfl rfl (.r rfl (zAz rfl rfl rfl) .nil))))))) ?_
    refine zAT (t := decide (((b : Nat) : Int) < ((zBV u : Nat) : Int))) rfl (fun h4 => ?_) (fun h4 => ?_)
    ·
     replace h4 := of_decide_eq_true h4
     refine zAA rfl (.m rfl rfl (.m rfl rfl (.m rfl rfl (.r rfl (zAI (zAc (k' := .u8) 256 rfl (zBV u) rfl rfl rfl underlying3 underlying5) ((zAG (show (((zBV u) % 256 : Nat) : Int) = ((zBV u : Nat) : Int) by omega)))) (.r rfl (zA0 (zC1 u) rfl rfl rfl rfl underlying22 sizeOf5 rfl rfl (by omega)) (.r rfl (zBC rfl rfl rfl (FlatP.nf (zDV _)) (zCT hb) rfl rfl (.cons .v .nil) sizeOf5 rfl (nle rfl)) .nil)))))) ?_
     have hr5 : (pvNb (zAw h)).set (zC1 u) [PV.v (.int .u8 ((zBV u : Nat) : Int))] = pvNb (hllS (zAw h) u) := by rw [zFH, zKx hb (by omega)]
     have hl6 : (pvNb (zAw h)).length = (pvNb (hllS (zAw h) u)).length := by first | (rw [← hr5, List.length_set]; done) | simp [zBK]
     have hp7 : (.sl 3500 0 ((pvNb (zAw h)).length) : AV) = .sl 3500 0 ((pvNb (hllS (zAw h) u)).length) := by first | exact congrArg (AV.sl 3500 0) hl6 | simp only [hr5, hl6]
     refine zAQ (s' := mk [(8, .sl 3500 0 ((pvNb (hllS (zAw h) u)).length))] [] [(3500, 1, pvNb (hllS (zAw h) u))]) ?_ ?_
     · exact zAJ ⟨hp7, trivial⟩ trivial ⟨(congrArg (fun x => some (1, x)) hr5), trivial⟩ rfl
     refine zAB (zAA rfl (.m rfl rfl (.r rfl (zCj (ints (hllS (zAw h) u)) rfl rfl (.give (len := (pvNb (hllS (zAw h) u)).length) (xs := pvNb (hllS (zAw h) u)) rfl rfl) rfl (by first | exact zC0 _ | exact hS0) underlying22 underlying9 underlying5) (.a rfl rfl .nil))) ?_)
     refine zAK ?_
     exact ends [_] [] (.cons (.tmp rfl) .nil) (.cons (.one .v (.v _)) .nil) (by decide) trivial
    ·
     replace h4 := of_decide_eq_false h4
     refine zAM ?_
     refine zAB ?_
     have hS0 : pvNb (zAw h) = pvB (ints (hllS (zAw h) u)) := by rw [← zMq hb (by omega)]; exact zC0 _
     refine zAA rfl (.m rfl rfl (.r rfl (zCj (ints (hllS (zAw h) u)) rfl rfl (.give (len := (pvNb (zAw h)).length) (xs := pvNb (zAw h)) rfl rfl) rfl (by first | exact zC0 _ | exact hS0) underlying22 underlying9 underlying5) (.a rfl rfl .nil))) ?_
     refine zAK ?_
     exact ends [_] [] (.cons (.tmp rfl) .nil) (.cons (.one .v (.v _)) .nil) (by decide) trivial
   ·
    have h3' := h3
    replace h3' := of_decide_eq_true h3'
    refine zAA rfl (.m rfl rfl (.r rfl (zAI (zAz rfl rfl rfl) (zAE h3)) (.m rfl rfl (.m rfl rfl (.r rfl (zB1 y 2 rfl rfl rfl (by omega)) (.r rfl (zA9 rfl rfl rfl) (.r rfl (zAh rfl rfl) .nil))))))) ?_
    refine zAT (t := decide (((y % 2 : Nat) : Int) = 0)) rfl (fun h8 => ?_) (fun h8 => ?_)
    ·
     replace h8 := of_decide_eq_true h8
     refine zAM ?_
     refine zAS ?_
     refine zAB (zAA rfl (.m rfl rfl (.r rfl (zAd rfl rfl rfl (by omega)) (.a rfl rfl .nil))) ?_)
     refine zAA rfl (.m rfl rfl (.r rfl (zDP (k := .u64) 18446744073709551616 rfl y 2 rfl rfl rfl rfl (by omega)) (.a rfl rfl .nil))) ?_
     refine nxt (Q := fun _ _ => False) (z := (k, y)) (k + 1, y / 2) ?_ ?_ ?_
     ·
      show ((k + 1) ≤ 57 ∧ (y / 2) < 18446744073709551616) ∧ zB7 (zAj 7 u / 64) 57 = (k + 1) + zB7 (y / 2) (57 - (k + 1))
      exact ⟨⟨by omega, by omega⟩, zMR hz (by omega) (by omega)⟩
     ·
      show 57 - (k + 1) < 57 - k
      omega
     · exact zAJ ⟨rfl, (zAG (by omega)), rfl, (zAG (by omega)), trivial⟩ trivial trivial rfl
    ·
     replace h8 := of_decide_eq_false h8
     refine zAn ?_
     refine zAB ?_
     refine zAQ (s' := mk [(0, .vs h), (6, .p none (.v (.int .u64 ((zC1 u : Nat) : Int)))), (7, .vi ((zBV u : Nat) : Int))] [] []) ?_ ?_
     · exact zAJ ⟨rfl, rfl, (zAG (by rw [zKj hz (by omega) (.inr (by omega))])), trivial⟩ trivial trivial rfl
     refine zAA rfl (.m rfl rfl (.run [3500] [] rfl (zF5 rfl 3500 h rfl underlying9 underlying22 underlying5 (by decide) rfl (by decide) (by omega) (by simp only [maxLen]; omega)) (.a rfl rfl .nil))) ?_
     refine zAB ?_
     refine zAB ?_
     obtain ⟨b, hb⟩ : ∃ b, (zAw h)[zC1 u]? = some b := ⟨_, List.getElem?_eq_getElem (by omega)⟩
     have hb8 := zGx b (List.mem_of_getElem? hb)
     refine zAA rfl (.m rfl rfl (.m rfl rfl (.r rfl (zA0 (zC1 u) rfl rfl rfl rfl underlying22 sizeOf5 rfl rfl (by omega)) (.r rfl (zA3 rfl rfl rfl (zCT hb) isAgg5 rfl) (.r rfl (zBe rfl rfl underlying5 underlying3 (by omega)) (.m rfl rfl (.r rfl (zAz rfl rfl rfl) .nil))))))) ?_
     refine zAT (t := decide (((b : Nat) : Int) < ((zBV u : Nat) : Int))) rfl (fun h9 => ?_) (fun h9 => ?_)
     ·
      replace h9 := of_decide_eq_true h9
      refine zAA rfl (.m rfl rfl (.m rfl rfl (.m rfl rfl (.r rfl (zAI (zAc (k' := .u8) 256 rfl (zBV u) rfl rfl rfl underlying3 underlying5) ((zAG (show (((zBV u) % 256 : Nat) : Int) = ((zBV u : Nat) : Int) by omega)))) (.r rfl (zA0 (zC1 u) rfl rfl rfl rfl underlying22 sizeOf5 rfl rfl (by omega)) (.r rfl (zBC rfl rfl rfl (FlatP.nf (zDV _)) (zCT hb) rfl rfl (.cons .v .nil) sizeOf5 rfl (nle rfl)) .nil)))))) ?_
      have hr10 : (pvNb (zAw h)).set (zC1 u) [PV.v (.int .u8 ((zBV u : Nat) : Int))] = pvNb (hllS (zAw h) u) := by rw [zFH, zKx hb (by omega)]
      have hl11 : (pvNb (zAw h)).length = (pvNb (hllS (zAw h) u)).length := by first | (rw [← hr10, List.length_set]; done) | simp [zBK]
      have hp12 : (.sl 3500 0 ((pvNb (zAw h)).length) : AV) = .sl 3500 0 ((pvNb (hllS (zAw h) u)).length) := by first | exact congrArg (AV.sl 3500 0) hl11 | simp only [hr10, hl11]
      refine zAQ (s' := mk [(8, .sl 3500 0 ((pvNb (hllS (zAw h) u)).length))] [] [(3500, 1, pvNb (hllS (zAw h) u))]) ?_ ?_
      · exact zAJ ⟨hp12, trivial⟩ trivial ⟨(congrArg (fun x => some (1, x)) hr10), trivial⟩ rfl
      refine zAB (zAA rfl (.m rfl rfl (.r rfl (zCj (ints (hllS (zAw h) u)) rfl rfl (.give (len := (pvNb (hllS (zAw h) u)).length) (xs := pvNb (hllS (zAw h) u)) rfl rfl) rfl (by first | exact zC0 _ | exact hS0) underlying22 underlying9 underlying5) (.a rfl rfl .nil))) ?_)
      refine zAK ?_
      exact ends [_] [] (.cons (.tmp rfl) .nil) (.cons (.one .v (.v _)) .nil) (by decide) trivial
     ·
      replace h9 := of_decide_eq_false h9
      refine zAM ?_
      refine zAB ?_
      have hS0 : pvNb (zAw h) = pvB (ints (hllS (zAw h) u)) := by rw [← zMq hb (by omega)]; exact zC0 _
      refine zAA rfl (.m rfl rfl (.r rfl (zCj (ints (hllS (zAw h) u)) rfl rfl (.give (len := (pvNb (zAw h)).length) (xs := pvNb (zAw h)) rfl rfl) rfl (by first | exact zC0 _ | exact hS0) underlying22 underlying9 underlying5) (.a rfl rfl .nil))) ?_
      refine zAK ?_
      exact ends [_] [] (.cons (.tmp rfl) .nil) (.cons (.one .v (.v _)) .nil) (by decide) trivial
 ·
  have h1' := h1
  replace h1' : (zCI h) = false := zAp h1'
  rw [hok] at h1'; cases h1'
theorem zMs {γ : Gho} (ht : TabG γ) (us : List ByteArray) (hu : ∀ u ∈ us, zBa u = true) (hn : us.length ≤ 400) : ConG γ Tryz.prog 69 [.one (PV.sl false 1 (pvT us))] [] [.one (.v (.string (hllF us)))] := by
 refine zAR func69 rfl rfl rfl rfl ?_
 have hle := zBD us
 refine zAB (zAA rfl (.a rfl rfl .nil) ?_)
 refine zAB ?_
 refine zAB (zAA rfl (.m rfl rfl (.run [700] [] rfl (zAF rfl 700 (X := []) zOO rfl (.val nod) (.cons (.one (.bor (.sl nod))) .nil) (by decide) all_nil .nil (zDw us (by assumption) (by omega)) rfl rfl (nle rfl)) (.r rfl (zAa (b := true) rfl rfl) .nil))) ?_)
 refine zAT (t := false) rfl (fun h => nomatch h) (fun _ => ?_)
 refine zAM ?_
 refine zAB (zAA rfl (.run [900] [] rfl (zD3 rfl 900 (l := 64) (c := 64) rfl rfl underlying22 inf5 rfl rfl (by decide) rfl (by decide) (by omega) (by omega) (by simp only [maxLen]; omega)) (.r rfl (zCj (ints (List.replicate 64 0)) rfl rfl (.give (len := 64) (xs := List.replicate 64 [PV.v (.int .u8 0)]) rfl rfl) rfl zKz underlying22 underlying9 underlying5) (.a rfl rfl .nil))) ?_)
 refine zAB ?_
 refine zAB (zAA rfl (.m rfl rfl (.r rfl (zAu rfl rfl underlying61) (.m rfl rfl .nil))) ?_)
 refine zAS ?_
 refine zAo (σ := Nat) (fun i => mk [(3, .vs (hllN us i)), (11, .p none (.sl false 1 (pvT us))), (12, .vi ((pvT us).length : Int)), (13, .vi (i:Int))] [] []) (fun i => i ≤ us.length) (fun i => us.length - i) 0 (by simp) (zAJ ⟨(zA5 (by rfl)), rfl, rfl, (zAG (by omega)), trivial⟩ trivial trivial rfl) ?_
 rintro i hG
 replace hG : i ≤ us.length := hG
 refine zAB (zAA rfl (.r rfl (zAz rfl rfl rfl) .nil) ?_)
 refine zAB ?_
 refine zAT (t := decide ((i:Int) < ((pvT us).length : Int))) rfl (fun h1 => ?_) (fun h1 => ?_)
 ·
  replace h1 := of_decide_eq_true h1
  refine zAM ?_
  refine zAB ?_
  refine zAS ?_
  refine zAB ?_
  obtain ⟨x, hx⟩ : ∃ x, us[i]? = some x := ⟨_, List.getElem?_eq_getElem (by omega)⟩
  have huo := hu _ (List.mem_of_getElem? hx)
  have hus := zC7 huo
  refine zAA rfl (.r rfl (zA8 rfl rfl rfl underlying61 sizeOf9 rfl (by omega) (zCl hx)) (.r rfl (zBP rfl rfl isAgg9 rfl) (.a rfl rfl .nil))) ?_
  refine zAA rfl (.m rfl rfl (.m rfl rfl (.run [1900] [] rfl (zDa (.inr rfl) rfl 1900 (X := []) en112 rfl (.val nod) (.cons (.one (.bor .v)) (.cons (.one (.bor .v)) .nil)) (by decide) all_nil .nil (zLe ht (hllN us i) (zEM us i) x huo) rfl rfl (nle rfl)) (.a rfl rfl .nil)))) ?_
  refine zAA rfl (.r rfl (zAd rfl rfl rfl (by omega)) (.m rfl rfl .nil)) ?_
  refine nxt (Q := fun _ _ => False) (z := i) (i + 1) ?_ ?_ ?_
  ·
   show (i + 1) ≤ us.length
   omega
  ·
   show us.length - (i + 1) < us.length - i
   omega
  · exact zAJ ⟨(zA5 (by rw [zJJ hx])), rfl, rfl, (zAG (by omega)), trivial⟩ trivial trivial rfl
 ·
  replace h1 := of_decide_eq_false h1
  refine zAn ?_
  refine zAB (zAA rfl (.m rfl rfl (.a rfl rfl .nil)) ?_)
  refine zAK ?_
  exact ends [_] [] (.cons (.tmp (zA5 (by rw [show i = us.length by omega]; rfl))) .nil) (.cons (.one .v (.v _)) .nil) (by decide) trivial
theorem zLS (us : List ByteArray) (hu : ∀ u ∈ us, zBa u = true) (hn : us.length ≤ 400) : Con Tryz.prog 38 [.one (PV.sl false 1 (pvT us))] [] [.one (.v (.string (hllF us)))] := by
 refine zAR func38 rfl rfl rfl rfl ?_
 have hle := zBD us
 refine zAB (zAA rfl (.a rfl rfl .nil) ?_)
 refine zAB ?_
 refine zAB (zAA rfl (.m rfl rfl (.run [600] [] rfl (zAF rfl 600 (X := []) en75 rfl (.val nod) (.cons (.one (.bor (.sl nod))) .nil) (by decide) all_nil .nil (zDd us (by assumption) (by omega)) rfl rfl (nle rfl)) (.r rfl (zAa (b := true) rfl rfl) .nil))) ?_)
 refine zAT (t := false) rfl (fun h => nomatch h) (fun _ => ?_)
 refine zAM ?_
 refine zAB (zAA rfl (.run [800] [] rfl (zD3 rfl 800 (l := 64) (c := 64) rfl rfl underlying22 inf5 rfl rfl (by decide) rfl (by decide) (by omega) (by omega) (by simp only [maxLen]; omega)) (.r rfl (zCj (ints (List.replicate 64 0)) rfl rfl (.give (len := 64) (xs := List.replicate 64 [PV.v (.int .u8 0)]) rfl rfl) rfl zKz underlying22 underlying9 underlying5) (.a rfl rfl .nil))) ?_)
 refine zAB ?_
 refine zAB (zAA rfl (.a rfl rfl .nil) ?_)
 refine zAS ?_
 refine zAo (σ := Nat) (fun i => mk [(0, .p none (.sl false 1 (pvT us))), (3, .vs (hllN us i)), (4, .vi (i:Int))] [] []) (fun i => i ≤ us.length) (fun i => us.length - i) 0 (by simp) (zAJ ⟨rfl, (zA5 (by rfl)), (zAG (by omega)), trivial⟩ trivial trivial rfl) ?_
 rintro i hG
 replace hG : i ≤ us.length := hG
 refine zAB ?_
 refine zAB (zAA rfl (.m rfl rfl (.m rfl rfl (.r rfl (zAu rfl rfl underlying61) (.r rfl (zAz rfl rfl rfl) .nil)))) ?_)
 refine zAT (t := decide ((i:Int) < ((pvT us).length : Int))) rfl (fun h1 => ?_) (fun h1 => ?_)
 ·
  replace h1 := of_decide_eq_true h1
  refine zAM ?_
  refine zAB ?_
  refine zAS ?_
  obtain ⟨x, hx⟩ : ∃ x, us[i]? = some x := ⟨_, List.getElem?_eq_getElem (by omega)⟩
  have huo := hu _ (List.mem_of_getElem? hx)
  have hus := zC7 huo
  refine zAA rfl (.m rfl rfl (.m rfl rfl (.m rfl rfl (.r rfl (zA8 rfl rfl rfl underlying61 sizeOf9 rfl (by omega) (zCl hx)) (.r rfl (zBP rfl rfl isAgg9 rfl) (.run [2100] [] rfl (zAF rfl 2100 (X := []) en78 rfl (.val nod) (.cons (.one (.bor .v)) (.cons (.one (.bor .v)) .nil)) (by decide) all_nil .nil (zJ3 (hllN us i) (zEM us i) x huo) rfl rfl (nle rfl)) (.a rfl rfl .nil))))))) ?_
  refine zAA rfl (.m rfl rfl (.r rfl (zAd rfl rfl rfl (by omega)) (.a rfl rfl .nil))) ?_
  refine nxt (Q := fun _ _ => False) (z := i) (i + 1) ?_ ?_ ?_
  ·
   show (i + 1) ≤ us.length
   omega
  ·
   show us.length - (i + 1) < us.length - i
   omega
  · exact zAJ ⟨rfl, (zA5 (by rw [zJJ hx])), (zAG (by omega)), trivial⟩ trivial trivial rfl
 ·
  replace h1 := of_decide_eq_false h1
  refine zAn ?_
  refine zAB (zAA rfl (.m rfl rfl (.a rfl rfl .nil)) ?_)
  refine zAK ?_
  exact ends [_] [] (.cons (.tmp (zA5 (by rw [show i = us.length by omega]; rfl))) .nil) (.cons (.one .v (.v _)) .nil) (by decide) trivial
end Go.Rl

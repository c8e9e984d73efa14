/- Promises of functions, proved by walks over their operations; no conditions beyond those that each theorem states. -/
import Derived.Test.YtamebecmgdbmnaaGreatDoorRmI
import Derived.Test.YtamebecmgdbmnaaGreatDoorRlT
set_option linter.unusedSimpArgs false
set_option linter.unusedVariables false
namespace Go.Rl
open Go.Proofs Go.Proofs.Tryz
set_option maxRecDepth 1000000
set_option maxHeartbeats 2000000
theorem en70 : En Tryz.prog 70 := zAl func70 (by decide) rfl
theorem en39 : En Tryz.prog 39 := zAl func39 (by decide) rfl
theorem en63 : En Tryz.prog 63 := zAl func63 (by decide) rfl
theorem en106 : En Tryz.prog 106 := zAl func106 (by decide) rfl
theorem en33 : En Tryz.prog 33 := zAl func33 (by decide) rfl
theorem en74 : En Tryz.prog 74 := zAl func74 (by decide) rfl
theorem zLQ (a b : ByteArray) (ha : a.size ≤ 4000000000000000000) (hb : b.size ≤ 4000000000000000000) : Con Tryz.prog 104 [.one (PV.v (.string a)), .one (PV.v (.string b))] [] [.one (.v (.int .i64 ((zBN a b : Nat) : Int)))] := by
 refine zAR func104 rfl rfl rfl rfl ?_
 refine zAB (zAA rfl (.a rfl rfl .nil) ?_)
 refine zAB (zAA rfl (.a rfl rfl .nil) ?_)
 refine zAB ?_
 refine zAS ?_
 refine zAo (σ := Nat) (fun n => mk [(0, .vs a), (1, .vs b), (5, .vi (n:Int))] [] []) (fun n => (n ≤ a.size ∧ n ≤ b.size) ∧ zEo a b n) (fun n => a.size - n) 0 ⟨⟨Nat.zero_le _, Nat.zero_le _⟩, zIt _ _⟩ (zAJ ⟨rfl, rfl, (zAG (by omega)), trivial⟩ trivial trivial rfl) ?_
 rintro n hG
 replace hG : (n ≤ a.size ∧ n ≤ b.size) ∧ zEo a b n := hG
 obtain ⟨⟨hn1, hn2⟩, hS⟩ := hG
 refine zAB ?_
 refine zAB ?_
 rcases bfc (decide ((n:Int) < (a.size : Int))) with h1 | h1
 ·
  have h1' := h1
  replace h1' := of_decide_eq_false h1'
  refine zAf zBo rfl (.m rfl rfl (.m rfl rfl (.r rfl (zAO rfl rfl underlying9) (.r rfl (zAI (zAz rfl rfl rfl) (zAE h1)) (.m rfl rfl (.not rfl (.not rfl (.not rfl (.not rfl (.r rfl (zAb (t := false) rfl rfl) (.m rfl rfl (.not rfl (.not rfl (.not rfl (.not rfl (.not rfl (.not rfl (.not rfl (.r rfl (zAb (t := false) rfl rfl) .nil))))))))))))))))))) (by kernel_rfl) ?_
  refine zAT (t := false) rfl (fun h => nomatch h) (fun _ => ?_)
  refine zAn ?_
  refine zAB ?_
  refine zAQ (s' := mk [(5, .vi (n:Int))] [] []) ?_ ?_
  · exact zAJ ⟨rfl, trivial⟩ trivial trivial rfl
  refine zAA rfl (.m rfl rfl (.a rfl rfl .nil)) ?_
  refine zAK ?_
  exact ends [_] [] (.cons (.tmp (zAG (congrArg Nat.cast (zEW hS (by omega) (by omega) (.inl (by omega)))).symm)) .nil) (.cons (.one .v (.v _)) .nil) (by decide) trivial
 ·
  have h1' := h1
  replace h1' := of_decide_eq_true h1'
  rcases bfc (decide ((n:Int) < (b.size : Int))) with h2 | h2
  ·
   have h2' := h2
   replace h2' := of_decide_eq_false h2'
   refine zAf zBo rfl (.m rfl rfl (.m rfl rfl (.r rfl (zAO rfl rfl underlying9) (.r rfl (zAI (zAz rfl rfl rfl) (zAE h1)) (.m rfl rfl (.m rfl rfl (.m rfl rfl (.r rfl (zAO rfl rfl underlying9) (.r rfl (zAI (zAz rfl rfl rfl) (zAE h2)) (.r rfl (zAb (t := true) rfl rfl) (.m rfl rfl (.not rfl (.not rfl (.not rfl (.not rfl (.not rfl (.not rfl (.not rfl (.r rfl (zAb (t := false) rfl rfl) .nil))))))))))))))))))) (by kernel_rfl) ?_
   refine zAT (t := false) rfl (fun h => nomatch h) (fun _ => ?_)
   refine zAn ?_
   refine zAB ?_
   refine zAQ (s' := mk [(5, .vi (n:Int))] [] []) ?_ ?_
   · exact zAJ ⟨rfl, trivial⟩ trivial trivial rfl
   refine zAA rfl (.m rfl rfl (.a rfl rfl .nil)) ?_
   refine zAK ?_
   exact ends [_] [] (.cons (.tmp (zAG (congrArg Nat.cast (zEW hS (by omega) (by omega) (.inr (.inl (by omega))))).symm)) .nil) (.cons (.one .v (.v _)) .nil) (by decide) trivial
  ·
   have h2' := h2
   replace h2' := of_decide_eq_true h2'
   refine zAf zBo rfl (.m rfl rfl (.m rfl rfl (.r rfl (zAO rfl rfl underlying9) (.r rfl (zAI (zAz rfl rfl rfl) (zAE h1)) (.m rfl rfl (.m rfl rfl (.m rfl rfl (.r rfl (zAO rfl rfl underlying9) (.r rfl (zAI (zAz rfl rfl rfl) (zAE h2)) (.r rfl (zAb (t := true) rfl rfl) (.m rfl rfl (.m rfl rfl (.m rfl rfl (.r rfl (zBY rfl rfl rfl underlying9 (by omega) (zCD (by omega))) (.m rfl rfl (.m rfl rfl (.r rfl (zBY rfl rfl rfl underlying9 (by omega) (zCD (by omega))) (.r rfl (zA9 rfl rfl rfl) (.r rfl (zAb (t := true) rfl rfl) .nil))))))))))))))))))) (by kernel_rfl) ?_
   refine zAT (t := decide (((a[n]?.getD 0).toNat : Int) = ((b[n]?.getD 0).toNat : Int))) rfl (fun h3 => ?_) (fun h3 => ?_)
   ·
    replace h3 := of_decide_eq_true h3
    refine zAM ?_
    refine zAS ?_
    refine zAQ (s' := mk [(0, .vs a), (1, .vs b), (5, .vi (n:Int)), (11, .vi (n:Int)), (12, .vs b), (13, .vi (b.size : Int)), (14, .vb true), (17, .vs a), (18, .vi (n:Int)), (19, .p none (.v (.int .u8 ((a[n]?.getD 0).toNat : Int)))), (20, .vs b), (21, .vi (n:Int)), (22, .p none (.v (.int .u8 ((b[n]?.getD 0).toNat : Int)))), (23, .vb (decide (((a[n]?.getD 0).toNat : Int) = ((b[n]?.getD 0).toNat : Int))))] [] []) ?_ ?_
    · exact zAJ ⟨rfl, rfl, rfl, rfl, rfl, rfl, rfl, rfl, rfl, rfl, rfl, rfl, rfl, rfl, trivial⟩ trivial trivial rfl
    refine zAA rfl (.m rfl rfl (.r rfl (zAd rfl rfl rfl (by omega)) (.a rfl rfl .nil))) ?_
    refine nxt (Q := fun _ _ => False) (z := n) (n + 1) ?_ ?_ ?_
    ·
     show ((n + 1) ≤ a.size ∧ (n + 1) ≤ b.size) ∧ zEo a b (n + 1)
     exact ⟨⟨by omega, by omega⟩, zIu hS (by omega) (by omega) (by assumption)⟩
    ·
     show a.size - (n + 1) < a.size - n
     omega
    · exact zAJ ⟨rfl, rfl, (zAG (by omega)), trivial⟩ trivial trivial rfl
   ·
    replace h3 := of_decide_eq_false h3
    refine zAn ?_
    refine zAB ?_
    refine zAQ (s' := mk [(5, .vi (n:Int))] [] []) ?_ ?_
    · exact zAJ ⟨rfl, trivial⟩ trivial trivial rfl
    refine zAA rfl (.m rfl rfl (.a rfl rfl .nil)) ?_
    refine zAK ?_
    exact ends [_] [] (.cons (.tmp (zAG (congrArg Nat.cast (zEW hS (by omega) (by omega) (.inr (.inr ⟨by omega, by omega, by assumption⟩)))).symm)) .nil) (.cons (.one .v (.v _)) .nil) (by decide) trivial
theorem zJ2 (a b : ByteArray) (ha : a.size ≤ 4000000000000000000) (hb : b.size ≤ 4000000000000000000) : Con Tryz.prog 72 [.one (PV.v (.string a)), .one (PV.v (.string b))] [] [.one (.v (.int .i64 ((zBN a b : Nat) : Int)))] := by
 refine zAR func72 rfl rfl rfl rfl ?_
 refine zAB (zAA rfl (.a rfl rfl .nil) ?_)
 refine zAB (zAA rfl (.a rfl rfl .nil) ?_)
 refine zAB ?_
 refine zAS ?_
 refine zAo (σ := Nat) (fun n => mk [(0, .vs a), (1, .vs b), (5, .vi (n:Int))] [] []) (fun n => (n ≤ a.size ∧ n ≤ b.size) ∧ zEo a b n) (fun n => a.size - n) 0 ⟨⟨Nat.zero_le _, Nat.zero_le _⟩, zIt _ _⟩ (zAJ ⟨rfl, rfl, (zAG (by omega)), trivial⟩ trivial trivial rfl) ?_
 rintro n hG
 replace hG : (n ≤ a.size ∧ n ≤ b.size) ∧ zEo a b n := hG
 obtain ⟨⟨hn1, hn2⟩, hS⟩ := hG
 refine zAB ?_
 refine zAB ?_
 rcases bfc (decide ((n:Int) < (a.size : Int))) with h1 | h1
 ·
  have h1' := h1
  replace h1' := of_decide_eq_false h1'
  refine zAf zBo rfl (.m rfl rfl (.m rfl rfl (.r rfl (zAO rfl rfl underlying9) (.r rfl (zAI (zAz rfl rfl rfl) (zAE h1)) (.m rfl rfl (.not rfl (.not rfl (.not rfl (.not rfl (.r rfl (zAb (t := false) rfl rfl) (.m rfl rfl (.not rfl (.not rfl (.not rfl (.not rfl (.not rfl (.not rfl (.not rfl (.r rfl (zAb (t := false) rfl rfl) .nil))))))))))))))))))) (by kernel_rfl) ?_
  refine zAT (t := false) rfl (fun h => nomatch h) (fun _ => ?_)
  refine zAn ?_
  refine zAB ?_
  refine zAQ (s' := mk [(5, .vi (n:Int))] [] []) ?_ ?_
  · exact zAJ ⟨rfl, trivial⟩ trivial trivial rfl
  refine zAA rfl (.m rfl rfl (.a rfl rfl .nil)) ?_
  refine zAK ?_
  exact ends [_] [] (.cons (.tmp (zAG (congrArg Nat.cast (zEW hS (by omega) (by omega) (.inl (by omega)))).symm)) .nil) (.cons (.one .v (.v _)) .nil) (by decide) trivial
 ·
  have h1' := h1
  replace h1' := of_decide_eq_true h1'
  rcases bfc (decide ((n:Int) < (b.size : Int))) with h2 | h2
  ·
   have h2' := h2
   replace h2' := of_decide_eq_false h2'
   refine zAf zBo rfl (.m rfl rfl (.m rfl rfl (.r rfl (zAO rfl rfl underlying9) (.r rfl (zAI (zAz rfl rfl rfl) (zAE h1)) (.m rfl rfl (.m rfl rfl (.m rfl rfl (.r rfl (zAO rfl rfl underlying9) (.r rfl (zAI (zAz rfl rfl rfl) (zAE h2)) (.r rfl (zAb (t := true) rfl rfl) (.m rfl rfl (.not rfl (.not rfl (.not rfl (.not rfl (.not rfl (.not rfl (.not rfl (.r rfl (zAb (t := false) rfl rfl) .nil))))))))))))))))))) (by kernel_rfl) ?_
   refine zAT (t := false) rfl (fun h => nomatch h) (fun _ => ?_)
   refine zAn ?_
   refine zAB ?_
   refine zAQ (s' := mk [(5, .vi (n:Int))] [] []) ?_ ?_
   · exact zAJ ⟨rfl, trivial⟩ trivial trivial rfl
   refine zAA rfl (.m rfl rfl (.a rfl rfl .nil)) ?_
   refine zAK ?_
   exact ends [_] [] (.cons (.tmp (zAG (congrArg Nat.cast (zEW hS (by omega) (by omega) (.inr (.inl (by omega))))).symm)) .nil) (.cons (.one .v (.v _)) .nil) (by decide) trivial
  ·
   have h2' := h2
   replace h2' := of_decide_eq_true h2'
   refine zAf zBo rfl (.m rfl rfl (.m rfl rfl (.r rfl (zAO rfl rfl underlying9) (.r rfl (zAI (zAz rfl rfl rfl) (zAE h1)) (.m rfl rfl (.m rfl rfl (.m rfl rfl (.r rfl (zAO rfl rfl underlying9) (.r rfl (zAI (zAz rfl rfl rfl) (zAE h2)) (.r rfl (zAb (t := true) rfl rfl) (.m rfl rfl (.m rfl rfl (.m rfl rfl (.r rfl (zBY rfl rfl rfl underlying9 (by omega) (zCD (by omega))) (.m rfl rfl (.m rfl rfl (.r rfl (zBY rfl rfl rfl underlying9 (by omega) (zCD (by omega))) (.r rfl (zA9 rfl rfl rfl) (.r rfl (zAb (t := true) rfl rfl) .nil))))))))))))))))))) (by kernel_rfl) ?_
   refine zAT (t := decide (((a[n]?.getD 0).toNat : Int) = ((b[n]?.getD 0).toNat : Int))) rfl (fun h3 => ?_) (fun h3 => ?_)
   ·
    replace h3 := of_decide_eq_true h3
    refine zAM ?_
    refine zAS ?_
    refine zAQ (s' := mk [(0, .vs a), (1, .vs b), (5, .vi (n:Int)), (11, .vi (n:Int)), (12, .vs b), (13, .vi (b.size : Int)), (14, .vb true), (17, .vs a), (18, .vi (n:Int)), (19, .p none (.v (.int .u8 ((a[n]?.getD 0).toNat : Int)))), (20, .vs b), (21, .vi (n:Int)), (22, .p none (.v (.int .u8 ((b[n]?.getD 0).toNat : Int)))), (23, .vb (decide (((a[n]?.getD 0).toNat : Int) = ((b[n]?.getD 0).toNat : Int))))] [] []) ?_ ?_
    · exact zAJ ⟨rfl, rfl, rfl, rfl, rfl, rfl, rfl, rfl, rfl, rfl, rfl, rfl, rfl, rfl, trivial⟩ trivial trivial rfl
    refine zAA rfl (.m rfl rfl (.r rfl (zAd rfl rfl rfl (by omega)) (.a rfl rfl .nil))) ?_
    refine nxt (Q := fun _ _ => False) (z := n) (n + 1) ?_ ?_ ?_
    ·
     show ((n + 1) ≤ a.size ∧ (n + 1) ≤ b.size) ∧ zEo a b (n + 1)
     exact ⟨⟨by omega, by omega⟩, zIu hS (by omega) (by omega) (by assumption)⟩
    ·
     show a.size - (n + 1) < a.size - n
     omega
    · exact zAJ ⟨rfl, rfl, (zAG (by omega)), trivial⟩ trivial trivial rfl
   ·
    replace h3 := of_decide_eq_false h3
    refine zAn ?_
    refine zAB ?_
    refine zAQ (s' := mk [(5, .vi (n:Int))] [] []) ?_ ?_
    · exact zAJ ⟨rfl, trivial⟩ trivial trivial rfl
    refine zAA rfl (.m rfl rfl (.a rfl rfl .nil)) ?_
    refine zAK ?_
    exact ends [_] [] (.cons (.tmp (zAG (congrArg Nat.cast (zEW hS (by omega) (by omega) (.inr (.inr ⟨by omega, by omega, by assumption⟩)))).symm)) .nil) (.cons (.one .v (.v _)) .nil) (by decide) trivial
theorem zE2 (e : Ent) (hk : zBl e.user e.seq e.kind = true) : Con Tryz.prog 64 [.agg [PV.v (.string e.user), PV.v (.int .i64 e.seq), PV.v (.int .i64 e.kind)]] [] [.one (.v (.string (keyT e)))] := by
 refine zAR func64 rfl rfl rfl rfl ?_
 have hkn := zEd hk
 have hf1 := zAU (keyN e % 4294967296)
 have hf2 := zAU ((keyN e / 2 ^ 32) % 4294967296)
 have hf3 := zAZ e.user (fixV (keyN e % 4294967296))
 refine zAB (zAA rfl (.run [] [1] rfl (zCF rfl 1 rfl rfl (by decide) rfl (by decide)) (.a rfl rfl .nil)) ?_)
 refine zAB (zAA rfl (.r rfl (zAC rfl rfl underlying43 rfl sizeOf2 (by decide)) (.r rfl (zAD rfl rfl rfl isAgg2 rfl) (.r rfl (zCw rfl rfl rfl (by omega)) (.r rfl (zAC rfl rfl underlying43 rfl sizeOf2 (by decide)) (.r rfl (zAD rfl rfl rfl isAgg2 rfl) (.r rfl (zAd rfl rfl rfl (by omega)) (.r rfl (zAI (zEF rfl rfl underlying2 underlying58) ((show (AV.p none (.v (.int .u64 (IntKind.u64.wrap ((2 * e.seq) + e.kind))))) = AV.p none (.v (.int .u64 ((keyN e : Nat) : Int))) from zAG (by rw [keyN, IntKind.wrap_u64]; omega)))) (.a rfl rfl .nil)))))))) ?_)
 refine zAB ?_
 refine zAQ (s' := mk [(1, .ptr 1 0), (3, .p none (.v (.int .u64 ((keyN e : Nat) : Int))))] [(1, [.vs e.user, .vi e.seq, .vi e.kind])] []) ?_ ?_
 · exact zAJ ⟨rfl, rfl, trivial⟩ ⟨rfl, trivial⟩ trivial rfl
 refine zAf zBo rfl (.r rfl (zAC rfl rfl underlying43 rfl sizeOf9 (by decide)) (.r rfl (zAD rfl rfl rfl isAgg9 rfl) (.m rfl rfl (.r rfl (zAc (k' := .u32) 4294967296 rfl (keyN e) rfl rfl rfl underlying58 underlying69) (.run [1500] [] rfl (zAF rfl 1500 (X := []) en70 rfl (.val nod) (.cons (.one (.bor .v)) .nil) (by decide) all_nil .nil (zCH ((keyN e) % 4294967296)) rfl rfl (nle rfl)) (.r rfl (zAx rfl rfl rfl (by omega)) (.m rfl rfl (.r rfl (zBZ (keyN e) 32 rfl rfl rfl (by decide)) (.r rfl (zAc (k' := .u32) 4294967296 rfl ((keyN e) / 2 ^ 32) rfl rfl rfl underlying58 underlying69) (.run [2000] [] rfl (zAF rfl 2000 (X := []) en70 rfl (.val nod) (.cons (.one (.bor .v)) .nil) (by decide) all_nil .nil (zCH (((keyN e) / 2 ^ 32) % 4294967296)) rfl rfl (nle rfl)) (.r rfl (zAx rfl rfl rfl (by omega)) (.a rfl rfl .nil)))))))))))) (by kernel_rfl) ?_
 refine zAK ?_
 exact ends [_] [] (.cons (.tmp rfl) .nil) (.cons (.one .v (.v _)) .nil) (by decide) trivial
theorem zEH (e : Ent) (hk : zBl e.user e.seq e.kind = true) : Con Tryz.prog 34 [.agg [PV.v (.string e.user), PV.v (.int .i64 e.seq), PV.v (.int .i64 e.kind)]] [] [.one (.v (.string (keyT e)))] := by
 refine zAR func34 rfl rfl rfl rfl ?_
 have hkn := zEd hk
 have hf1 := zAU (keyN e % 4294967296)
 have hf2 := zAU ((keyN e / 2 ^ 32) % 4294967296)
 have hf3 := zAZ e.user (fixV (keyN e % 4294967296))
 refine zAB (zAA rfl (.run [] [1] rfl (zCF rfl 1 rfl rfl (by decide) rfl (by decide)) (.a rfl rfl .nil)) ?_)
 refine zAB ?_
 refine zAB (zAA rfl (.r rfl (zAW rfl rfl rfl isAgg43 sizeOf43 (nle rfl)) (.run [500] [] rfl (zAF rfl 500 (X := []) en73 rfl (.val nod) (.cons (.agg (.cons (.bor .v) (.cons (.bor .v) (.cons (.bor .v) .nil)))) .nil) (by decide) all_nil .nil (zBu e) rfl rfl (nle rfl)) (.r rfl (zAa (b := zBl e.user e.seq e.kind) rfl rfl) .nil))) ?_)
 refine zAT (t := (!(zBl e.user e.seq e.kind))) rfl (fun h1 => ?_) (fun h1 => ?_)
 ·
  replace h1 : (zBl e.user e.seq e.kind) = false := zAp h1
  rw [hk] at h1; cases h1
 ·
  replace h1 : (zBl e.user e.seq e.kind) = true := zAq h1
  refine zAM ?_
  refine zAB (zAA rfl (.r rfl (zAC rfl rfl underlying43 rfl sizeOf2 (by decide)) (.r rfl (zAD rfl rfl rfl isAgg2 rfl) (.r rfl (zCw rfl rfl rfl (by omega)) (.r rfl (zAC rfl rfl underlying43 rfl sizeOf2 (by decide)) (.r rfl (zAD rfl rfl rfl isAgg2 rfl) (.r rfl (zAd rfl rfl rfl (by omega)) (.r rfl (zAI (zEF rfl rfl underlying2 underlying58) ((show (AV.p none (.v (.int .u64 (IntKind.u64.wrap ((2 * e.seq) + e.kind))))) = AV.p none (.v (.int .u64 ((keyN e : Nat) : Int))) from zAG (by rw [keyN, IntKind.wrap_u64]; omega)))) (.a rfl rfl .nil)))))))) ?_)
  refine zAB ?_
  refine zAQ (s' := mk [(1, .ptr 1 0), (3, .p none (.v (.int .u64 ((keyN e : Nat) : Int))))] [(1, [.vs e.user, .vi e.seq, .vi e.kind])] []) ?_ ?_
  · exact zAJ ⟨rfl, rfl, trivial⟩ ⟨rfl, trivial⟩ trivial rfl
  refine zAf zBo rfl (.r rfl (zAC rfl rfl underlying43 rfl sizeOf9 (by decide)) (.r rfl (zAD rfl rfl rfl isAgg9 rfl) (.m rfl rfl (.r rfl (zAc (k' := .u32) 4294967296 rfl (keyN e) rfl rfl rfl underlying58 underlying69) (.run [1800] [] rfl (zAF rfl 1800 (X := []) en39 rfl (.val nod) (.cons (.one (.bor .v)) .nil) (by decide) all_nil .nil (zBk ((keyN e) % 4294967296)) rfl rfl (nle rfl)) (.r rfl (zAx rfl rfl rfl (by omega)) (.m rfl rfl (.r rfl (zBZ (keyN e) 32 rfl rfl rfl (by decide)) (.r rfl (zAc (k' := .u32) 4294967296 rfl ((keyN e) / 2 ^ 32) rfl rfl rfl underlying58 underlying69) (.run [2300] [] rfl (zAF rfl 2300 (X := []) en39 rfl (.val nod) (.cons (.one (.bor .v)) .nil) (by decide) all_nil .nil (zBk (((keyN e) / 2 ^ 32) % 4294967296)) rfl rfl (nle rfl)) (.r rfl (zAx rfl rfl rfl (by omega)) (.a rfl rfl .nil)))))))))))) (by kernel_rfl) ?_
  refine zAK ?_
  exact ends [_] [] (.cons (.tmp rfl) .nil) (.cons (.one .v (.v _)) .nil) (by decide) trivial
theorem zEs (s : ByteArray) (hs : s.size ≤ 3000000000000000000) : Con Tryz.prog 65 [.one (PV.v (.string s))] [] [.one (.v (.string (secF s)))] := by
 refine zAR func65 rfl rfl rfl rfl ?_
 refine zAB (zAA rfl (.a rfl rfl .nil) ?_)
 refine zAB ?_
 have hx := zBS (s := s) (by omega)
 have hf := zAU (crcF s)
 refine zAA rfl (.m rfl rfl (.run [400] [] rfl (zAF rfl 400 (X := []) en63 rfl (.val nod) (.cons (.one (.bor .v)) .nil) (by decide) all_nil .nil (zCW s (by omega)) rfl rfl (nle rfl)) (.m rfl rfl (.run [600] [] rfl (zAF rfl 600 (X := []) en106 rfl (.val nod) (.cons (.one (.bor .v)) .nil) (by decide) all_nil .nil (zKL s (by omega)) rfl rfl (nle rfl)) (.run [700] [] rfl (zAF rfl 700 (X := []) en70 rfl (.val nod) (.cons (.one (.bor .v)) .nil) (by decide) all_nil .nil (zCH (crcF s)) rfl rfl (nle rfl)) (.r rfl (zAx rfl rfl rfl (by omega)) (.a rfl rfl .nil))))))) ?_
 refine zAK ?_
 exact ends [_] [] (.cons (.tmp rfl) .nil) (.cons (.one .v (.v _)) .nil) (by decide) trivial
theorem zCq (s : ByteArray) (hs : s.size ≤ 3000000000000000000) : Con Tryz.prog 35 [.one (PV.v (.string s))] [] [.one (.v (.string (secF s)))] := by
 refine zAR func35 rfl rfl rfl rfl ?_
 refine zAB (zAA rfl (.a rfl rfl .nil) ?_)
 refine zAB ?_
 have hx := zBS (s := s) (by omega)
 have hf := zAU (crcF s)
 refine zAA rfl (.m rfl rfl (.run [400] [] rfl (zAF rfl 400 (X := []) en33 rfl (.val nod) (.cons (.one (.bor .v)) .nil) (by decide) all_nil .nil (zCG s (by omega)) rfl rfl (nle rfl)) (.m rfl rfl (.run [600] [] rfl (zAF rfl 600 (X := []) en74 rfl (.val nod) (.cons (.one (.bor .v)) .nil) (by decide) all_nil .nil (zKd s (by omega)) rfl rfl (nle rfl)) (.run [700] [] rfl (zAF rfl 700 (X := []) en39 rfl (.val nod) (.cons (.one (.bor .v)) .nil) (by decide) all_nil .nil (zBk (crcF s)) rfl rfl (nle rfl)) (.r rfl (zAx rfl rfl rfl (by omega)) (.a rfl rfl .nil))))))) ?_
 refine zAK ?_
 exact ends [_] [] (.cons (.tmp rfl) .nil) (.cons (.one .v (.v _)) .nil) (by decide) trivial
end Go.Rl
namespace Go.Rl
open Go.Proofs Go.Proofs.Tryz
set_option maxRecDepth 1000000
set_option maxHeartbeats 2000000
theorem en64 : En Tryz.prog 64 := zAl func64 (by decide) rfl
theorem en62 : En Tryz.prog 62 := zAl func62 (by decide) rfl
theorem en104 : En Tryz.prog 104 := zAl func104 (by decide) rfl
theorem zJb (l : List Ent) (ev : Nat) (hl : ∀ e ∈ l, zBp e = true) (hn : l.length ≤ 400) (hev : 1 ≤ ev ∧ ev ≤ 16) : Con Tryz.prog 61 [.one (PV.sl false 4 (pvE l)), .one (PV.v (.int .i64 (ev:Int)))] [] [.one (.v (.string (blkF l ev)))] := by
 refine zAR func61 rfl rfl rfl rfl ?_
 have hle := zA2 l
 refine zAB (zAA rfl (.a rfl rfl .nil) ?_)
 refine zAB (zAA rfl (.a rfl rfl (.a rfl rfl (.a rfl rfl (.a rfl rfl .nil)))) ?_)
 refine zAB ?_
 refine zAB (zAA rfl (.m rfl rfl (.r rfl (zAu rfl rfl underlying24) (.m rfl rfl .nil))) ?_)
 refine zAS ?_
 refine zAo (σ := Nat) (fun i => mk [(1, .vi (ev:Int)), (5, .vs ((blkN l ev i).out)), (6, .vs ((blkN l ev i).ahead)), (7, .vs ((blkN l ev i).anew)), (8, .p none (.v (.int .u32 (((blkN l ev i).many : Nat) : Int)))), (13, .p none (.sl false 4 (pvE l))), (14, .vi ((pvE l).length : Int)), (15, .vi (i:Int))] [] []) (fun i => i ≤ l.length) (fun i => l.length - i) 0 (by simp) (zAJ ⟨rfl, (zA5 (by rfl)), (zA5 (by rfl)), (zA5 (by rfl)), (zAG (by rfl)), rfl, rfl, (zAG (by omega)), trivial⟩ trivial trivial rfl) ?_
 rintro i hG
 replace hG : i ≤ l.length := hG
 have hb := zG0 hl (ev := ev) i (by omega)
 have hb1 := hb.out
 have hb2 := hb.anew
 have hb3 := hb.ahead
 have hb4 := hb.many
 refine zAB (zAA rfl (.r rfl (zAz rfl rfl rfl) .nil) ?_)
 refine zAB ?_
 refine zAT (t := decide ((i:Int) < ((pvE l).length : Int))) rfl (fun h1 => ?_) (fun h1 => ?_)
 ·
  replace h1 := of_decide_eq_true h1
  refine zAM ?_
  refine zAB ?_
  refine zAS ?_
  refine zAB ?_
  obtain ⟨e, he⟩ : ∃ e, l[i]? = some e := ⟨_, List.getElem?_eq_getElem (by omega)⟩
  have hen := hl e (List.mem_of_getElem? he)
  have hnn := zDg hen
  have hx1 := zBS (s := e.value) (by omega)
  have hx0 := zC6 (keyT e) 0
  have hx2 := zBS (s := (keyT e).extract 0 (keyT e).size) (by omega)
  have hx3 := zC6 (keyT e) (zBN (blkN l ev i).ahead (keyT e))
  have hx4 := zBS (s := (keyT e).extract (zBN (blkN l ev i).ahead (keyT e)) (keyT e).size) (by omega)
  have hx5 := zDl (blkN l ev i).ahead (keyT e)
  have hv0 := zA4 (n := (0 : Int).toNat) (by decide)
  have hv1 := zA4 (n := (((zBN (blkN l ev i).ahead (keyT e) : Nat) : Int) : Int).toNat) (by omega)
  have hv2 := zA4 (n := zBN (blkN l ev i).ahead (keyT e)) (by omega)
  have hv3 := zA4 (n := 0) (by decide)
  refine zAA rfl (.m rfl rfl (.r rfl (zA8 rfl rfl rfl underlying24 sizeOf45 rfl (by omega) (zCK he)) (.r rfl (zBh rfl rfl isAgg45 sizeOf45 (nle rfl)) (.run [] [10] rfl (zA7 rfl 10 zEC rfl (by decide) rfl (by decide)) (.a rfl rfl (.r rfl (zAN rfl rfl rfl rfl rfl sizeOf45 rfl (nle rfl)) .nil)))))) ?_
  refine zAB (zAA rfl (.r rfl (zAC rfl rfl underlying45 rfl sizeOf43 (by decide)) (.r rfl (zAW rfl rfl rfl isAgg43 sizeOf43 (nle rfl)) (.run [2200] [] rfl (zAF rfl 2200 (X := []) en64 rfl (.val nod) (.cons (.agg (.cons (.bor .v) (.cons (.bor .v) (.cons (.bor .v) .nil)))) .nil) (by decide) all_nil .nil (zE2 e (zCB hen)) rfl rfl (nle rfl)) (.a rfl rfl (.a rfl rfl .nil))))) ?_)
  refine zAB ?_
  refine zAB (zAA rfl (.m rfl rfl (.m rfl rfl (.r rfl (zKZ rfl rfl rfl (by omega)) (.r rfl (zA9 rfl rfl rfl) .nil)))) ?_)
  refine zAT (t := decide (((i:Int).tmod (ev:Int)) = 0)) rfl (fun h2 => ?_) (fun h2 => ?_)
  ·
   replace h2 := of_decide_eq_true h2
   refine zAB ?_
   refine zAQ (s' := mk [(1, .vi (ev:Int)), (5, .vs ((blkN l ev i).out)), (7, .vs ((blkN l ev i).anew)), (8, .p none (.v (.int .u32 (((blkN l ev i).many : Nat) : Int)))), (10, .ptr 10 0), (11, .vs (keyT e)), (12, .vi 0), (13, .p none (.sl false 4 (pvE l))), (14, .vi ((pvE l).length : Int)), (15, .vi (i:Int))] [(10, [.vs e.user, .vi e.seq, .vi e.kind, .vs e.value])] []) ?_ ?_
   · exact zAJ ⟨rfl, rfl, rfl, rfl, rfl, rfl, rfl, rfl, rfl, rfl, trivial⟩ ⟨rfl, trivial⟩ trivial rfl
   refine zAA rfl (.m rfl rfl (.m rfl rfl (.r rfl (zAO rfl rfl underlying9) (.r rfl (zAc (k' := .u32) 4294967296 rfl (((blkN l ev i).out).size) rfl rfl rfl underlying3 underlying69) (.run [3100] [] rfl (zAF rfl 3100 (X := []) en70 rfl (.val nod) (.cons (.one (.bor .v)) .nil) (by decide) all_nil .nil (zCH ((((blkN l ev i).out).size) % 4294967296)) rfl rfl (nle rfl)) (.r rfl (zAx rfl rfl rfl (by first | omega | (simp only [zAZ, zAU]; omega))) (.a rfl rfl .nil))))))) ?_
   refine zAA rfl (.m rfl rfl (.r rfl (zFb (k := .u32) 4294967296 rfl ((blkN l ev i).many) 1 rfl rfl rfl rfl) (.a rfl rfl .nil))) ?_
   refine zAB ?_
   refine zAQ (s' := mk [(1, .vi (ev:Int)), (5, .vs ((blkN l ev i).out)), (7, .vs (((blkN l ev i).anew) ++ (fixV ((((blkN l ev i).out).size) % 4294967296)))), (8, .p none (.v (.int .u32 (((((blkN l ev i).many) + 1) % 4294967296 : Nat) : Int)))), (10, .ptr 10 0), (11, .vs (keyT e)), (12, .vi 0), (13, .p none (.sl false 4 (pvE l))), (14, .vi ((pvE l).length : Int)), (15, .vi (i:Int))] [(10, [.vs e.user, .vi e.seq, .vi e.kind, .vs e.value])] []) ?_ ?_
   · exact zAJ ⟨rfl, rfl, rfl, rfl, rfl, rfl, rfl, rfl, rfl, rfl, trivial⟩ ⟨rfl, trivial⟩ trivial rfl
   refine zAf zBo rfl (.m rfl rfl (.m rfl rfl (.run [4000] [] rfl (zAF rfl 4000 (X := []) en62 rfl (.val nod) (.cons (.one (.bor .v)) .nil) (by decide) all_nil .nil (zCA 0 (by omega) (by omega)) rfl rfl (nle rfl)) (.m rfl rfl (.m rfl rfl (.r rfl (zAv rfl rfl underlying9 (.at_ rfl (show (0 : Int) = ((0 : Nat) : Int) from rfl)) .no (by omega) (Nat.le_refl _)) (.run [4400] [] rfl (zAF rfl 4400 (X := []) en63 rfl (.val nod) (.cons (.one (.bor .v)) .nil) (by decide) all_nil .nil (zCW ((keyT e).extract 0 ((keyT e).size)) (by omega)) rfl rfl (nle rfl)) (.r rfl (zAx rfl rfl rfl (by first | omega | (simp only [zAZ, zAU]; omega))) (.r rfl (zAC rfl rfl underlying45 rfl sizeOf9 (by decide)) (.r rfl (zAD rfl rfl rfl isAgg9 rfl) (.run [4800] [] rfl (zAF rfl 4800 (X := []) en63 rfl (.val nod) (.cons (.one (.bor .v)) .nil) (by decide) all_nil .nil (zCW e.value (by omega)) rfl rfl (nle rfl)) (.r rfl (zAx rfl rfl rfl (by first | omega | (simp only [zAZ, zAU]; omega))) (.r rfl (zAx rfl rfl rfl (by first | omega | (simp only [zAZ, zAU]; omega))) (.a rfl rfl .nil)))))))))))))) (by kernel_rfl) ?_
   refine zAA rfl (.m rfl rfl (.a rfl rfl .nil)) ?_
   refine zAQ (s' := mk [(1, .vi (ev:Int)), (5, .vs (((blkN l ev i).out) ++ (((putV (0 : Int).toNat) ++ (putX ((keyT e).extract 0 ((keyT e).size)))) ++ (putX e.value)))), (6, .vs (keyT e)), (7, .vs (((blkN l ev i).anew) ++ (fixV ((((blkN l ev i).out).size) % 4294967296)))), (8, .p none (.v (.int .u32 (((((blkN l ev i).many) + 1) % 4294967296 : Nat) : Int)))), (13, .p none (.sl false 4 (pvE l))), (14, .vi ((pvE l).length : Int)), (15, .vi (i:Int))] [] []) ?_ ?_
   · exact zAJ ⟨rfl, rfl, rfl, rfl, rfl, rfl, rfl, rfl, trivial⟩ trivial trivial rfl
   refine zAA rfl (.r rfl (zAd rfl rfl rfl (by omega)) (.m rfl rfl .nil)) ?_
   refine nxt (Q := fun _ _ => False) (z := i) (i + 1) ?_ ?_ ?_
   ·
    show (i + 1) ≤ l.length
    omega
   ·
    show l.length - (i + 1) < l.length - i
    omega
   · exact zAJ ⟨rfl, (zA5 (by exact zNJ he h2)), (zA5 (by exact zFS he)), (zA5 (by exact zJf he h2)), (zAG (by exact congrArg Nat.cast (zJd he h2 (by omega)))), rfl, rfl, (zAG (by omega)), trivial⟩ trivial trivial rfl
  ·
   replace h2 := of_decide_eq_false h2
   refine zAQ (s' := mk [(1, .vi (ev:Int)), (5, .vs ((blkN l ev i).out)), (6, .vs ((blkN l ev i).ahead)), (7, .vs ((blkN l ev i).anew)), (8, .p none (.v (.int .u32 (((blkN l ev i).many : Nat) : Int)))), (10, .ptr 10 0), (11, .vs (keyT e)), (13, .p none (.sl false 4 (pvE l))), (14, .vi ((pvE l).length : Int)), (15, .vi (i:Int))] [(10, [.vs e.user, .vi e.seq, .vi e.kind, .vs e.value])] []) ?_ ?_
   · exact zAJ ⟨rfl, rfl, rfl, rfl, rfl, rfl, rfl, rfl, rfl, rfl, trivial⟩ ⟨rfl, trivial⟩ trivial rfl
   refine zAA rfl (.m rfl rfl (.m rfl rfl (.run [3700] [] rfl (zAF rfl 3700 (X := []) en104 rfl (.val nod) (.cons (.one (.bor .v)) (.cons (.one (.bor .v)) .nil)) (by decide) all_nil .nil (zLQ ((blkN l ev i).ahead) (keyT e) (by omega) (by omega)) rfl rfl (nle rfl)) (.a rfl rfl .nil)))) ?_
   refine zAB ?_
   refine zAQ (s' := mk [(1, .vi (ev:Int)), (5, .vs ((blkN l ev i).out)), (7, .vs ((blkN l ev i).anew)), (8, .p none (.v (.int .u32 (((blkN l ev i).many : Nat) : Int)))), (10, .ptr 10 0), (11, .vs (keyT e)), (12, .vi ((zBN ((blkN l ev i).ahead) (keyT e) : Nat) : Int)), (13, .p none (.sl false 4 (pvE l))), (14, .vi ((pvE l).length : Int)), (15, .vi (i:Int))] [(10, [.vs e.user, .vi e.seq, .vi e.kind, .vs e.value])] []) ?_ ?_
   · exact zAJ ⟨rfl, rfl, rfl, rfl, rfl, rfl, rfl, rfl, rfl, rfl, trivial⟩ ⟨rfl, trivial⟩ trivial rfl
   refine zAf zBo rfl (.m rfl rfl (.m rfl rfl (.run [4000] [] rfl (zAF rfl 4000 (X := []) en62 rfl (.val nod) (.cons (.one (.bor .v)) .nil) (by decide) all_nil .nil (zCA ((zBN ((blkN l ev i).ahead) (keyT e) : Nat) : Int) (by omega) (by omega)) rfl rfl (nle rfl)) (.m rfl rfl (.m rfl rfl (.r rfl (zAv rfl rfl underlying9 (.at_ rfl rfl) .no (by omega) (Nat.le_refl _)) (.run [4400] [] rfl (zAF rfl 4400 (X := []) en63 rfl (.val nod) (.cons (.one (.bor .v)) .nil) (by decide) all_nil .nil (zCW ((keyT e).extract (zBN ((blkN l ev i).ahead) (keyT e)) ((keyT e).size)) (by omega)) rfl rfl (nle rfl)) (.r rfl (zAx rfl rfl rfl (by first | omega | (simp only [zAZ, zAU]; omega))) (.r rfl (zAC rfl rfl underlying45 rfl sizeOf9 (by decide)) (.r rfl (zAD rfl rfl rfl isAgg9 rfl) (.run [4800] [] rfl (zAF rfl 4800 (X := []) en63 rfl (.val nod) (.cons (.one (.bor .v)) .nil) (by decide) all_nil .nil (zCW e.value (by omega)) rfl rfl (nle rfl)) (.r rfl (zAx rfl rfl rfl (by first | omega | (simp only [zAZ, zAU]; omega))) (.r rfl (zAx rfl rfl rfl (by first | omega | (simp only [zAZ, zAU]; omega))) (.a rfl rfl .nil)))))))))))))) (by kernel_rfl) ?_
   refine zAA rfl (.m rfl rfl (.a rfl rfl .nil)) ?_
   refine zAQ (s' := mk [(1, .vi (ev:Int)), (5, .vs (((blkN l ev i).out) ++ (((putV (((zBN ((blkN l ev i).ahead) (keyT e) : Nat) : Int) : Int).toNat) ++ (putX ((keyT e).extract (zBN ((blkN l ev i).ahead) (keyT e)) ((keyT e).size)))) ++ (putX e.value)))), (6, .vs (keyT e)), (7, .vs ((blkN l ev i).anew)), (8, .p none (.v (.int .u32 (((blkN l ev i).many : Nat) : Int)))), (13, .p none (.sl false 4 (pvE l))), (14, .vi ((pvE l).length : Int)), (15, .vi (i:Int))] [] []) ?_ ?_
   · exact zAJ ⟨rfl, rfl, rfl, rfl, rfl, rfl, rfl, rfl, trivial⟩ trivial trivial rfl
   refine zAA rfl (.r rfl (zAd rfl rfl rfl (by omega)) (.m rfl rfl .nil)) ?_
   refine nxt (Q := fun _ _ => False) (z := i) (i + 1) ?_ ?_ ?_
   ·
    show (i + 1) ≤ l.length
    omega
   ·
    show l.length - (i + 1) < l.length - i
    omega
   · exact zAJ ⟨rfl, (zA5 (by exact zNI he h2)), (zA5 (by exact zFS he)), (zA5 (by exact zJe he h2)), (zAG (by exact congrArg Nat.cast (zJc he h2))), rfl, rfl, (zAG (by omega)), trivial⟩ trivial trivial rfl
 ·
  replace h1 := of_decide_eq_false h1
  refine zAn ?_
  refine zAB ?_
  rw [show i = l.length by omega]
  have hc := zG0 hl (ev := ev) l.length (Nat.le_refl _)
  have hc1 := hc.out
  have hc2 := hc.anew
  refine zAA rfl (.m rfl rfl (.m rfl rfl (.r rfl (zAx rfl rfl rfl (by first | omega | (simp only [zAZ, zAU]; omega))) (.m rfl rfl (.run [5700] [] rfl (zAF rfl 5700 (X := []) en70 rfl (.val nod) (.cons (.one (.bor .v)) .nil) (by decide) all_nil .nil (zCH ((blkN l ev l.length).many)) rfl rfl (nle rfl)) (.r rfl (zAx rfl rfl rfl (by first | omega | (simp only [zAZ, zAU]; omega))) (.m rfl rfl (.r rfl (zAc (k' := .u32) 4294967296 rfl ev rfl rfl rfl underlying2 underlying69) (.run [6100] [] rfl (zAF rfl 6100 (X := []) en70 rfl (.val nod) (.cons (.one (.bor .v)) .nil) (by decide) all_nil .nil (zCH (ev % 4294967296)) rfl rfl (nle rfl)) (.r rfl (zAx rfl rfl rfl (by first | omega | (simp only [zAZ, zAU]; omega))) (.a rfl rfl .nil))))))))))) ?_
  refine zAK ?_
  exact ends [_] [] (.cons (.tmp rfl) .nil) (.cons (.one .v (.v _)) .nil) (by decide) trivial
end Go.Rl
namespace Go.Rl
open Go.Proofs Go.Proofs.Tryz
set_option maxRecDepth 1000000
set_option maxHeartbeats 2000000
theorem en29 : En Tryz.prog 29 := zAl func29 (by decide) rfl
theorem en34 : En Tryz.prog 34 := zAl func34 (by decide) rfl
theorem en72 : En Tryz.prog 72 := zAl func72 (by decide) rfl
theorem zGR (l : List Ent) (ev : Nat) (hlb : l.length ≤ 2000000) (hevb : ev < 4294967296) : Con Tryz.prog 31 [.one (PV.sl false 4 (pvE l)), .one (PV.v (.int .i64 (ev:Int)))] [] [.one (.v (.string ((zBn l ev).getD ⟨#[]⟩))), .one (.v (.bool ((zBn l ev).isSome)))] := by
 refine zAR func31 rfl rfl rfl rfl ?_
 have hle := zA2 l
 refine zAB (zAA rfl (.a rfl rfl (.a rfl rfl .nil)) ?_)
 refine zAB ?_
 refine zAB ?_
 rcases bfc (!(zBJ l)) with h1 | h1
 ·
  have h1' := h1
  replace h1' : (zBJ l) = true := zAq h1'
  rcases bfc (decide (((pvE l).length : Int) = 0)) with h2 | h2
  ·
   have h2' := h2
   replace h2' := of_decide_eq_false h2'
   refine zAA rfl (.m rfl rfl (.run [1400] [] rfl (zAF rfl 1400 (X := []) en29 rfl (.val nod) (.cons (.one (.bor (.sl nod))) .nil) (by decide) all_nil .nil (zBi l (by omega)) rfl rfl (nle rfl)) (.r rfl (zAI (zAa (b := zBJ l) rfl rfl) (zAE h1)) (.m rfl rfl (.m rfl rfl (.r rfl (zAu rfl rfl underlying24) (.r rfl (zAI (zA9 rfl rfl rfl) (zAE h2)) (.r rfl (zAb (t := false) rfl rfl) (.m rfl rfl (.m rfl rfl (.run [2300] [] rfl (zAF rfl 2300 (X := []) en71 rfl (.val nod) (.cons (.one (.bor .v)) (.cons (.one (.bor .v)) (.cons (.one (.bor .v)) .nil))) (by decide) all_nil .nil (zBv (ev:Int) 1 16) rfl rfl (nle rfl)) (.r rfl (zAa (b := zAi (ev:Int) 1 16) rfl rfl) (.r rfl (zAb (t := false) rfl rfl) .nil))))))))))))) ?_
   refine zAT (t := (!(zAi (ev:Int) 1 16))) rfl (fun h3 => ?_) (fun h3 => ?_)
   ·
    replace h3 : (zAi (ev:Int) 1 16) = false := zAp h3
    refine zAB ?_
    rw [zDu (l := l) (ev := ev) (.inr (.inr (fun q => by rw [show zAi (ev : Int) 1 16 = true by simp only [zAi, Bool.and_eq_true, decide_eq_true_eq]; omega] at h3; cases h3)))]
    refine zAQ (s' := mk [] [] []) ?_ ?_
    · exact zAJ trivial trivial trivial rfl
    refine zAA rfl (.a rfl rfl (.a rfl rfl .nil)) ?_
    refine zAK ?_
    exact ends [_, _] [] (.cons (.tmp rfl) (.cons (.tmp rfl) .nil)) (.cons (.one .v (.v _)) (.cons (.one .v (.v _)) .nil)) (by decide) trivial
   ·
    replace h3 : (zAi (ev:Int) 1 16) = true := zAq h3
    refine zAM ?_
    refine zAB ?_
    have hok := h1'
    have hev : 1 ≤ ev ∧ ev ≤ 16 := by have q := h3; simp only [zAi, Bool.and_eq_true, decide_eq_true_eq] at q; omega
    have h0 : 0 < l.length := by omega
    have hl : ∀ e ∈ l, zBp e = true := fun e he => zCa hok he
    have hn := zBm hok
    refine zAA rfl (.a rfl rfl .nil) ?_
    refine zAB ?_
    refine zAQ (s' := mk [(0, .p none (.sl false 4 (pvE l))), (1, .vi (ev:Int)), (6, .vs ⟨#[]⟩)] [] []) ?_ ?_
    · exact zAJ ⟨rfl, rfl, rfl, trivial⟩ trivial trivial rfl
    refine zAA rfl (.a rfl rfl .nil) ?_
    refine zAB (zAA rfl (.a rfl rfl .nil) ?_)
    refine zAB (zAA rfl (.a rfl rfl .nil) ?_)
    refine zAB ?_
    refine zAB (zAA rfl (.a rfl rfl .nil) ?_)
    refine zAS ?_
    refine zAo (σ := Nat) (fun i => mk [(0, .p none (.sl false 4 (pvE l))), (1, .vi (ev:Int)), (6, .vs ((blkN l ev i).out)), (7, .vs ((blkN l ev i).anew)), (8, .p none (.v (.int .u32 (((blkN l ev i).many : Nat) : Int)))), (9, .vs ((blkN l ev i).ahead)), (10, .vi (i:Int))] [] []) (fun i => i ≤ l.length) (fun i => l.length - i) 0 (by simp) (zAJ ⟨rfl, rfl, (zA5 (by rfl)), (zA5 (by rfl)), (zAG (by rfl)), (zA5 (by rfl)), (zAG (by omega)), trivial⟩ trivial trivial rfl) ?_
    rintro i hG
    replace hG : i ≤ l.length := hG
    have hb := zG0 hl (ev := ev) i (by omega)
    have hb1 := hb.out
    have hb2 := hb.anew
    have hb3 := hb.ahead
    have hb4 := hb.many
    refine zAB ?_
    refine zAB (zAA rfl (.m rfl rfl (.m rfl rfl (.r rfl (zAu rfl rfl underlying24) (.r rfl (zAz rfl rfl rfl) .nil)))) ?_)
    refine zAT (t := decide ((i:Int) < ((pvE l).length : Int))) rfl (fun h4 => ?_) (fun h4 => ?_)
    ·
     replace h4 := of_decide_eq_true h4
     refine zAM ?_
     refine zAB ?_
     refine zAS ?_
     refine zAB ?_
     obtain ⟨e, he⟩ : ∃ e, l[i]? = some e := ⟨_, List.getElem?_eq_getElem (by omega)⟩
     have hen := hl e (List.mem_of_getElem? he)
     have hnn := zDg hen
     have hx1 := zBS (s := e.value) (by omega)
     have hx0 := zC6 (keyT e) 0
     have hx2 := zBS (s := (keyT e).extract 0 (keyT e).size) (by omega)
     have hx3 := zC6 (keyT e) (zBN (blkN l ev i).ahead (keyT e))
     have hx4 := zBS (s := (keyT e).extract (zBN (blkN l ev i).ahead (keyT e)) (keyT e).size) (by omega)
     have hx5 := zDl (blkN l ev i).ahead (keyT e)
     have hv0 := zA4 (n := (0 : Int).toNat) (by decide)
     have hv1 := zA4 (n := (((zBN (blkN l ev i).ahead (keyT e) : Nat) : Int) : Int).toNat) (by omega)
     have hv2 := zA4 (n := zBN (blkN l ev i).ahead (keyT e)) (by omega)
     have hv3 := zA4 (n := 0) (by decide)
     refine zAA rfl (.m rfl rfl (.m rfl rfl (.r rfl (zA8 rfl rfl rfl underlying24 sizeOf45 rfl (by omega) (zCK he)) (.r rfl (zBQ rfl rfl underlying45 rfl sizeOf43 (by decide)) (.r rfl (zBh rfl rfl isAgg43 sizeOf43 (nle rfl)) (.run [3700] [] rfl (zAF rfl 3700 (X := []) en34 rfl (.val nod) (.cons (.agg (.cons (.bor .v) (.cons (.bor .v) (.cons (.bor .v) .nil)))) .nil) (by decide) all_nil .nil (zEH e (zCB hen)) rfl rfl (nle rfl)) (.a rfl rfl .nil))))))) ?_
     refine zAB (zAA rfl (.m rfl rfl (.m rfl rfl (.run [4000] [] rfl (zAF rfl 4000 (X := []) en72 rfl (.val nod) (.cons (.one (.bor .v)) (.cons (.one (.bor .v)) .nil)) (by decide) all_nil .nil (zJ2 ((blkN l ev i).ahead) (keyT e) (by omega) (by omega)) rfl rfl (nle rfl)) (.a rfl rfl .nil)))) ?_)
     refine zAB ?_
     refine zAB ?_
     refine zAQ (s' := mk [(0, .p none (.sl false 4 (pvE l))), (1, .vi (ev:Int)), (6, .vs ((blkN l ev i).out)), (7, .vs ((blkN l ev i).anew)), (8, .p none (.v (.int .u32 (((blkN l ev i).many : Nat) : Int)))), (10, .vi (i:Int)), (11, .vs (keyT e)), (12, .vi ((zBN ((blkN l ev i).ahead) (keyT e) : Nat) : Int))] [] []) ?_ ?_
     · exact zAJ ⟨rfl, rfl, rfl, rfl, rfl, rfl, rfl, rfl, trivial⟩ trivial trivial rfl
     refine zAA rfl (.m rfl rfl (.m rfl rfl (.r rfl (zKZ rfl rfl rfl (by omega)) (.r rfl (zA9 rfl rfl rfl) .nil)))) ?_
     refine zAT (t := decide (((i:Int).tmod (ev:Int)) = 0)) rfl (fun h5 => ?_) (fun h5 => ?_)
     ·
      replace h5 := of_decide_eq_true h5
      refine zAB (zAA rfl (.m rfl rfl (.m rfl rfl (.r rfl (zAO rfl rfl underlying9) (.r rfl (zAc (k' := .u32) 4294967296 rfl (((blkN l ev i).out).size) rfl rfl rfl underlying3 underlying69) (.run [4900] [] rfl (zAF rfl 4900 (X := []) en39 rfl (.val nod) (.cons (.one (.bor .v)) .nil) (by decide) all_nil .nil (zBk ((((blkN l ev i).out).size) % 4294967296)) rfl rfl (nle rfl)) (.r rfl (zAx rfl rfl rfl (by first | omega | (simp only [zAZ, zAU]; omega))) (.a rfl rfl .nil))))))) ?_)
      refine zAB (zAA rfl (.m rfl rfl (.r rfl (zFb (k := .u32) 4294967296 rfl ((blkN l ev i).many) 1 rfl rfl rfl rfl) (.a rfl rfl .nil))) ?_)
      refine zAA rfl (.a rfl rfl .nil) ?_
      refine zAB ?_
      refine zAQ (s' := mk [(0, .p none (.sl false 4 (pvE l))), (1, .vi (ev:Int)), (6, .vs ((blkN l ev i).out)), (7, .vs (((blkN l ev i).anew) ++ (fixV ((((blkN l ev i).out).size) % 4294967296)))), (8, .p none (.v (.int .u32 (((((blkN l ev i).many) + 1) % 4294967296 : Nat) : Int)))), (10, .vi (i:Int)), (11, .vs (keyT e)), (12, .vi 0)] [] []) ?_ ?_
      · exact zAJ ⟨rfl, rfl, rfl, rfl, rfl, rfl, rfl, rfl, trivial⟩ trivial trivial rfl
      refine zAf zBo rfl (.m rfl rfl (.m rfl rfl (.r rfl (zAI (zAc (k' := .u64) 18446744073709551616 rfl 0 rfl rfl rfl underlying2 underlying58) ((zAG (show ((0 % 18446744073709551616 : Nat) : Int) = ((0 : Nat) : Int) by omega)))) (.run [5600] [] rfl (zAF rfl 5600 (X := []) en32 rfl (.val nod) (.cons (.one (.bor .v)) .nil) (by decide) all_nil .nil (zBs 0 (by omega)) rfl rfl (nle rfl)) (.r rfl (zAx rfl rfl rfl (by first | omega | (simp only [zAZ, zAU]; omega))) (.m rfl rfl (.m rfl rfl (.r rfl (zAv rfl rfl underlying9 (.at_ rfl (show (0 : Int) = ((0 : Nat) : Int) from rfl)) .no (by omega) (Nat.le_refl _)) (.run [6100] [] rfl (zAF rfl 6100 (X := []) en33 rfl (.val nod) (.cons (.one (.bor .v)) .nil) (by decide) all_nil .nil (zCG ((keyT e).extract 0 ((keyT e).size)) (by omega)) rfl rfl (nle rfl)) (.r rfl (zAx rfl rfl rfl (by first | omega | (simp only [zAZ, zAU]; omega))) (.m rfl rfl (.m rfl rfl (.r rfl (zA8 rfl rfl rfl underlying24 sizeOf45 rfl (by omega) (zCK he)) (.r rfl (zBQ rfl rfl underlying45 rfl sizeOf9 (by decide)) (.r rfl (zBP rfl rfl isAgg9 rfl) (.run [6800] [] rfl (zAF rfl 6800 (X := []) en33 rfl (.val nod) (.cons (.one (.bor .v)) .nil) (by decide) all_nil .nil (zCG e.value (by omega)) rfl rfl (nle rfl)) (.r rfl (zAx rfl rfl rfl (by first | omega | (simp only [zAZ, zAU]; omega))) (.a rfl rfl .nil)))))))))))))))))) (by kernel_rfl) ?_
      refine zAQ (s' := mk [(0, .p none (.sl false 4 (pvE l))), (1, .vi (ev:Int)), (6, .vs (((((blkN l ev i).out) ++ (putV 0)) ++ (putX ((keyT e).extract 0 ((keyT e).size)))) ++ (putX e.value))), (7, .vs (((blkN l ev i).anew) ++ (fixV ((((blkN l ev i).out).size) % 4294967296)))), (8, .p none (.v (.int .u32 (((((blkN l ev i).many) + 1) % 4294967296 : Nat) : Int)))), (10, .vi (i:Int)), (11, .vs (keyT e))] [] []) ?_ ?_
      · exact zAJ ⟨rfl, rfl, rfl, rfl, rfl, rfl, rfl, trivial⟩ trivial trivial rfl
      refine zAA rfl (.m rfl rfl (.a rfl rfl .nil)) ?_
      refine zAA rfl (.m rfl rfl (.r rfl (zAd rfl rfl rfl (by omega)) (.a rfl rfl .nil))) ?_
      refine nxt (Q := fun _ _ => False) (z := i) (i + 1) ?_ ?_ ?_
      ·
       show (i + 1) ≤ l.length
       omega
      ·
       show l.length - (i + 1) < l.length - i
       omega
      · exact zAJ ⟨rfl, rfl, (zA5 (by exact zK8 he h5)), (zA5 (by exact zJf he h5)), (zAG (by exact congrArg Nat.cast (zJd he h5 (by omega)))), (zA5 (by exact zFS he)), (zAG (by omega)), trivial⟩ trivial trivial rfl
     ·
      replace h5 := of_decide_eq_false h5
      refine zAM ?_
      refine zAB ?_
      refine zAQ (s' := mk [(0, .p none (.sl false 4 (pvE l))), (1, .vi (ev:Int)), (6, .vs ((blkN l ev i).out)), (7, .vs ((blkN l ev i).anew)), (8, .p none (.v (.int .u32 (((blkN l ev i).many : Nat) : Int)))), (10, .vi (i:Int)), (11, .vs (keyT e)), (12, .vi ((zBN ((blkN l ev i).ahead) (keyT e) : Nat) : Int))] [] []) ?_ ?_
      · exact zAJ ⟨rfl, rfl, rfl, rfl, rfl, rfl, rfl, rfl, trivial⟩ trivial trivial rfl
      refine zAf zBo rfl (.m rfl rfl (.m rfl rfl (.r rfl (zAI (zAc (k' := .u64) 18446744073709551616 rfl (zBN ((blkN l ev i).ahead) (keyT e)) rfl rfl rfl underlying2 underlying58) ((zAG (show (((zBN (blkN l ev i).ahead (keyT e)) % 18446744073709551616 : Nat) : Int) = ((zBN (blkN l ev i).ahead (keyT e) : Nat) : Int) by omega)))) (.run [5600] [] rfl (zAF rfl 5600 (X := []) en32 rfl (.val nod) (.cons (.one (.bor .v)) .nil) (by decide) all_nil .nil (zBs (zBN (blkN l ev i).ahead (keyT e)) (by omega)) rfl rfl (nle rfl)) (.r rfl (zAx rfl rfl rfl (by first | omega | (simp only [zAZ, zAU]; omega))) (.m rfl rfl (.m rfl rfl (.r rfl (zAv rfl rfl underlying9 (.at_ rfl rfl) .no (by omega) (Nat.le_refl _)) (.run [6100] [] rfl (zAF rfl 6100 (X := []) en33 rfl (.val nod) (.cons (.one (.bor .v)) .nil) (by decide) all_nil .nil (zCG ((keyT e).extract (zBN ((blkN l ev i).ahead) (keyT e)) ((keyT e).size)) (by omega)) rfl rfl (nle rfl)) (.r rfl (zAx rfl rfl rfl (by first | omega | (simp only [zAZ, zAU]; omega))) (.m rfl rfl (.m rfl rfl (.r rfl (zA8 rfl rfl rfl underlying24 sizeOf45 rfl (by omega) (zCK he)) (.r rfl (zBQ rfl rfl underlying45 rfl sizeOf9 (by decide)) (.r rfl (zBP rfl rfl isAgg9 rfl) (.run [6800] [] rfl (zAF rfl 6800 (X := []) en33 rfl (.val nod) (.cons (.one (.bor .v)) .nil) (by decide) all_nil .nil (zCG e.value (by omega)) rfl rfl (nle rfl)) (.r rfl (zAx rfl rfl rfl (by first | omega | (simp only [zAZ, zAU]; omega))) (.a rfl rfl .nil)))))))))))))))))) (by kernel_rfl) ?_
      refine zAQ (s' := mk [(0, .p none (.sl false 4 (pvE l))), (1, .vi (ev:Int)), (6, .vs (((((blkN l ev i).out) ++ (putV (zBN (blkN l ev i).ahead (keyT e)))) ++ (putX ((keyT e).extract (zBN ((blkN l ev i).ahead) (keyT e)) ((keyT e).size)))) ++ (putX e.value))), (7, .vs ((blkN l ev i).anew)), (8, .p none (.v (.int .u32 (((blkN l ev i).many : Nat) : Int)))), (10, .vi (i:Int)), (11, .vs (keyT e))] [] []) ?_ ?_
      · exact zAJ ⟨rfl, rfl, rfl, rfl, rfl, rfl, rfl, trivial⟩ trivial trivial rfl
      refine zAA rfl (.m rfl rfl (.a rfl rfl .nil)) ?_
      refine zAA rfl (.m rfl rfl (.r rfl (zAd rfl rfl rfl (by omega)) (.a rfl rfl .nil))) ?_
      refine nxt (Q := fun _ _ => False) (z := i) (i + 1) ?_ ?_ ?_
      ·
       show (i + 1) ≤ l.length
       omega
      ·
       show l.length - (i + 1) < l.length - i
       omega
      · exact zAJ ⟨rfl, rfl, (zA5 (by exact zK7 he h5)), (zA5 (by exact zJe he h5)), (zAG (by exact congrArg Nat.cast (zJc he h5))), (zA5 (by exact zFS he)), (zAG (by omega)), trivial⟩ trivial trivial rfl
    ·
     replace h4 := of_decide_eq_false h4
     refine zAn ?_
     refine zAB ?_
     rw [show i = l.length by omega]
     have hc := zG0 hl (ev := ev) l.length (Nat.le_refl _)
     have hc1 := hc.out
     have hc2 := hc.anew
     refine zAA rfl (.m rfl rfl (.m rfl rfl (.r rfl (zAx rfl rfl rfl (by first | omega | (simp only [zAZ, zAU]; omega))) (.m rfl rfl (.run [7500] [] rfl (zAF rfl 7500 (X := []) en39 rfl (.val nod) (.cons (.one (.bor .v)) .nil) (by decide) all_nil .nil (zBk ((blkN l ev l.length).many)) rfl rfl (nle rfl)) (.r rfl (zAx rfl rfl rfl (by first | omega | (simp only [zAZ, zAU]; omega))) (.m rfl rfl (.r rfl (zAc (k' := .u32) 4294967296 rfl ev rfl rfl rfl underlying2 underlying69) (.run [7900] [] rfl (zAF rfl 7900 (X := []) en39 rfl (.val nod) (.cons (.one (.bor .v)) .nil) (by decide) all_nil .nil (zBk (ev % 4294967296)) rfl rfl (nle rfl)) (.r rfl (zAx rfl rfl rfl (by first | omega | (simp only [zAZ, zAU]; omega))) (.a rfl rfl .nil))))))))))) ?_
     refine zAB ?_
     refine zAB ?_
     refine zAQ (s' := mk [(6, .vs (blkF l ev))] [] []) ?_ ?_
     · exact zAJ ⟨(zA5 rfl), trivial⟩ trivial trivial rfl
     refine zAA rfl (.m rfl rfl (.r rfl (zAO rfl rfl underlying9) (.r rfl (zBH rfl rfl rfl) .nil))) ?_
     refine zAT (t := decide (60000 < ((blkF l ev).size : Int))) rfl (fun h6 => ?_) (fun h6 => ?_)
     ·
      replace h6 := of_decide_eq_true h6
      refine zAB ?_
      rw [zHp (l := l) (ev := ev) (show 60000 < (blkF l ev).size by omega)]
      refine zAA rfl (.a rfl rfl (.a rfl rfl .nil)) ?_
      refine zAK ?_
      exact ends [_, _] [] (.cons (.tmp rfl) (.cons (.tmp rfl) .nil)) (.cons (.one .v (.v _)) (.cons (.one .v (.v _)) .nil)) (by decide) trivial
     ·
      replace h6 := of_decide_eq_false h6
      refine zAM ?_
      refine zAB ?_
      rw [zEh (l := l) hok h0 hev (show (blkF l ev).size ≤ 60000 by omega)]
      refine zAA rfl (.m rfl rfl (.a rfl rfl (.a rfl rfl .nil))) ?_
      refine zAK ?_
      exact ends [_, _] [] (.cons (.tmp rfl) (.cons (.tmp rfl) .nil)) (.cons (.one .v (.v _)) (.cons (.one .v (.v _)) .nil)) (by decide) trivial
  ·
   have h2' := h2
   replace h2' := of_decide_eq_true h2'
   refine zAA rfl (.m rfl rfl (.run [1400] [] rfl (zAF rfl 1400 (X := []) en29 rfl (.val nod) (.cons (.one (.bor (.sl nod))) .nil) (by decide) all_nil .nil (zBi l (by omega)) rfl rfl (nle rfl)) (.r rfl (zAI (zAa (b := zBJ l) rfl rfl) (zAE h1)) (.m rfl rfl (.m rfl rfl (.r rfl (zAu rfl rfl underlying24) (.r rfl (zAI (zA9 rfl rfl rfl) (zAE h2)) (.r rfl (zAb (t := false) rfl rfl) (.m rfl rfl (.not rfl (.not rfl (.not rfl (.r rfl (zAb (t := true) rfl rfl) .nil))))))))))))) ?_
   refine zAT (t := true) rfl (fun _ => ?_) (fun h => nomatch h)
   refine zAB ?_
   rw [zDu (l := l) (ev := ev) (.inr (.inl (by omega)))]
   refine zAQ (s' := mk [] [] []) ?_ ?_
   · exact zAJ trivial trivial trivial rfl
   refine zAA rfl (.a rfl rfl (.a rfl rfl .nil)) ?_
   refine zAK ?_
   exact ends [_, _] [] (.cons (.tmp rfl) (.cons (.tmp rfl) .nil)) (.cons (.one .v (.v _)) (.cons (.one .v (.v _)) .nil)) (by decide) trivial
 ·
  have h1' := h1
  replace h1' : (zBJ l) = false := zAp h1'
  refine zAA rfl (.m rfl rfl (.run [1400] [] rfl (zAF rfl 1400 (X := []) en29 rfl (.val nod) (.cons (.one (.bor (.sl nod))) .nil) (by decide) all_nil .nil (zBi l (by omega)) rfl rfl (nle rfl)) (.r rfl (zAI (zAa (b := zBJ l) rfl rfl) (zAE h1)) (.m rfl rfl (.not rfl (.not rfl (.not rfl (.r rfl (zAb (t := true) rfl rfl) (.m rfl rfl (.not rfl (.not rfl (.not rfl (.r rfl (zAb (t := true) rfl rfl) .nil))))))))))))) ?_
  refine zAT (t := true) rfl (fun _ => ?_) (fun h => nomatch h)
  refine zAB ?_
  rw [zDu (l := l) (ev := ev) (.inl h1')]
  refine zAQ (s' := mk [] [] []) ?_ ?_
  · exact zAJ trivial trivial trivial rfl
  refine zAA rfl (.a rfl rfl (.a rfl rfl .nil)) ?_
  refine zAK ?_
  exact ends [_, _] [] (.cons (.tmp rfl) (.cons (.tmp rfl) .nil)) (.cons (.one .v (.v _)) (.cons (.one .v (.v _)) .nil)) (by decide) trivial
theorem zIy (l : List Ent) (ev : Nat) (hok : zBJ l = true) (h0 : 0 < l.length) (hev : 1 ≤ ev ∧ ev ≤ 16) (hsz : (blkF l ev).size ≤ 60000) : Con Tryz.prog 31 [.one (PV.sl false 4 (pvE l)), .one (PV.v (.int .i64 (ev:Int)))] [] [.one (.v (.string (blkF l ev))), .one (.v (.bool true))] := by
 have hn := zBm hok
 have := zGR l ev (by omega) (by omega)
 rwa [zEh hok h0 hev hsz] at this
end Go.Rl
namespace Go.Rl
open Go.Proofs Go.Proofs.Tryz
set_option maxRecDepth 1000000
set_option maxHeartbeats 2000000
theorem zGG {l : List Ent} {i : Nat} {e : Ent} (h : l[i]? = some e) : (l.map (·.user))[i]? = some e.user := by simp [h]
theorem zLq {l : List Ent} {i : Nat} {e : Ent} (he : l[i]? = some e) (h : i = 0) : zAV (l.map (·.user)) (i + 1) = zAV (l.map (·.user)) i ++ [e.user] := by rw [zAV, zGG he]; simp [h]
theorem zNU {l : List Ent} {i : Nat} {x e : Ent} (hx : l[i - 1]? = some x) (he : l[i]? = some e) (h : ¬ x.user = e.user) : zAV (l.map (·.user)) (i + 1) = zAV (l.map (·.user)) i ++ [e.user] := by rw [zAV, zGG he]; simp only []; rw [if_neg (fun q => h (by have := q.2; rw [zGG hx] at this; exact Option.some.inj this))]
theorem zKW {l : List Ent} {i : Nat} {x e : Ent} (h0 : 0 < i) (hx : l[i - 1]? = some x) (he : l[i]? = some e) (h : x.user = e.user) : zAV (l.map (·.user)) (i + 1) = zAV (l.map (·.user)) i := zDB (by omega) (zGG hx) (zGG he) h.symm
theorem zI4 (l : List ByteArray) (x : ByteArray) : pvT l ++ [[PV.v (.string x)]] = pvT (l ++ [x]) := by simp [pvT]
theorem zDw (us : List ByteArray) (hu : ∀ u ∈ us, zBa u = true) (hn : us.length ≤ 400) : Con Tryz.prog 108 [.one (PV.sl false 1 (pvT us))] [] [.one (.v (.bool true))] := by
 refine zAR func108 rfl rfl rfl rfl ?_
 have hle := zBD us
 refine zAB (zAA rfl (.a rfl rfl .nil) ?_)
 refine zAB ?_
 refine zAB (zAA rfl (.m rfl rfl (.r rfl (zAu rfl rfl underlying61) (.r rfl (zBH rfl rfl rfl) .nil))) ?_)
 refine zAT (t := decide (400 < ((pvT us).length : Int))) rfl (fun h1 => ?_) (fun h1 => ?_)
 ·
  replace h1 := of_decide_eq_true h1
  omega
 ·
  replace h1 := of_decide_eq_false h1
  refine zAM ?_
  refine zAB ?_
  refine zAB (zAA rfl (.m rfl rfl (.r rfl (zAu rfl rfl underlying61) (.m rfl rfl .nil))) ?_)
  refine zAS ?_
  refine zAo (σ := Nat) (fun i => mk [(8, .p none (.sl false 1 (pvT us))), (9, .vi ((pvT us).length : Int)), (10, .vi (i:Int))] [] []) (fun i => i ≤ us.length) (fun i => us.length - i) 0 (by simp) (zAJ ⟨rfl, rfl, (zAG (by omega)), trivial⟩ trivial trivial rfl) ?_
  rintro i hG
  replace hG : i ≤ us.length := hG
  refine zAB (zAA rfl (.r rfl (zAz rfl rfl rfl) .nil) ?_)
  refine zAB ?_
  refine zAT (t := decide ((i:Int) < ((pvT us).length : Int))) rfl (fun h2 => ?_) (fun h2 => ?_)
  ·
   replace h2 := of_decide_eq_true h2
   refine zAM ?_
   refine zAB ?_
   refine zAS ?_
   refine zAB ?_
   obtain ⟨e, he⟩ : ∃ e, us[i]? = some e := ⟨_, List.getElem?_eq_getElem (by (have hL := zBD us; omega))⟩
   have hlte := (List.getElem?_eq_some_iff.1 he).1
   refine zAA rfl (.r rfl (zA8 rfl rfl rfl underlying61 sizeOf9 rfl (by omega) (zCl he)) (.r rfl (zBP rfl rfl isAgg9 rfl) (.a rfl rfl .nil))) ?_
   refine zAB (zAA rfl (.m rfl rfl (.run [1500] [] rfl (zAF rfl 1500 (X := []) zM4 rfl (.val nod) (.cons (.one (.bor .v)) .nil) (by decide) all_nil .nil (zDp e) rfl rfl (nle rfl)) (.r rfl (zAa (b := zBa e) rfl rfl) .nil))) ?_)
   refine zAT (t := (!(zBa e))) rfl (fun h3 => ?_) (fun h3 => ?_)
   ·
    replace h3 : (zBa e) = false := zAp h3
    rw [hu _ (List.mem_of_getElem? he)] at h3; cases h3
   ·
    replace h3 : (zBa e) = true := zAq h3
    refine zAM ?_
    refine zAA rfl (.r rfl (zAd rfl rfl rfl (by omega)) (.m rfl rfl .nil)) ?_
    refine nxt (Q := fun _ _ => False) (z := i) (i + 1) ?_ ?_ ?_
    ·
     show (i + 1) ≤ us.length
     omega
    ·
     show us.length - (i + 1) < us.length - i
     omega
    · exact zAJ ⟨rfl, rfl, (zAG (by omega)), trivial⟩ trivial trivial rfl
  ·
   replace h2 := of_decide_eq_false h2
   refine zAn ?_
   refine zAB (zAA rfl (.a rfl rfl .nil) ?_)
   refine zAK ?_
   exact ends [_] [] (.cons (.tmp rfl) .nil) (.cons (.one .v (.v _)) .nil) (by decide) trivial
theorem zDd (us : List ByteArray) (hu : ∀ u ∈ us, zBa u = true) (hn : us.length ≤ 400) : Con Tryz.prog 75 [.one (PV.sl false 1 (pvT us))] [] [.one (.v (.bool true))] := by
 refine zAR func75 rfl rfl rfl rfl ?_
 have hle := zBD us
 refine zAB (zAA rfl (.a rfl rfl .nil) ?_)
 refine zAB ?_
 refine zAB (zAA rfl (.m rfl rfl (.r rfl (zAu rfl rfl underlying61) (.r rfl (zBH rfl rfl rfl) .nil))) ?_)
 refine zAT (t := decide (400 < ((pvT us).length : Int))) rfl (fun h1 => ?_) (fun h1 => ?_)
 ·
  replace h1 := of_decide_eq_true h1
  omega
 ·
  replace h1 := of_decide_eq_false h1
  refine zAM ?_
  refine zAB ?_
  refine zAB (zAA rfl (.a rfl rfl .nil) ?_)
  refine zAS ?_
  refine zAo (σ := Nat) (fun i => mk [(0, .p none (.sl false 1 (pvT us))), (3, .vi (i:Int))] [] []) (fun i => i ≤ us.length) (fun i => us.length - i) 0 (by simp) (zAJ ⟨rfl, (zAG (by omega)), trivial⟩ trivial trivial rfl) ?_
  rintro i hG
  replace hG : i ≤ us.length := hG
  refine zAB ?_
  refine zAB (zAA rfl (.m rfl rfl (.m rfl rfl (.r rfl (zAu rfl rfl underlying61) (.r rfl (zAz rfl rfl rfl) .nil)))) ?_)
  refine zAT (t := decide ((i:Int) < ((pvT us).length : Int))) rfl (fun h2 => ?_) (fun h2 => ?_)
  ·
   replace h2 := of_decide_eq_true h2
   refine zAM ?_
   refine zAB ?_
   refine zAS ?_
   refine zAB ?_
   obtain ⟨e, he⟩ : ∃ e, us[i]? = some e := ⟨_, List.getElem?_eq_getElem (by (have hL := zBD us; omega))⟩
   have hlte := (List.getElem?_eq_some_iff.1 he).1
   refine zAA rfl (.m rfl rfl (.m rfl rfl (.r rfl (zA8 rfl rfl rfl underlying61 sizeOf9 rfl (by omega) (zCl he)) (.r rfl (zBP rfl rfl isAgg9 rfl) (.run [1700] [] rfl (zAF rfl 1700 (X := []) zM5 rfl (.val nod) (.cons (.one (.bor .v)) .nil) (by decide) all_nil .nil (zDo e) rfl rfl (nle rfl)) (.r rfl (zAa (b := zBa e) rfl rfl) .nil)))))) ?_
   refine zAT (t := (!(zBa e))) rfl (fun h3 => ?_) (fun h3 => ?_)
   ·
    replace h3 : (zBa e) = false := zAp h3
    rw [hu _ (List.mem_of_getElem? he)] at h3; cases h3
   ·
    replace h3 : (zBa e) = true := zAq h3
    refine zAM ?_
    refine zAA rfl (.m rfl rfl (.r rfl (zAd rfl rfl rfl (by omega)) (.a rfl rfl .nil))) ?_
    refine nxt (Q := fun _ _ => False) (z := i) (i + 1) ?_ ?_ ?_
    ·
     show (i + 1) ≤ us.length
     omega
    ·
     show us.length - (i + 1) < us.length - i
     omega
    · exact zAJ ⟨rfl, (zAG (by omega)), trivial⟩ trivial trivial rfl
  ·
   replace h2 := of_decide_eq_false h2
   refine zAn ?_
   refine zAB (zAA rfl (.a rfl rfl .nil) ?_)
   refine zAK ?_
   exact ends [_] [] (.cons (.tmp rfl) .nil) (.cons (.one .v (.v _)) .nil) (by decide) trivial
theorem zH2 (l : List Ent) (hok : zBJ l = true) : Con Tryz.prog 36 [.one (PV.sl false 4 (pvE l))] [] [.one (.sl true 1 (pvT (zAm l)))] := by
 refine zAR func36 rfl rfl rfl rfl ?_
 have hle := zA2 l
 have hn := zBm hok
 refine zAB (zAA rfl (.a rfl rfl .nil) ?_)
 refine zAB (zAA rfl (.run [500] [] rfl (zAy rfl 500 underlying61 inf9 (nle rfl) (by decide) rfl rfl rfl .nil (by decide) rfl (by decide) rfl (by decide) rfl) (.a rfl rfl .nil)) ?_)
 refine zAB ?_
 refine zAB (zAA rfl (.m rfl rfl (.run [700] [] rfl (zAF rfl 700 (X := []) en29 rfl (.val nod) (.cons (.one (.bor (.sl nod))) .nil) (by decide) all_nil .nil (zBi l (by omega)) rfl rfl (nle rfl)) (.r rfl (zAa (b := zBJ l) rfl rfl) .nil))) ?_)
 refine zAT (t := (!(zBJ l))) rfl (fun h1 => ?_) (fun h1 => ?_)
 ·
  replace h1 : (zBJ l) = false := zAp h1
  rw [hok] at h1; cases h1
 ·
  replace h1 : (zBJ l) = true := zAq h1
  refine zAM ?_
  refine zAB ?_
  refine zAB (zAA rfl (.a rfl rfl .nil) ?_)
  refine zAS ?_
  refine zAQ (zCc 500 1 rfl rfl (by decide)) ?_
  refine zAo (σ := Nat) (fun i => mk [(0, .p none (.sl false 4 (pvE l))), (3, .sl 1 0 ((pvT (zAV (l.map (·.user)) i)).length)), (4, .vi (i:Int))] [] [(1, 1, pvT (zAV (l.map (·.user)) i))]) (fun i => i ≤ l.length) (fun i => l.length - i) 0 (by simp) (zAJ ⟨rfl, rfl, (zAG (by omega)), trivial⟩ trivial ⟨(congrArg (fun x => some (1, x)) (by rfl)), trivial⟩ rfl) ?_
  rintro i hG
  replace hG : i ≤ l.length := hG
  have hcn := zEO (l.map (·.user)) i
  have hcv := zBD (zAV (l.map (·.user)) i)
  refine zAB ?_
  refine zAB (zAA rfl (.m rfl rfl (.m rfl rfl (.r rfl (zAu rfl rfl underlying24) (.r rfl (zAz rfl rfl rfl) .nil)))) ?_)
  refine zAT (t := decide ((i:Int) < ((pvE l).length : Int))) rfl (fun h2 => ?_) (fun h2 => ?_)
  ·
   replace h2 := of_decide_eq_true h2
   refine zAM ?_
   refine zAB ?_
   refine zAS ?_
   refine zAB ?_
   rcases Nat.eq_zero_or_pos i with hz | hz
   ·
    obtain ⟨e, he⟩ : ∃ e, l[i]? = some e := ⟨_, List.getElem?_eq_getElem (by omega)⟩
    refine zAQ (s' := mk [(0, .p none (.sl false 4 (pvE l))), (3, .sl 1 0 ((pvT (zAV (l.map (·.user)) i)).length)), (4, .vi (i:Int))] [] [(1, 1, pvT (zAV (l.map (·.user)) i))]) ?_ ?_
    · exact zAJ ⟨rfl, rfl, rfl, trivial⟩ trivial ⟨rfl, trivial⟩ rfl
    rcases bfc (decide ((i:Int) = 0)) with h3 | h3
    ·
     have h3' := h3
     replace h3' := of_decide_eq_false h3'
     omega
    ·
     have h3' := h3
     replace h3' := of_decide_eq_true h3'
     refine zAf zBo rfl (.m rfl rfl (.r rfl (zAI (zA9 rfl rfl rfl) (zAE h3)) (.m rfl rfl (.not rfl (.not rfl (.not rfl (.not rfl (.not rfl (.not rfl (.not rfl (.not rfl (.not rfl (.not rfl (.not rfl (.not rfl (.not rfl (.not rfl (.r rfl (zAb (t := true) rfl rfl) .nil)))))))))))))))))) (by kernel_rfl) ?_
     refine zAT (t := true) rfl (fun _ => ?_) (fun h => nomatch h)
     refine zAQ (s' := mk [(0, .p none (.sl false 4 (pvE l))), (3, .sl 1 0 ((pvT (zAV (l.map (·.user)) i)).length)), (4, .vi (i:Int))] [] [(1, 1, pvT (zAV (l.map (·.user)) i))]) ?_ ?_
     · exact zAJ ⟨rfl, rfl, rfl, trivial⟩ trivial ⟨rfl, trivial⟩ rfl
     refine zAA rfl (.m rfl rfl (.m rfl rfl (.m rfl rfl (.r rfl (zA8 rfl rfl rfl underlying24 sizeOf45 rfl (by omega) (zCK he)) (.r rfl (zBQ rfl rfl underlying45 rfl sizeOf43 (by decide)) (.r rfl (zBQ rfl rfl underlying43 rfl sizeOf9 (by decide)) (.r rfl (zBP rfl rfl isAgg9 rfl) (.run [4100] [] rfl (zAy rfl 4100 underlying61 inf9 (nle rfl) (by decide) rfl rfl rfl (.cons .v .nil) (by decide) rfl (by decide) rfl (by decide) rfl) (.run [1] [] rfl (zB2 rfl 1 (ib := 1) (len := ((pvT (zAV (l.map (·.user)) i)) ++ [[PV.v (.string e.user)]]).length) rfl rfl (.row (len := (pvT (zAV (l.map (·.user)) i)).length) (xs := pvT (zAV (l.map (·.user)) i)) rfl rfl (.inl rfl)) (.give (len := 1) (xs := [[PV.v (.string e.user)]]) rfl rfl) underlying61 (sk underlying61 rfl) inf9 rfl (by decide) (by decide) (by decide) List.length_append (by simp only [maxLen, List.length_append, List.length_map, List.length_cons, List.length_nil, zBD]; omega) (by simp only [maxLen, List.length_append, List.length_map, List.length_cons, List.length_nil, zBD]; omega)) (.a rfl rfl .nil)))))))))) ?_
     have hr4 : (pvT (zAV (l.map (·.user)) i)) ++ [[PV.v (.string e.user)]] = pvT (zAV (l.map (·.user)) (i + 1)) := by rw [zLq he hz]; exact zI4 _ _
     have hp5 : (.sl 1 0 (((pvT (zAV (l.map (·.user)) i)) ++ [[PV.v (.string e.user)]]).length) : AV) = .sl 1 0 ((pvT (zAV (l.map (·.user)) (i + 1))).length) := by simp only [hr4]
     refine zAQ (s' := mk [(0, .p none (.sl false 4 (pvE l))), (3, .sl 1 0 ((pvT (zAV (l.map (·.user)) (i + 1))).length)), (4, .vi (i:Int))] [] [(1, 1, pvT (zAV (l.map (·.user)) (i + 1)))]) ?_ ?_
     · exact zAJ ⟨rfl, hp5, rfl, trivial⟩ trivial ⟨(congrArg (fun x => some (1, x)) hr4), trivial⟩ rfl
     refine zAA rfl (.m rfl rfl (.r rfl (zAd rfl rfl rfl (by omega)) (.a rfl rfl .nil))) ?_
     refine nxt (Q := fun _ _ => False) (z := i) (i + 1) ?_ ?_ ?_
     ·
      show (i + 1) ≤ l.length
      omega
     ·
      show l.length - (i + 1) < l.length - i
      omega
     · exact zAJ ⟨rfl, rfl, (zAG (by omega)), trivial⟩ trivial ⟨rfl, trivial⟩ rfl
   ·
    obtain ⟨e, he⟩ : ∃ e, l[i]? = some e := ⟨_, List.getElem?_eq_getElem (by omega)⟩
    obtain ⟨x, hx⟩ : ∃ x, l[i - 1]? = some x := ⟨_, List.getElem?_eq_getElem (by omega)⟩
    refine zAQ (s' := mk [(0, .p none (.sl false 4 (pvE l))), (3, .sl 1 0 ((pvT (zAV (l.map (·.user)) i)).length)), (4, .vi (i:Int))] [] [(1, 1, pvT (zAV (l.map (·.user)) i))]) ?_ ?_
    · exact zAJ ⟨rfl, rfl, rfl, trivial⟩ trivial ⟨rfl, trivial⟩ rfl
    rcases bfc (decide ((i:Int) = 0)) with h6 | h6
    ·
     have h6' := h6
     replace h6' := of_decide_eq_false h6'
     refine zAf zBo rfl (.m rfl rfl (.r rfl (zAI (zA9 rfl rfl rfl) (zAE h6)) (.m rfl rfl (.m rfl rfl (.m rfl rfl (.r rfl (zAI (zBt rfl rfl rfl (by omega)) (((show (AV.p none (.v (.int .i64 ((i:Int) - 1)))) = AV.p none (.v (.int .i64 ((i - 1 : Nat) : Int))) from zAG (by omega))))) (.r rfl (zA8 rfl rfl rfl underlying24 sizeOf45 rfl (by omega) (zCK hx)) (.r rfl (zBQ rfl rfl underlying45 rfl sizeOf43 (by decide)) (.r rfl (zBQ rfl rfl underlying43 rfl sizeOf9 (by decide)) (.r rfl (zBP rfl rfl isAgg9 rfl) (.m rfl rfl (.m rfl rfl (.r rfl (zA8 rfl rfl rfl underlying24 sizeOf45 rfl (by omega) (zCK he)) (.r rfl (zBQ rfl rfl underlying45 rfl sizeOf43 (by decide)) (.r rfl (zBQ rfl rfl underlying43 rfl sizeOf9 (by decide)) (.r rfl (zBP rfl rfl isAgg9 rfl) (.r rfl (zCv rfl rfl rfl) (.r rfl (zAb (t := false) rfl rfl) .nil)))))))))))))))))) (by kernel_rfl) ?_
     refine zAT (t := (!(decide (x.user = e.user)))) rfl (fun h7 => ?_) (fun h7 => ?_)
     ·
      replace h7 : ¬ (x.user = e.user) := of_decide_eq_false (zAp h7)
      refine zAQ (s' := mk [(0, .p none (.sl false 4 (pvE l))), (3, .sl 1 0 ((pvT (zAV (l.map (·.user)) i)).length)), (4, .vi (i:Int)), (19, .p none (.sl false 4 (pvE l))), (20, .vi (i:Int)), (21, .vi ((i - 1 : Nat):Int)), (22, .fea none [PV.v (.string x.user), PV.v (.int .i64 x.seq), PV.v (.int .i64 x.kind), PV.v (.string x.value)]), (23, .fea none [PV.v (.string x.user), PV.v (.int .i64 x.seq), PV.v (.int .i64 x.kind), PV.v (.string x.value)]), (24, .fea none [PV.v (.string x.user), PV.v (.int .i64 x.seq), PV.v (.int .i64 x.kind), PV.v (.string x.value)]), (25, .vs x.user), (26, .p none (.sl false 4 (pvE l))), (27, .vi (i:Int)), (28, .fea none [PV.v (.string e.user), PV.v (.int .i64 e.seq), PV.v (.int .i64 e.kind), PV.v (.string e.value)]), (29, .fea none [PV.v (.string e.user), PV.v (.int .i64 e.seq), PV.v (.int .i64 e.kind), PV.v (.string e.value)]), (30, .fea none [PV.v (.string e.user), PV.v (.int .i64 e.seq), PV.v (.int .i64 e.kind), PV.v (.string e.value)]), (31, .vs e.user), (32, .vb (!(decide (x.user = e.user))))] [] [(1, 1, pvT (zAV (l.map (·.user)) i))]) ?_ ?_
      · exact zAJ ⟨rfl, rfl, rfl, rfl, rfl, rfl, rfl, rfl, rfl, rfl, rfl, rfl, rfl, rfl, rfl, rfl, rfl, trivial⟩ trivial ⟨rfl, trivial⟩ rfl
      refine zAA rfl (.m rfl rfl (.m rfl rfl (.m rfl rfl (.r rfl (zA8 rfl rfl rfl underlying24 sizeOf45 rfl (by omega) (zCK he)) (.r rfl (zBQ rfl rfl underlying45 rfl sizeOf43 (by decide)) (.r rfl (zBQ rfl rfl underlying43 rfl sizeOf9 (by decide)) (.r rfl (zBP rfl rfl isAgg9 rfl) (.run [4100] [] rfl (zAy rfl 4100 underlying61 inf9 (nle rfl) (by decide) rfl rfl rfl (.cons .v .nil) (by decide) rfl (by decide) rfl (by decide) rfl) (.run [1] [] rfl (zB2 rfl 1 (ib := 1) (len := ((pvT (zAV (l.map (·.user)) i)) ++ [[PV.v (.string e.user)]]).length) rfl rfl (.row (len := (pvT (zAV (l.map (·.user)) i)).length) (xs := pvT (zAV (l.map (·.user)) i)) rfl rfl (.inl rfl)) (.give (len := 1) (xs := [[PV.v (.string e.user)]]) rfl rfl) underlying61 (sk underlying61 rfl) inf9 rfl (by decide) (by decide) (by decide) List.length_append (by simp only [maxLen, List.length_append, List.length_map, List.length_cons, List.length_nil, zBD]; omega) (by simp only [maxLen, List.length_append, List.length_map, List.length_cons, List.length_nil, zBD]; omega)) (.a rfl rfl .nil)))))))))) ?_
      have hr8 : (pvT (zAV (l.map (·.user)) i)) ++ [[PV.v (.string e.user)]] = pvT (zAV (l.map (·.user)) (i + 1)) := by rw [zNU hx he h7]; exact zI4 _ _
      have hp9 : (.sl 1 0 (((pvT (zAV (l.map (·.user)) i)) ++ [[PV.v (.string e.user)]]).length) : AV) = .sl 1 0 ((pvT (zAV (l.map (·.user)) (i + 1))).length) := by simp only [hr8]
      refine zAQ (s' := mk [(0, .p none (.sl false 4 (pvE l))), (3, .sl 1 0 ((pvT (zAV (l.map (·.user)) (i + 1))).length)), (4, .vi (i:Int)), (19, .p none (.sl false 4 (pvE l))), (20, .vi (i:Int)), (21, .vi ((i - 1 : Nat):Int)), (22, .fea none [PV.v (.string x.user), PV.v (.int .i64 x.seq), PV.v (.int .i64 x.kind), PV.v (.string x.value)]), (23, .fea none [PV.v (.string x.user), PV.v (.int .i64 x.seq), PV.v (.int .i64 x.kind), PV.v (.string x.value)]), (24, .fea none [PV.v (.string x.user), PV.v (.int .i64 x.seq), PV.v (.int .i64 x.kind), PV.v (.string x.value)]), (25, .vs x.user), (26, .p none (.sl false 4 (pvE l))), (27, .vi (i:Int)), (28, .fea none [PV.v (.string e.user), PV.v (.int .i64 e.seq), PV.v (.int .i64 e.kind), PV.v (.string e.value)]), (29, .fea none [PV.v (.string e.user), PV.v (.int .i64 e.seq), PV.v (.int .i64 e.kind), PV.v (.string e.value)]), (30, .fea none [PV.v (.string e.user), PV.v (.int .i64 e.seq), PV.v (.int .i64 e.kind), PV.v (.string e.value)]), (31, .vs e.user), (32, .vb (!(decide (x.user = e.user))))] [] [(1, 1, pvT (zAV (l.map (·.user)) (i + 1)))]) ?_ ?_
      · exact zAJ ⟨rfl, hp9, rfl, rfl, rfl, rfl, rfl, rfl, rfl, rfl, rfl, rfl, rfl, rfl, rfl, rfl, rfl, trivial⟩ trivial ⟨(congrArg (fun x => some (1, x)) hr8), trivial⟩ rfl
      refine zAA rfl (.m rfl rfl (.r rfl (zAd rfl rfl rfl (by omega)) (.a rfl rfl .nil))) ?_
      refine nxt (Q := fun _ _ => False) (z := i) (i + 1) ?_ ?_ ?_
      ·
       show (i + 1) ≤ l.length
       omega
      ·
       show l.length - (i + 1) < l.length - i
       omega
      · exact zAJ ⟨rfl, rfl, (zAG (by omega)), trivial⟩ trivial ⟨rfl, trivial⟩ rfl
     ·
      replace h7 : x.user = e.user := of_decide_eq_true (zAq h7)
      refine zAM ?_
      refine zAQ (s' := mk [(0, .p none (.sl false 4 (pvE l))), (3, .sl 1 0 ((pvT (zAV (l.map (·.user)) i)).length)), (4, .vi (i:Int)), (19, .p none (.sl false 4 (pvE l))), (20, .vi (i:Int)), (21, .vi ((i - 1 : Nat):Int)), (22, .fea none [PV.v (.string x.user), PV.v (.int .i64 x.seq), PV.v (.int .i64 x.kind), PV.v (.string x.value)]), (23, .fea none [PV.v (.string x.user), PV.v (.int .i64 x.seq), PV.v (.int .i64 x.kind), PV.v (.string x.value)]), (24, .fea none [PV.v (.string x.user), PV.v (.int .i64 x.seq), PV.v (.int .i64 x.kind), PV.v (.string x.value)]), (25, .vs x.user), (26, .p none (.sl false 4 (pvE l))), (27, .vi (i:Int)), (28, .fea none [PV.v (.string e.user), PV.v (.int .i64 e.seq), PV.v (.int .i64 e.kind), PV.v (.string e.value)]), (29, .fea none [PV.v (.string e.user), PV.v (.int .i64 e.seq), PV.v (.int .i64 e.kind), PV.v (.string e.value)]), (30, .fea none [PV.v (.string e.user), PV.v (.int .i64 e.seq), PV.v (.int .i64 e.kind), PV.v (.string e.value)]), (31, .vs e.user), (32, .vb (!(decide (x.user = e.user))))] [] [(1, 1, pvT (zAV (l.map (·.user)) i))]) ?_ ?_
      · exact zAJ ⟨rfl, rfl, rfl, rfl, rfl, rfl, rfl, rfl, rfl, rfl, rfl, rfl, rfl, rfl, rfl, rfl, rfl, trivial⟩ trivial ⟨rfl, trivial⟩ rfl
      refine zAA rfl (.m rfl rfl (.r rfl (zAd rfl rfl rfl (by omega)) (.a rfl rfl .nil))) ?_
      refine nxt (Q := fun _ _ => False) (z := i) (i + 1) ?_ ?_ ?_
      ·
       show (i + 1) ≤ l.length
       omega
      ·
       show l.length - (i + 1) < l.length - i
       omega
      · exact zAJ ⟨rfl, (congrArg (fun z => AV.sl 1 0 (pvT z).length) (zKW hz hx he h7).symm), (zAG (by omega)), trivial⟩ trivial ⟨(congrArg (fun x => some (1, x)) (by rw [zKW hz hx he h7])), trivial⟩ rfl
    ·
     have h6' := h6
     replace h6' := of_decide_eq_true h6'
     omega
  ·
   replace h2 := of_decide_eq_false h2
   refine zAn ?_
   refine zAB (zAA rfl (.m rfl rfl (.a rfl rfl .nil)) ?_)
   have hr10 : pvT (zAV (l.map (·.user)) i) = pvT (zAm l) := by rw [show i = (l.map (·.user)).length by rw [List.length_map]; omega]; rfl
   have hp11 : (.sl 1 0 ((pvT (zAV (l.map (·.user)) i)).length) : AV) = .sl 1 0 ((pvT (zAm l)).length) := by simp only [hr10]
   refine zAQ (s' := mk [(2, .sl 1 0 ((pvT (zAm l)).length))] [] [(1, 1, pvT (zAm l))]) ?_ ?_
   · exact zAJ ⟨hp11, trivial⟩ trivial ⟨(congrArg (fun x => some (1, x)) hr10), trivial⟩ rfl
   refine zAK ?_
   exact ends [_] [1] (.cons (.tmp rfl) .nil) (.cons (.one (.row (len := (pvT (zAm l)).length) (xs := pvT (zAm l)) rfl rfl) (.sl _ _ (FlatP.clean (zD5 _)))) .nil) (by decide) trivial
end Go.Rl
namespace Go.Rl
def pvNb (l : List Nat) : List (List PV) := l.map fun n => [.v (.int .u8 ((n : Nat) : Int))]
theorem zBK (l : List Nat) : (pvNb l).length = l.length := by simp [pvNb]
theorem zCT {l : List Nat} {i : Nat} {e : Nat} (h : l[i]? = some e) : (pvNb l)[i]? = some [.v (.int .u8 ((e : Nat) : Int))] := by simp [pvNb, h]
theorem zDV (l : List Nat) : FlatP (pvNb l) := fun es he p hp => by
 obtain ⟨e, _, rfl⟩ := List.mem_map.1 he
 simp only [List.mem_singleton] at hp
 subst hp
 rfl
def ints (l : List Nat) : List Int := l.map fun n => ((n : Nat) : Int)
theorem zC0 (l : List Nat) : pvNb l = pvB (ints l) := by simp [pvNb, pvB, ints]
def pvQ (l : List Nat) : List (List PV) := l.map fun n => [.v (.int .u64 ((n : Nat) : Int))]
theorem zBj (l : List Nat) : (pvQ l).length = l.length := by simp [pvQ]
theorem zD6 {l : List Nat} {i : Nat} {e : Nat} (h : l[i]? = some e) : (pvQ l)[i]? = some [.v (.int .u64 ((e : Nat) : Int))] := by simp [pvQ, h]
theorem zIF (l : List Nat) : FlatP (pvQ l) := fun es he p hp => by
 obtain ⟨e, _, rfl⟩ := List.mem_map.1 he
 simp only [List.mem_singleton] at hp
 subst hp
 rfl
theorem zNs (l : List Nat) (x : Nat) : pvQ l ++ [[PV.v (.int .u64 ((x : Nat) : Int))]] = pvQ (l ++ [x]) := by simp [pvQ]
theorem zJZ (h : Nat) : (((h / 2 ^ 33 ||| (h * 2 ^ 31) % 18446744073709551616) % 18446744073709551616 : Nat) : Int) = ((zDt h : Nat) : Int) := by rw [zDt]
def plB (u : ByteArray) (i m : Nat) : Nat := ((zAj 0 u + (i * zDt (zAj 0 u)) % 18446744073709551616) % 18446744073709551616) % m
theorem zOs (u : ByteArray) (i m : Nat) : ((((zAj 0 u + (i * zDt (zAj 0 u)) % 18446744073709551616) % 18446744073709551616) % m : Nat) : Int) = ((plB u i m : Nat) : Int) := by rw [plB]
theorem zKm {u : ByteArray} {i m : Nat} (h : 0 < m) : plB u i m < m := Nat.mod_lt _ h
def setB (bits : List Nat) (p : Nat) : List Nat := match bits[p / 8]? with
 | some b => bits.set (p / 8) ((b ||| ((1 * 2 ^ (p % 8)) % 256)) % 256)
 | none => bits
theorem zNc (bits : List Nat) (p : Nat) : (setB bits p).length = bits.length := by
 unfold setB
 split <;> simp
theorem zKb {bits : List Nat} {p b : Nat} (h : bits[p / 8]? = some b) : (pvNb bits).set (p / 8) [PV.v (.int .u8 (((b ||| ((1 * 2 ^ (p % 8)) % 256)) % 256 : Nat) : Int))] = pvNb (setB bits p) := by
 simp [pvNb, setB, h, List.map_set]
def usrB (bits : List Nat) (u : ByteArray) (m : Nat) : Nat → List Nat
 | 0 => bits
 | k + 1 => setB (usrB bits u m k) (plB u k m)
theorem zF3 (bits : List Nat) (u : ByteArray) (m : Nat) : ∀ k, (usrB bits u m k).length = bits.length
 | 0 => rfl
 | k + 1 => by rw [usrB, zNc, zF3 bits u m k]
def zAk (us : List ByteArray) : Nat := (max 64 (10 * us.length) + 7) / 8
def bitB (us : List ByteArray) : Nat → List Nat
 | 0 => List.replicate (zAk us) 0
 | i + 1 => match us[i]? with
  | some u => usrB (bitB us i) u (8 * zAk us) 6
  | none => bitB us i
theorem zEP {us : List ByteArray} {i : Nat} {u : ByteArray} (h : us[i]? = some u) : bitB us (i + 1) = usrB (bitB us i) u (8 * zAk us) 6 := by simp [bitB, h]
theorem zDM (us : List ByteArray) : ∀ i, (bitB us i).length = zAk us
 | 0 => by simp [bitB]
 | i + 1 => by
  cases h : us[i]? with
  | none => simp [bitB, h, zDM us i]
  | some u => rw [zEP h, zF3, zDM us i]
theorem zGD {us : List ByteArray} (h : us.length ≤ 400) : 8 ≤ zAk us ∧ zAk us ≤ 501 := by unfold zAk; omega
structure Flt where
 kind : Int
 seed : Int
 probes : Int
 bits : ByteArray
 deriving DecidableEq
def zCf (us : List ByteArray) : Flt := ⟨1, 0, 6, zB0 (ints (bitB us us.length))⟩
def zBG (u : ByteArray) (m : Nat) : Nat → List Nat
 | 0 => []
 | k + 1 => zBG u m k ++ [plB u k m]
theorem zCX (u : ByteArray) (m : Nat) : ∀ k, (zBG u m k).length = k
 | 0 => rfl
 | k + 1 => by simp [zBG, zCX u m k]
theorem zI7 (u : ByteArray) (m k : Nat) : zBG u m (k + 1) = zBG u m k ++ [plB u k m] := rfl
theorem snoc_at {α : Type} {l : List α} {a : α} {k : Nat} (h : l.length = k) : (l ++ [a])[k]? = some a := by subst h; simp
theorem zGj {u : ByteArray} {m : Nat} {i : Nat} : ∀ {k : Nat}, i < k → (zBG u m k)[i]? = some (plB u i m) := by
 intro k
 induction k with
 | zero => intro h; exact absurd h (Nat.not_lt_zero _)
 | succ k ih =>
  intro h
  rw [zI7]
  by_cases e : i < k
  · rw [List.getElem?_append_left (by rw [zCX]; exact e)]; exact ih e
  ·
   have : i = k := by omega
   subst this
   exact snoc_at (zCX u m i)
end Go.Rl
namespace Go.Rl
open Go.Proofs Go.Proofs.Tryz
set_option maxRecDepth 1000000
set_option maxHeartbeats 2000000
theorem zMp : (Tryz.prog.info? 58).map (fun i => (i.zero, i.size, i.bytes)) = some (some (.int .u64 0), 1, 8) := by kernel_rfl
theorem en117 : En Tryz.prog 117 := zAl func117 (by decide) rfl
theorem en133 : En Tryz.prog 133 := zAl func133 (by decide) rfl
theorem zJW {us : List ByteArray} (h : us.length ≤ 400) {n : Int} (hn : n = 10 * (us.length : Int)) : IntKind.i64.wrap ((max 64 n + 7).tdiv 8) = ((zAk us : Nat) : Int) := by
 rw [Int.tdiv_eq_ediv_of_nonneg (by omega), zEE (by omega), zAk]
 omega
theorem zHO (u : ByteArray) (i m : Nat) (hi : i < 9223372036854775808) (hm : 0 < m) (hu : u.size ≤ 9000000000000000000) : Con Tryz.prog 115 [.one (PV.v (.string u)), .one (PV.v (.int .i64 (i:Int))), .one (PV.v (.int .u64 (m:Int)))] [] [.one (.v (.int .u64 ((plB u i m : Nat) : Int)))] := by
 refine zAR func115 rfl rfl rfl rfl ?_
 refine zAB (zAA rfl (.a rfl rfl .nil) ?_)
 refine zAB (zAA rfl (.m rfl rfl (.run [900] [] rfl (zAF rfl 900 (X := []) en117 rfl (.val nod) (.cons (.one (.bor .v)) (.cons (.one (.bor .v)) .nil)) (by decide) all_nil .nil (zGP 0 u (by omega)) rfl rfl (nle rfl)) (.a rfl rfl .nil))) ?_)
 refine zAB ?_
 refine zAQ (s' := mk [(1, .vi (i:Int)), (2, .p none (.v (.int .u64 (m:Int)))), (7, .p none (.v (.int .u64 ((zAj 0 u : Nat) : Int))))] [] []) ?_ ?_
 · exact zAJ ⟨rfl, rfl, rfl, trivial⟩ trivial trivial rfl
 refine zAA rfl (.m rfl rfl (.m rfl rfl (.r rfl (zAI (zAc (k' := .u64) 18446744073709551616 rfl i rfl rfl rfl underlying2 underlying58) ((zAG (show ((i % 18446744073709551616 : Nat) : Int) = ((i : Nat) : Int) by omega)))) (.m rfl rfl (.r rfl (zBZ (zAj 0 u) 33 rfl rfl rfl (by decide)) (.m rfl rfl (.r rfl (zCk (k := .u64) 18446744073709551616 rfl (zAj 0 u) 31 rfl rfl rfl rfl (by decide)) (.r rfl (zAI (zC2 (k := .u64) 18446744073709551616 rfl ((zAj 0 u) / 2 ^ 33) (((zAj 0 u) * 2 ^ 31) % 18446744073709551616) rfl rfl rfl rfl) ((zAG (zJZ (zAj 0 u))))) (.r rfl (zDQ (k := .u64) 18446744073709551616 rfl i (zDt (zAj 0 u)) rfl rfl rfl rfl) (.r rfl (zFb (k := .u64) 18446744073709551616 rfl (zAj 0 u) ((i * (zDt (zAj 0 u))) % 18446744073709551616) rfl rfl rfl rfl) (.m rfl rfl (.r rfl (zB1 (((zAj 0 u) + ((i * (zDt (zAj 0 u))) % 18446744073709551616)) % 18446744073709551616) m rfl rfl rfl (by omega)) (.a rfl rfl .nil))))))))))))) ?_
 refine zAK ?_
 exact ends [_] [] (.cons (.tmp (zAG (zOs u i m))) .nil) (.cons (.one .v (.v _)) .nil) (by decide) trivial
theorem zHY (u : ByteArray) (k n : Nat) (hk : k ≤ 100) (hn : 0 < n ∧ n ≤ 1000000) (hu : u.size ≤ 9000000000000000000) : Con Tryz.prog 132 [.one (PV.v (.string u)), .one (PV.v (.int .i64 (k:Int))), .one (PV.v (.int .i64 (n:Int)))] [] [.one (.sl true 1 (pvQ (zBG u (8 * n) k)))] := by
 refine zAR func132 rfl rfl rfl rfl ?_
 refine zAB (zAA rfl (.a rfl rfl .nil) ?_)
 refine zAB (zAA rfl (.m rfl rfl (.run [1200] [] rfl (zAF rfl 1200 (X := []) en133 rfl (.val nod) (.cons (.one (.bor .v)) (.cons (.one (.bor .v)) .nil)) (by decide) all_nil .nil (zIP 0 u (by omega)) rfl rfl (nle rfl)) (.a rfl rfl .nil))) ?_)
 refine zAB (zAA rfl (.m rfl rfl (.r rfl (zBZ (zAj 0 u) 33 rfl rfl rfl (by decide)) (.m rfl rfl (.r rfl (zCk (k := .u64) 18446744073709551616 rfl (zAj 0 u) 31 rfl rfl rfl rfl (by decide)) (.r rfl (zAI (zC2 (k := .u64) 18446744073709551616 rfl ((zAj 0 u) / 2 ^ 33) (((zAj 0 u) * 2 ^ 31) % 18446744073709551616) rfl rfl rfl rfl) ((zAG (zJZ (zAj 0 u))))) (.run [1800] [] rfl (zAy rfl 1800 underlying124 zMp (nle rfl) (by decide) rfl rfl rfl .nil (by decide) rfl (by decide) rfl (by decide) rfl) (.a rfl rfl (.a rfl rfl .nil)))))))) ?_)
 refine zAB ?_
 refine zAB (zAA rfl (.m rfl rfl (.r rfl (zAI (zAc (k' := .u64) 18446744073709551616 rfl k rfl rfl rfl underlying2 underlying58) ((zAG (show ((k % 18446744073709551616 : Nat) : Int) = ((k : Nat) : Int) by omega)))) (.m rfl rfl .nil))) ?_)
 refine zAS ?_
 refine zAQ (zCc 1800 1 rfl rfl (by decide)) ?_
 refine zAo (σ := Nat) (fun i => mk [(2, .vi (n:Int)), (7, .p none (.v (.int .u64 ((zAj 0 u : Nat) : Int)))), (8, .p none (.v (.int .u64 ((zDt (zAj 0 u) : Nat) : Int)))), (9, .sl 1 0 ((pvQ (zBG u (8 * n) i)).length)), (20, .p none (.v (.int .u64 ((k : Nat) : Int)))), (21, .p none (.v (.int .u64 (i:Int))))] [] [(1, 1, pvQ (zBG u (8 * n) i))]) (fun i => i ≤ k) (fun i => k - i) 0 (by simp) (zAJ ⟨rfl, rfl, rfl, rfl, rfl, (zAG (by omega)), trivial⟩ trivial ⟨(congrArg (fun x => some (1, x)) (by rfl)), trivial⟩ rfl) ?_
 rintro i hG
 replace hG : i ≤ k := hG
 have hpl := zCX u (8 * n) i
 have hpv := zBj (zBG u (8 * n) i)
 refine zAB (zAA rfl (.r rfl (zAz rfl rfl rfl) .nil) ?_)
 refine zAB ?_
 refine zAT (t := decide ((i:Int) < ((k : Nat) : Int))) rfl (fun h1 => ?_) (fun h1 => ?_)
 ·
  replace h1 := of_decide_eq_true h1
  refine zAM ?_
  refine zAB ?_
  refine zAS ?_
  refine zAB (zAA rfl (.m rfl rfl (.a rfl rfl .nil)) ?_)
  refine zAA rfl (.m rfl rfl (.m rfl rfl (.m rfl rfl (.m rfl rfl (.r rfl (zDQ (k := .u64) 18446744073709551616 rfl i (zDt (zAj 0 u)) rfl rfl rfl rfl) (.r rfl (zFb (k := .u64) 18446744073709551616 rfl (zAj 0 u) ((i * (zDt (zAj 0 u))) % 18446744073709551616) rfl rfl rfl rfl) (.m rfl rfl (.r rfl (zAI (zAc (k' := .u64) 18446744073709551616 rfl n rfl rfl rfl underlying3 underlying58) ((zAG (show ((n % 18446744073709551616 : Nat) : Int) = ((n : Nat) : Int) by omega)))) (.r rfl (zAI (zDQ (k := .u64) 18446744073709551616 rfl 8 n rfl rfl rfl rfl) ((zAG (show (((8 * n) % 18446744073709551616 : Nat) : Int) = ((8 * n : Nat) : Int) by omega)))) (.r rfl (zAI (zB1 (((zAj 0 u) + ((i * (zDt (zAj 0 u))) % 18446744073709551616)) % 18446744073709551616) (8 * n) rfl rfl rfl (by omega)) ((zAG (zOs u i (8 * n))))) (.run [3400] [] rfl (zAy rfl 3400 underlying124 zMp (nle rfl) (by decide) rfl rfl rfl (.cons .v .nil) (by decide) rfl (by decide) rfl (by decide) rfl) (.run [1] [] rfl (zB2 rfl 1 (ib := 1) (len := ((pvQ (zBG u (8 * n) i)) ++ [[PV.v (.int .u64 ((plB u i (8 * n) : Nat) : Int))]]).length) rfl rfl (.row (len := (pvQ (zBG u (8 * n) i)).length) (xs := pvQ (zBG u (8 * n) i)) rfl rfl (.inl rfl)) (.give (len := 1) (xs := [[PV.v (.int .u64 ((plB u i (8 * n) : Nat) : Int))]]) rfl rfl) underlying124 (sk underlying124 rfl) zMp rfl (by decide) (by decide) (by decide) List.length_append (by simp only [maxLen, List.length_append, List.length_cons, List.length_nil, zBj]; omega) (by simp only [maxLen, List.length_append, List.length_cons, List.length_nil, zBj]; omega)) (.a rfl rfl .nil))))))))))))) ?_
  have hr2 : (pvQ (zBG u (8 * n) i)) ++ [[PV.v (.int .u64 ((plB u i (8 * n) : Nat) : Int))]] = pvQ (zBG u (8 * n) (i + 1)) := by exact zNs _ _
  have hp3 : (.sl 1 0 (((pvQ (zBG u (8 * n) i)) ++ [[PV.v (.int .u64 ((plB u i (8 * n) : Nat) : Int))]]).length) : AV) = .sl 1 0 ((pvQ (zBG u (8 * n) (i + 1))).length) := by simp only [hr2]
  refine zAQ (s' := mk [(2, .vi (n:Int)), (7, .p none (.v (.int .u64 ((zAj 0 u : Nat) : Int)))), (8, .p none (.v (.int .u64 ((zDt (zAj 0 u) : Nat) : Int)))), (9, .sl 1 0 ((pvQ (zBG u (8 * n) (i + 1))).length)), (20, .p none (.v (.int .u64 ((k : Nat) : Int)))), (21, .p none (.v (.int .u64 (i:Int))))] [] [(1, 1, pvQ (zBG u (8 * n) (i + 1)))]) ?_ ?_
  · exact zAJ ⟨rfl, rfl, rfl, hp3, rfl, rfl, trivial⟩ trivial ⟨(congrArg (fun x => some (1, x)) hr2), trivial⟩ rfl
  refine zAA rfl (.r rfl (zFb (k := .u64) 18446744073709551616 rfl i 1 rfl rfl rfl rfl) (.m rfl rfl .nil)) ?_
  refine nxt (Q := fun _ _ => False) (z := i) (i + 1) ?_ ?_ ?_
  ·
   show (i + 1) ≤ k
   omega
  ·
   show k - (i + 1) < k - i
   omega
  · exact zAJ ⟨rfl, rfl, rfl, rfl, rfl, (zAG (by omega)), trivial⟩ trivial ⟨rfl, trivial⟩ rfl
 ·
  replace h1 := of_decide_eq_false h1
  refine zAn ?_
  refine zAB (zAA rfl (.m rfl rfl (.a rfl rfl .nil)) ?_)
  have hr4 : pvQ (zBG u (8 * n) i) = pvQ (zBG u (8 * n) k) := by rw [show i = k by omega]
  have hp5 : (.sl 1 0 ((pvQ (zBG u (8 * n) i)).length) : AV) = .sl 1 0 ((pvQ (zBG u (8 * n) k)).length) := by simp only [hr4]
  refine zAQ (s' := mk [(6, .sl 1 0 ((pvQ (zBG u (8 * n) k)).length))] [] [(1, 1, pvQ (zBG u (8 * n) k))]) ?_ ?_
  · exact zAJ ⟨hp5, trivial⟩ trivial ⟨(congrArg (fun x => some (1, x)) hr4), trivial⟩ rfl
  refine zAK ?_
  exact ends [_] [1] (.cons (.tmp rfl) .nil) (.cons (.one (.row (len := (pvQ (zBG u (8 * n) k)).length) (xs := pvQ (zBG u (8 * n) k)) rfl rfl) (.sl _ _ (FlatP.clean (zIF _)))) .nil) (by decide) trivial
end Go.Rl
namespace Go.Rl
open Go.RowKit

mutual
def AV.frz (id sz : Nat) (xs : List (List PV)) : AV → AV
 | .p (some d) x => (match Nat.beq d id with
  | true => .p none x
  | false => .p (some d) x)
 | .sl d lo len => (match Nat.beq d id with
  | true => .p none (.sl false sz ((xs.drop lo).take len))
  | false => .sl d lo len)
 | .ea d i off => (match Nat.beq d id with
  | true => .undef
  | false => .ea d i off)
 | .fea (some d) ps => (match Nat.beq d id with
  | true => .fea none ps
  | false => .fea (some d) ps)
 | .agg cs => .agg (AV.frzs id sz xs cs)
 | .tup cs => .tup (AV.frzs id sz xs cs)
 | x => x
def AV.frzs (id sz : Nat) (xs : List (List PV)) : List AV → List AV
 | [] => []
 | a :: l => AV.frz id sz xs a :: AV.frzs id sz xs l
end
def St.frz (s : St) (id sz : Nat) (xs : List (List PV)) : St := ⟨fun i => (s.t i).frz id sz xs, fun i => (s.b i).map (AV.frzs id sz xs), fun i => match Nat.beq i id with
 | true => none
 | false => s.r i⟩
def Pl.frz (L : Pl) (id : Nat) : Pl := { L with Z := fun k => L.Z k ∨ k ∈ L.ν id, lab := fun k => if k ∈ L.ν id then none else L.lab k }
theorem zFy {a b : Nat} (h : a ≠ b) : Nat.beq a b = false := by
 cases e : Nat.beq a b with
 | false => rfl
 | true => exact absurd (Nat.eq_of_beq_eq_true e) h

section
variable {w0 : World} {I : Fr} {n : Nat} {L : Pl} {s : St} {a : Act} {w : World} {id sz : Nat} {xs : List (List PV)}
theorem zHi {d : Option Nat} (hd : d ≠ some id) : ∀ k, L.zd d k → (L.frz id).zd d k := fun k hk => by
 rcases hk with hk | ⟨i, rfl, hk⟩
 · exact .inl (.inl hk)
 · exact .inr ⟨i, rfl, hk⟩
theorem zMv : ∀ k, L.zd (some id) k → (L.frz id).zd none k := fun k hk => by
 rcases hk with hk | ⟨i, e, hk⟩
 · exact .inl (.inl hk)
 · cases e; exact .inl (.inr (List.mem_of_mem_tail hk))
theorem zOG {i : Nat} (hi : i ≠ id) : (s.frz id sz xs).r i = s.r i := by simp only [St.frz, zFy hi]
mutual
theorem AVR.frz (hr : s.r id = some (sz, xs)) (hp : PVO L.Z w (.sl true sz xs) (L.ρ id) (L.ν id)) : ∀ (av : AV) (v : Value), AVR L w s av v → AVR (L.frz id) w (s.frz id sz xs) (av.frz id sz xs) v
 | .undef, v, _ => by simp [AV.frz, AVR]
 | .p none x, v, hv => by
  simp only [AV.frz, AVR] at hv ⊢
  exact ⟨hv.1.mono (fun _ _ => rfl) (zHi (by simp)), fun _ h => by cases h⟩
 | .p (some d) x, v, hv => by
  by_cases e : d = id
  ·
   subst e
   simp only [AV.frz, Nat.beq_refl, AVR] at hv ⊢
   exact ⟨hv.1.mono (fun _ _ => rfl) zMv, fun _ h => by cases h⟩
  ·
   simp only [AV.frz, zFy e, AVR] at hv ⊢
   refine ⟨hv.1.mono (fun _ _ => rfl) (zHi (by simpa using e)), fun i hi => ?_⟩
   cases hi
   rw [zOG e]
   exact hv.2 d rfl
 | .sl d lo len, v, hv => by
  by_cases e : d = id
  ·
   subst e
   simp only [AV.frz, Nat.beq_refl, AVR] at hv ⊢
   obtain ⟨sz', xs', e1, e2, A, m, c, A', c', e3, rfl, e5, e6, e7⟩ := hv
   rw [hr] at e1
   cases e1
   have hq := hp.toR
   have hm := zIC hq A m c e3
   rw [e3] at hq
   subst hm
   refine ⟨((hq.flag false).cut e2 _ _ e5 (fun hpos => ?_)).mono (fun _ _ => rfl) (fun k hk => .inl hk), fun _ h => by cases h⟩
   obtain ⟨k, rfl, rfl⟩ := e7 hpos
   exact ⟨k, 0, rfl, by rw [Nat.zero_add]⟩
  ·
   simp only [AV.frz, zFy e, AVR] at hv ⊢
   rw [zOG e]
   exact hv
 | .ptr b off, v, hv => by
  simp only [AV.frz, AVR] at hv ⊢
  exact ⟨by simpa [St.frz] using hv.1, hv.2⟩
 | .ea d i off, v, hv => by
  by_cases e : d = id
  ·
   subst e
   simp only [AV.frz, Nat.beq_refl, AVR]
  ·
   simp only [AV.frz, zFy e, AVR] at hv ⊢
   rw [zOG e]
   exact hv
 | .fea none ps, v, hv => by
  simp only [AV.frz, AVR] at hv ⊢
  obtain ⟨⟨k, off, h1, h2, h3⟩, _⟩ := hv
  exact ⟨⟨k, off, h1, zHi (by simp) k h2, fun j p hj => by obtain ⟨u, hu, hq⟩ := h3 j p hj; exact ⟨u, hu, hq.mono (fun _ _ => rfl) (zHi (by simp))⟩⟩, fun _ h => by cases h⟩
 | .fea (some d) ps, v, hv => by
  by_cases e : d = id
  ·
   subst e
   simp only [AV.frz, Nat.beq_refl, AVR] at hv ⊢
   obtain ⟨⟨k, off, h1, h2, h3⟩, _⟩ := hv
   exact ⟨⟨k, off, h1, zMv k h2, fun j p hj => by obtain ⟨u, hu, hq⟩ := h3 j p hj; exact ⟨u, hu, hq.mono (fun _ _ => rfl) zMv⟩⟩, fun _ h => by cases h⟩
  ·
   simp only [AV.frz, zFy e, AVR] at hv ⊢
   obtain ⟨⟨k, off, h1, h2, h3⟩, h4⟩ := hv
   refine ⟨⟨k, off, h1, zHi (by simpa using e) k h2, fun j p hj => by obtain ⟨u, hu, hq⟩ := h3 j p hj; exact ⟨u, hu, hq.mono (fun _ _ => rfl) (zHi (by simpa using e))⟩⟩, fun i hi => ?_⟩
   cases hi
   rw [zOG e]
   exact h4 d rfl
 | .nils, v, hv => by simpa only [AV.frz, AVR] using hv
 | .sat A, v, hv => by simpa only [AV.frz, AVR] using hv
 | .clo f bs, v, hv => by
  simp only [AV.frz, AVR] at hv ⊢
  exact ⟨fun x hx => by simpa [St.frz] using hv.1 x hx, hv.2⟩
 | .agg cs, v, hv => by
  simp only [AV.frz, AVR] at hv ⊢
  obtain ⟨us, h1, h2⟩ := hv
  exact ⟨us, h1, AVRs.frz hr hp cs us h2⟩
 | .tup cs, v, hv => by
  simp only [AV.frz, AVR] at hv ⊢
  obtain ⟨us, h1, h2⟩ := hv
  exact ⟨us, h1, AVRs.frz hr hp cs us h2⟩
theorem AVRs.frz (hr : s.r id = some (sz, xs)) (hp : PVO L.Z w (.sl true sz xs) (L.ρ id) (L.ν id)) : ∀ (l : List AV) (us : List Value), AVRs L w s l us → AVRs (L.frz id) w (s.frz id sz xs) (AV.frzs id sz xs l) us
 | [], [], _ => by simp [AV.frzs, AVRs]
 | [], _ :: _, hv => by simp [AVRs] at hv
 | _ :: _, [], hv => by simp [AVRs] at hv
 | x :: l, u :: us, hv => by
  simp only [AV.frzs, AVRs] at hv ⊢
  exact ⟨AVR.frz hr hp x u hv.1, AVRs.frz hr hp l us hv.2⟩
end
end
mutual
def AV.pvz : AV → Option PV
 | .p none (.v x) => some (.v x)
 | .p none (.sl _ sz xs) => some (.sl false sz xs)
 | .p none (.clo f xs) => some (.clo f xs)
 | _ => none
def AV.pvzs : List AV → Option (List PV)
 | [] => some []
 | a :: l => match a.pvz, AV.pvzs l with
  | some x, some xs => some (x :: xs)
  | _, _ => none
end
end Go.Rl

/- Promises of functions, proved by walks over their operations; no conditions beyond those that each theorem states. -/
import Derived.Test.YtamebecmgdbmnaaGreatDoorRuN
import Derived.Test.YtamebecmgdbmnaaGreatDoorRtTk
set_option linter.unusedSimpArgs false
set_option linter.unusedVariables false
namespace Go.Rl
open Go.Proofs Go.Proofs.Tryz
set_option maxRecDepth 1000000
set_option maxHeartbeats 2000000
theorem en121 : En Tryz.prog 121 := zAl func121 (by decide) rfl
theorem en91 : En Tryz.prog 91 := zAl func91 (by decide) rfl
theorem zGJ (s : ByteArray) (hs : s.size ≤ 9000000000000000000) : Con Tryz.prog 121 [.one (PV.v (.string s))] [] [.one (.v (.int .u64 ((tvN (zAP s) : Nat) : Int))), .one (.v (.string (tvR (zAP s)))), .one (.v (.bool ((zAP s).isSome)))] := by
 refine zAR func121 rfl rfl rfl rfl ?_
 refine zAB (zAA rfl (.a rfl rfl (.a rfl rfl (.a rfl rfl .nil))) ?_)
 refine zAB (zAA rfl (.a rfl rfl .nil) ?_)
 refine zAB ?_
 refine zAB (zAA rfl (.a rfl rfl .nil) ?_)
 refine zAS ?_
 refine zAo (σ := Nat × Nat) (fun (i, n) => mk [(0, .vs s), (5, .p none (.v (.int .u64 ((n : Nat) : Int)))), (6, .vi (i:Int))] [] []) (fun (i, n) => (i ≤ 10 ∧ n < 18446744073709551616) ∧ tvG s (10 - i) i n = zAP s) (fun (i, n) => 10 - i) (0, 0) ⟨⟨by decide, by decide⟩, rfl⟩ (zAJ ⟨rfl, rfl, (zAG (by omega)), trivial⟩ trivial trivial rfl) ?_
 rintro ⟨i, n⟩ hG
 replace hG : (i ≤ 10 ∧ n < 18446744073709551616) ∧ tvG s (10 - i) i n = zAP s := hG
 obtain ⟨⟨hi, hn⟩, hE⟩ := hG
 refine zAB ?_
 refine zAB ?_
 rcases bfc (decide ((i:Int) < (s.size : Int))) with h1 | h1
 ·
  have h1' := h1
  replace h1' := of_decide_eq_false h1'
  refine zAA rfl (.m rfl rfl (.m rfl rfl (.r rfl (zAO rfl rfl underlying9) (.r rfl (zAI (zAz rfl rfl rfl) (zAE h1)) (.m rfl rfl (.not rfl (.not rfl (.r rfl (zAg rfl rfl) .nil)))))))) ?_
  refine zAT (t := false) rfl (fun h => nomatch h) (fun _ => ?_)
  refine zAn ?_
  refine zAB ?_
  have hZ : zAP s = none := hE.symm.trans (by first | exact zHs (by omega) | (rw [show 10 - i = 0 by omega]; rfl))
  rw [hZ]
  refine zAA rfl (.a rfl rfl (.a rfl rfl (.a rfl rfl .nil))) ?_
  refine zAK ?_
  exact ends [_, _, _] [] (.cons (.tmp rfl) (.cons (.tmp rfl) (.cons (.tmp rfl) .nil))) (.cons (.one .v (.v _)) (.cons (.one .v (.v _)) (.cons (.one .v (.v _)) .nil))) (by decide) trivial
 ·
  have h1' := h1
  replace h1' := of_decide_eq_true h1'
  refine zAA rfl (.m rfl rfl (.m rfl rfl (.r rfl (zAO rfl rfl underlying9) (.r rfl (zAI (zAz rfl rfl rfl) (zAE h1)) (.m rfl rfl (.m rfl rfl (.r rfl (zAz rfl rfl rfl) (.r rfl (zAh rfl rfl) .nil)))))))) ?_
  refine zAT (t := decide ((i:Int) < 10)) rfl (fun h2 => ?_) (fun h2 => ?_)
  ·
   replace h2 := of_decide_eq_true h2
   refine zAM ?_
   refine zAB ?_
   refine zAS ?_
   refine zAB ?_
   have hk : 10 - i = (9 - i) + 1 := by omega
   rw [hk] at hE
   obtain ⟨b, hb⟩ : ∃ b : UInt8, s[i]? = some b := ⟨_, getElem?_pos s i (by omega)⟩
   have hb256 := b.toNat_lt
   refine zAA rfl (.m rfl rfl (.m rfl rfl (.r rfl (zBY rfl rfl rfl underlying9 (by omega) hb) (.r rfl (zAI (zFa (k := .u8) 256 rfl b.toNat 127 rfl rfl rfl rfl) ((zAG (by rw [show b.toNat &&& 127 = b.toNat % 128 from Nat.and_two_pow_sub_one_eq_mod _ 7]; omega)))) (.r rfl (zAI (zAc (k' := .u64) 18446744073709551616 rfl (b.toNat % 128) rfl rfl rfl underlying5 underlying58) ((zAG (show (((b.toNat % 128) % 18446744073709551616 : Nat) : Int) = ((b.toNat % 128 : Nat) : Int) by omega)))) (.a rfl rfl .nil)))))) ?_
   refine zAB ?_
   refine zAB ?_
   refine zAQ (s' := mk [(0, .vs s), (5, .p none (.v (.int .u64 ((n : Nat) : Int)))), (6, .vi (i:Int)), (7, .p none (.v (.int .u64 ((b.toNat % 128 : Nat) : Int)))), (13, .vi (i:Int)), (14, .vb (decide ((i:Int) < 10)))] [] []) ?_ ?_
   · exact zAJ ⟨rfl, rfl, rfl, rfl, rfl, rfl, trivial⟩ trivial trivial rfl
   rcases bfc (decide ((i:Int) = 9)) with h3 | h3
   ·
    have h3' := h3
    replace h3' := of_decide_eq_false h3'
    refine zAA rfl (.m rfl rfl (.r rfl (zAI (zA9 rfl rfl rfl) (zAE h3)) (.m rfl rfl (.not rfl (.not rfl (.r rfl (zAg rfl rfl) .nil)))))) ?_
    refine zAT (t := false) rfl (fun h => nomatch h) (fun _ => ?_)
    refine zAM ?_
    refine zAB (zAA rfl (.m rfl rfl (.m rfl rfl (.m rfl rfl (.r rfl (zAI (zCw rfl rfl rfl (by omega)) ((zAG (by omega)))) (.r rfl (zCk (k := .u64) 18446744073709551616 rfl (b.toNat % 128) (7 * i) rfl rfl rfl rfl (show _ ≤ 64 by omega)) (.r rfl (zC2 (k := .u64) 18446744073709551616 rfl n (((b.toNat % 128) * 2 ^ (7 * i)) % 18446744073709551616) rfl rfl rfl rfl) (.a rfl rfl .nil))))))) ?_)
    refine zAB ?_
    refine zAB ?_
    refine zAQ (s' := mk [(0, .vs s), (5, .p none (.v (.int .u64 (((n ||| (((b.toNat % 128) * 2 ^ (7 * i)) % 18446744073709551616)) % 18446744073709551616 : Nat) : Int)))), (6, .vi (i:Int)), (7, .p none (.v (.int .u64 ((b.toNat % 128 : Nat) : Int)))), (13, .vi (i:Int)), (14, .vb (decide ((i:Int) < 10)))] [] []) ?_ ?_
    · exact zAJ ⟨rfl, rfl, rfl, rfl, rfl, rfl, trivial⟩ trivial trivial rfl
    refine zAA rfl (.m rfl rfl (.m rfl rfl (.r rfl (zBY rfl rfl rfl underlying9 (by omega) hb) (.r rfl (zDF rfl rfl rfl) .nil)))) ?_
    refine zAT (t := decide (128 ≤ (b.toNat : Int))) rfl (fun h4 => ?_) (fun h4 => ?_)
    ·
     replace h4 := of_decide_eq_true h4
     refine zAn ?_
     refine zAA rfl (.m rfl rfl (.r rfl (zAd rfl rfl rfl (by omega)) (.a rfl rfl .nil))) ?_
     refine nxt (Q := fun _ _ => False) (z := (i, n)) (i + 1, (n ||| ((b.toNat % 128) * 2 ^ (7 * i)) % 18446744073709551616) % 18446744073709551616) ?_ ?_ ?_
     ·
      show ((i + 1) ≤ 10 ∧ ((n ||| ((b.toNat % 128) * 2 ^ (7 * i)) % 18446744073709551616) % 18446744073709551616) < 18446744073709551616) ∧ tvG s (10 - (i + 1)) (i + 1) ((n ||| ((b.toNat % 128) * 2 ^ (7 * i)) % 18446744073709551616) % 18446744073709551616) = zAP s
      exact ⟨⟨by omega, Nat.mod_lt _ (by decide)⟩, by rw [show 10 - (i + 1) = 9 - i by omega]; exact (zDx hb (by omega)).symm.trans hE⟩
     ·
      show 10 - (i + 1) < 10 - i
      omega
     · exact zAJ ⟨rfl, rfl, (zAG (by omega)), trivial⟩ trivial trivial rfl
    ·
     replace h4 := of_decide_eq_false h4
     refine zAM ?_
     refine zAB ?_
     refine zAB ?_
     rcases bfc (decide (((b.toNat % 128 : Nat) : Int) = 0)) with h5 | h5
     ·
      have h5' := h5
      replace h5' := of_decide_eq_false h5'
      refine zAA rfl (.m rfl rfl (.r rfl (zAI (zA9 rfl rfl rfl) (zAE h5)) (.m rfl rfl (.not rfl (.not rfl (.r rfl (zAg rfl rfl) .nil)))))) ?_
      refine zAT (t := false) rfl (fun h => nomatch h) (fun _ => ?_)
      refine zAM ?_
      refine zAB ?_
      have hZ : zAP s = some ((n ||| ((b.toNat % 128) * 2 ^ (7 * i)) % 18446744073709551616) % 18446744073709551616, s.extract (i + 1) s.size) := hE.symm.trans (zDY hb (by omega) (by omega))
      rw [hZ]
      refine zAQ (s' := mk [(0, .vs s), (5, .p none (.v (.int .u64 (((n ||| (((b.toNat % 128) * 2 ^ (7 * i)) % 18446744073709551616)) % 18446744073709551616 : Nat) : Int)))), (6, .vi (i:Int))] [] []) ?_ ?_
      · exact zAJ ⟨rfl, rfl, rfl, trivial⟩ trivial trivial rfl
      refine zAf zBo rfl (.m rfl rfl (.m rfl rfl (.m rfl rfl (.r rfl (zAI (zAd rfl rfl rfl (by omega)) ((zAG (show (i : Int) + 1 = ((i + 1 : Nat) : Int) by omega)))) (.r rfl (zAv rfl rfl underlying9 (.at_ rfl rfl) .no (by omega) (Nat.le_refl _)) (.a rfl rfl (.a rfl rfl (.a rfl rfl .nil)))))))) (by kernel_rfl) ?_
      refine zAK ?_
      exact ends [_, _, _] [] (.cons (.tmp rfl) (.cons (.tmp rfl) (.cons (.tmp rfl) .nil))) (.cons (.one .v (.v _)) (.cons (.one .v (.v _)) (.cons (.one .v (.v _)) .nil))) (by decide) trivial
     ·
      have h5' := h5
      replace h5' := of_decide_eq_true h5'
      refine zAA rfl (.m rfl rfl (.r rfl (zAI (zA9 rfl rfl rfl) (zAE h5)) (.m rfl rfl (.m rfl rfl (.r rfl (zBH rfl rfl rfl) (.r rfl (zAh rfl rfl) .nil)))))) ?_
      refine zAT (t := decide (0 < (i:Int))) rfl (fun h6 => ?_) (fun h6 => ?_)
      ·
       replace h6 := of_decide_eq_true h6
       refine zAB ?_
       have hZ : zAP s = none := hE.symm.trans (zFV hb (by omega) (.inl (by omega)))
       rw [hZ]
       refine zAA rfl (.a rfl rfl (.a rfl rfl (.a rfl rfl .nil))) ?_
       refine zAK ?_
       exact ends [_, _, _] [] (.cons (.tmp rfl) (.cons (.tmp rfl) (.cons (.tmp rfl) .nil))) (.cons (.one .v (.v _)) (.cons (.one .v (.v _)) (.cons (.one .v (.v _)) .nil))) (by decide) trivial
      ·
       replace h6 := of_decide_eq_false h6
       refine zAM ?_
       refine zAB ?_
       have hZ : zAP s = some ((n ||| ((b.toNat % 128) * 2 ^ (7 * i)) % 18446744073709551616) % 18446744073709551616, s.extract (i + 1) s.size) := hE.symm.trans (zDY hb (by omega) (by omega))
       rw [hZ]
       refine zAQ (s' := mk [(0, .vs s), (5, .p none (.v (.int .u64 (((n ||| (((b.toNat % 128) * 2 ^ (7 * i)) % 18446744073709551616)) % 18446744073709551616 : Nat) : Int)))), (6, .vi (i:Int))] [] []) ?_ ?_
       · exact zAJ ⟨rfl, rfl, rfl, trivial⟩ trivial trivial rfl
       refine zAf zBo rfl (.m rfl rfl (.m rfl rfl (.m rfl rfl (.r rfl (zAI (zAd rfl rfl rfl (by omega)) ((zAG (show (i : Int) + 1 = ((i + 1 : Nat) : Int) by omega)))) (.r rfl (zAv rfl rfl underlying9 (.at_ rfl rfl) .no (by omega) (Nat.le_refl _)) (.a rfl rfl (.a rfl rfl (.a rfl rfl .nil)))))))) (by kernel_rfl) ?_
       refine zAK ?_
       exact ends [_, _, _] [] (.cons (.tmp rfl) (.cons (.tmp rfl) (.cons (.tmp rfl) .nil))) (.cons (.one .v (.v _)) (.cons (.one .v (.v _)) (.cons (.one .v (.v _)) .nil))) (by decide) trivial
   ·
    have h3' := h3
    replace h3' := of_decide_eq_true h3'
    refine zAA rfl (.m rfl rfl (.r rfl (zAI (zA9 rfl rfl rfl) (zAE h3)) (.m rfl rfl (.m rfl rfl (.r rfl (zBH rfl rfl rfl) (.r rfl (zAh rfl rfl) .nil)))))) ?_
    refine zAT (t := decide (1 < ((b.toNat % 128 : Nat) : Int))) rfl (fun h7 => ?_) (fun h7 => ?_)
    ·
     replace h7 := of_decide_eq_true h7
     refine zAB ?_
     have hZ : zAP s = none := by
      have h9 : i = 9 := by omega
      subst h9
      exact hE.symm.trans (tvG_9 hb (by omega))
     rw [hZ]
     refine zAA rfl (.a rfl rfl (.a rfl rfl (.a rfl rfl .nil))) ?_
     refine zAK ?_
     exact ends [_, _, _] [] (.cons (.tmp rfl) (.cons (.tmp rfl) (.cons (.tmp rfl) .nil))) (.cons (.one .v (.v _)) (.cons (.one .v (.v _)) (.cons (.one .v (.v _)) .nil))) (by decide) trivial
    ·
     replace h7 := of_decide_eq_false h7
     refine zAM ?_
     refine zAB (zAA rfl (.m rfl rfl (.m rfl rfl (.m rfl rfl (.r rfl (zAI (zCw rfl rfl rfl (by omega)) ((zAG (by omega)))) (.r rfl (zCk (k := .u64) 18446744073709551616 rfl (b.toNat % 128) (7 * i) rfl rfl rfl rfl (show _ ≤ 64 by omega)) (.r rfl (zC2 (k := .u64) 18446744073709551616 rfl n (((b.toNat % 128) * 2 ^ (7 * i)) % 18446744073709551616) rfl rfl rfl rfl) (.a rfl rfl .nil))))))) ?_)
     refine zAB ?_
     refine zAB ?_
     refine zAQ (s' := mk [(0, .vs s), (5, .p none (.v (.int .u64 (((n ||| (((b.toNat % 128) * 2 ^ (7 * i)) % 18446744073709551616)) % 18446744073709551616 : Nat) : Int)))), (6, .vi (i:Int)), (7, .p none (.v (.int .u64 ((b.toNat % 128 : Nat) : Int)))), (13, .vi (i:Int)), (14, .vb (decide ((i:Int) < 10))), (26, .p none (.v (.int .u64 ((b.toNat % 128 : Nat) : Int)))), (27, .vb (decide (1 < ((b.toNat % 128 : Nat) : Int))))] [] []) ?_ ?_
     · exact zAJ ⟨rfl, rfl, rfl, rfl, rfl, rfl, rfl, rfl, trivial⟩ trivial trivial rfl
     refine zAA rfl (.m rfl rfl (.m rfl rfl (.r rfl (zBY rfl rfl rfl underlying9 (by omega) hb) (.r rfl (zDF rfl rfl rfl) .nil)))) ?_
     refine zAT (t := decide (128 ≤ (b.toNat : Int))) rfl (fun h8 => ?_) (fun h8 => ?_)
     ·
      replace h8 := of_decide_eq_true h8
      refine zAn ?_
      refine zAA rfl (.m rfl rfl (.r rfl (zAd rfl rfl rfl (by omega)) (.a rfl rfl .nil))) ?_
      refine nxt (Q := fun _ _ => False) (z := (i, n)) (i + 1, (n ||| ((b.toNat % 128) * 2 ^ (7 * i)) % 18446744073709551616) % 18446744073709551616) ?_ ?_ ?_
      ·
       show ((i + 1) ≤ 10 ∧ ((n ||| ((b.toNat % 128) * 2 ^ (7 * i)) % 18446744073709551616) % 18446744073709551616) < 18446744073709551616) ∧ tvG s (10 - (i + 1)) (i + 1) ((n ||| ((b.toNat % 128) * 2 ^ (7 * i)) % 18446744073709551616) % 18446744073709551616) = zAP s
       exact ⟨⟨by omega, Nat.mod_lt _ (by decide)⟩, by rw [show 10 - (i + 1) = 9 - i by omega]; exact (zDx hb (by omega)).symm.trans hE⟩
      ·
       show 10 - (i + 1) < 10 - i
       omega
      · exact zAJ ⟨rfl, rfl, (zAG (by omega)), trivial⟩ trivial trivial rfl
     ·
      replace h8 := of_decide_eq_false h8
      refine zAM ?_
      refine zAB ?_
      refine zAB ?_
      rcases bfc (decide (((b.toNat % 128 : Nat) : Int) = 0)) with h9 | h9
      ·
       have h9' := h9
       replace h9' := of_decide_eq_false h9'
       refine zAA rfl (.m rfl rfl (.r rfl (zAI (zA9 rfl rfl rfl) (zAE h9)) (.m rfl rfl (.not rfl (.not rfl (.r rfl (zAg rfl rfl) .nil)))))) ?_
       refine zAT (t := false) rfl (fun h => nomatch h) (fun _ => ?_)
       refine zAM ?_
       refine zAB ?_
       have hZ : zAP s = some ((n ||| ((b.toNat % 128) * 2 ^ (7 * i)) % 18446744073709551616) % 18446744073709551616, s.extract (i + 1) s.size) := hE.symm.trans (zDY hb (by omega) (by omega))
       rw [hZ]
       refine zAQ (s' := mk [(0, .vs s), (5, .p none (.v (.int .u64 (((n ||| (((b.toNat % 128) * 2 ^ (7 * i)) % 18446744073709551616)) % 18446744073709551616 : Nat) : Int)))), (6, .vi (i:Int))] [] []) ?_ ?_
       · exact zAJ ⟨rfl, rfl, rfl, trivial⟩ trivial trivial rfl
       refine zAf zBo rfl (.m rfl rfl (.m rfl rfl (.m rfl rfl (.r rfl (zAI (zAd rfl rfl rfl (by omega)) ((zAG (show (i : Int) + 1 = ((i + 1 : Nat) : Int) by omega)))) (.r rfl (zAv rfl rfl underlying9 (.at_ rfl rfl) .no (by omega) (Nat.le_refl _)) (.a rfl rfl (.a rfl rfl (.a rfl rfl .nil)))))))) (by kernel_rfl) ?_
       refine zAK ?_
       exact ends [_, _, _] [] (.cons (.tmp rfl) (.cons (.tmp rfl) (.cons (.tmp rfl) .nil))) (.cons (.one .v (.v _)) (.cons (.one .v (.v _)) (.cons (.one .v (.v _)) .nil))) (by decide) trivial
      ·
       have h9' := h9
       replace h9' := of_decide_eq_true h9'
       refine zAA rfl (.m rfl rfl (.r rfl (zAI (zA9 rfl rfl rfl) (zAE h9)) (.m rfl rfl (.m rfl rfl (.r rfl (zBH rfl rfl rfl) (.r rfl (zAh rfl rfl) .nil)))))) ?_
       refine zAT (t := decide (0 < (i:Int))) rfl (fun h10 => ?_) (fun h10 => ?_)
       ·
        replace h10 := of_decide_eq_true h10
        refine zAB ?_
        have hZ : zAP s = none := hE.symm.trans (zFV hb (by omega) (.inl (by omega)))
        rw [hZ]
        refine zAA rfl (.a rfl rfl (.a rfl rfl (.a rfl rfl .nil))) ?_
        refine zAK ?_
        exact ends [_, _, _] [] (.cons (.tmp rfl) (.cons (.tmp rfl) (.cons (.tmp rfl) .nil))) (.cons (.one .v (.v _)) (.cons (.one .v (.v _)) (.cons (.one .v (.v _)) .nil))) (by decide) trivial
       ·
        replace h10 := of_decide_eq_false h10
        refine zAM ?_
        refine zAB ?_
        have hZ : zAP s = some ((n ||| ((b.toNat % 128) * 2 ^ (7 * i)) % 18446744073709551616) % 18446744073709551616, s.extract (i + 1) s.size) := hE.symm.trans (zDY hb (by omega) (by omega))
        rw [hZ]
        refine zAQ (s' := mk [(0, .vs s), (5, .p none (.v (.int .u64 (((n ||| (((b.toNat % 128) * 2 ^ (7 * i)) % 18446744073709551616)) % 18446744073709551616 : Nat) : Int)))), (6, .vi (i:Int))] [] []) ?_ ?_
        · exact zAJ ⟨rfl, rfl, rfl, trivial⟩ trivial trivial rfl
        refine zAf zBo rfl (.m rfl rfl (.m rfl rfl (.m rfl rfl (.r rfl (zAI (zAd rfl rfl rfl (by omega)) ((zAG (show (i : Int) + 1 = ((i + 1 : Nat) : Int) by omega)))) (.r rfl (zAv rfl rfl underlying9 (.at_ rfl rfl) .no (by omega) (Nat.le_refl _)) (.a rfl rfl (.a rfl rfl (.a rfl rfl .nil)))))))) (by kernel_rfl) ?_
        refine zAK ?_
        exact ends [_, _, _] [] (.cons (.tmp rfl) (.cons (.tmp rfl) (.cons (.tmp rfl) .nil))) (.cons (.one .v (.v _)) (.cons (.one .v (.v _)) (.cons (.one .v (.v _)) .nil))) (by decide) trivial
  ·
   replace h2 := of_decide_eq_false h2
   refine zAn ?_
   refine zAB ?_
   have hZ : zAP s = none := hE.symm.trans (by first | exact zHs (by omega) | (rw [show 10 - i = 0 by omega]; rfl))
   rw [hZ]
   refine zAA rfl (.a rfl rfl (.a rfl rfl (.a rfl rfl .nil))) ?_
   refine zAK ?_
   exact ends [_, _, _] [] (.cons (.tmp rfl) (.cons (.tmp rfl) (.cons (.tmp rfl) .nil))) (.cons (.one .v (.v _)) (.cons (.one .v (.v _)) (.cons (.one .v (.v _)) .nil))) (by decide) trivial
theorem zB3 (s : ByteArray) (hs : s.size ≤ 9000000000000000000) : Con Tryz.prog 91 [.one (PV.v (.string s))] [] [.one (.v (.int .u64 ((tvN (zAP s) : Nat) : Int))), .one (.v (.string (tvR (zAP s)))), .one (.v (.bool ((zAP s).isSome)))] := by
 refine zAR func91 rfl rfl rfl rfl ?_
 refine zAB (zAA rfl (.a rfl rfl (.a rfl rfl (.a rfl rfl .nil))) ?_)
 refine zAB (zAA rfl (.a rfl rfl .nil) ?_)
 refine zAB ?_
 refine zAB (zAA rfl (.a rfl rfl .nil) ?_)
 refine zAS ?_
 refine zAo (σ := Nat × Nat) (fun (i, n) => mk [(0, .vs s), (5, .p none (.v (.int .u64 ((n : Nat) : Int)))), (6, .vi (i:Int))] [] []) (fun (i, n) => (i ≤ 10 ∧ n < 18446744073709551616) ∧ tvG s (10 - i) i n = zAP s) (fun (i, n) => 10 - i) (0, 0) ⟨⟨by decide, by decide⟩, rfl⟩ (zAJ ⟨rfl, rfl, (zAG (by omega)), trivial⟩ trivial trivial rfl) ?_
 rintro ⟨i, n⟩ hG
 replace hG : (i ≤ 10 ∧ n < 18446744073709551616) ∧ tvG s (10 - i) i n = zAP s := hG
 obtain ⟨⟨hi, hn⟩, hE⟩ := hG
 refine zAB ?_
 refine zAB ?_
 rcases bfc (decide ((i:Int) < (s.size : Int))) with h1 | h1
 ·
  have h1' := h1
  replace h1' := of_decide_eq_false h1'
  refine zAA rfl (.m rfl rfl (.m rfl rfl (.r rfl (zAO rfl rfl underlying9) (.r rfl (zAI (zAz rfl rfl rfl) (zAE h1)) (.m rfl rfl (.not rfl (.not rfl (.r rfl (zAg rfl rfl) .nil)))))))) ?_
  refine zAT (t := false) rfl (fun h => nomatch h) (fun _ => ?_)
  refine zAn ?_
  refine zAB ?_
  have hZ : zAP s = none := hE.symm.trans (by first | exact zHs (by omega) | (rw [show 10 - i = 0 by omega]; rfl))
  rw [hZ]
  refine zAA rfl (.a rfl rfl (.a rfl rfl (.a rfl rfl .nil))) ?_
  refine zAK ?_
  exact ends [_, _, _] [] (.cons (.tmp rfl) (.cons (.tmp rfl) (.cons (.tmp rfl) .nil))) (.cons (.one .v (.v _)) (.cons (.one .v (.v _)) (.cons (.one .v (.v _)) .nil))) (by decide) trivial
 ·
  have h1' := h1
  replace h1' := of_decide_eq_true h1'
  refine zAA rfl (.m rfl rfl (.m rfl rfl (.r rfl (zAO rfl rfl underlying9) (.r rfl (zAI (zAz rfl rfl rfl) (zAE h1)) (.m rfl rfl (.m rfl rfl (.r rfl (zAz rfl rfl rfl) (.r rfl (zAh rfl rfl) .nil)))))))) ?_
  refine zAT (t := decide ((i:Int) < 10)) rfl (fun h2 => ?_) (fun h2 => ?_)
  ·
   replace h2 := of_decide_eq_true h2
   refine zAM ?_
   refine zAB ?_
   refine zAS ?_
   refine zAB ?_
   have hk : 10 - i = (9 - i) + 1 := by omega
   rw [hk] at hE
   obtain ⟨b, hb⟩ : ∃ b : UInt8, s[i]? = some b := ⟨_, getElem?_pos s i (by omega)⟩
   have hb256 := b.toNat_lt
   refine zAA rfl (.m rfl rfl (.m rfl rfl (.r rfl (zBY rfl rfl rfl underlying9 (by omega) hb) (.r rfl (zB1 b.toNat 128 rfl rfl rfl (by omega)) (.r rfl (zAI (zAc (k' := .u64) 18446744073709551616 rfl (b.toNat % 128) rfl rfl rfl underlying5 underlying58) ((zAG (show (((b.toNat % 128) % 18446744073709551616 : Nat) : Int) = ((b.toNat % 128 : Nat) : Int) by omega)))) (.a rfl rfl .nil)))))) ?_
   refine zAB ?_
   refine zAB ?_
   refine zAQ (s' := mk [(0, .vs s), (5, .p none (.v (.int .u64 ((n : Nat) : Int)))), (6, .vi (i:Int)), (7, .p none (.v (.int .u64 ((b.toNat % 128 : Nat) : Int)))), (13, .vi (i:Int)), (14, .vb (decide ((i:Int) < 10)))] [] []) ?_ ?_
   · exact zAJ ⟨rfl, rfl, rfl, rfl, rfl, rfl, trivial⟩ trivial trivial rfl
   rcases bfc (decide ((i:Int) = 9)) with h3 | h3
   ·
    have h3' := h3
    replace h3' := of_decide_eq_false h3'
    refine zAA rfl (.m rfl rfl (.r rfl (zAI (zA9 rfl rfl rfl) (zAE h3)) (.m rfl rfl (.not rfl (.not rfl (.not rfl (.not rfl (.r rfl (zAg rfl rfl) .nil)))))))) ?_
    refine zAT (t := false) rfl (fun h => nomatch h) (fun _ => ?_)
    refine zAM ?_
    refine zAB (zAA rfl (.m rfl rfl (.m rfl rfl (.m rfl rfl (.r rfl (zAI (zCw rfl rfl rfl (by omega)) ((zAG (by omega)))) (.r rfl (zAI (zAc (k' := .u64) 18446744073709551616 rfl (7 * i) rfl rfl rfl underlying3 underlying97) ((zAG (show (((7 * i) % 18446744073709551616 : Nat) : Int) = ((7 * i : Nat) : Int) by omega)))) (.r rfl (zCk (k := .u64) 18446744073709551616 rfl (b.toNat % 128) (7 * i) rfl rfl rfl rfl (show _ ≤ 64 by omega)) (.r rfl (zC2 (k := .u64) 18446744073709551616 rfl n (((b.toNat % 128) * 2 ^ (7 * i)) % 18446744073709551616) rfl rfl rfl rfl) (.a rfl rfl .nil)))))))) ?_)
    refine zAB ?_
    refine zAQ (s' := mk [(0, .vs s), (5, .p none (.v (.int .u64 (((n ||| (((b.toNat % 128) * 2 ^ (7 * i)) % 18446744073709551616)) % 18446744073709551616 : Nat) : Int)))), (6, .vi (i:Int)), (13, .vi (i:Int)), (14, .vb (decide ((i:Int) < 10)))] [] []) ?_ ?_
    · exact zAJ ⟨rfl, rfl, rfl, rfl, rfl, trivial⟩ trivial trivial rfl
    refine zAA rfl (.m rfl rfl (.m rfl rfl (.r rfl (zBY rfl rfl rfl underlying9 (by omega) hb) (.r rfl (zAz rfl rfl rfl) .nil)))) ?_
    refine zAT (t := decide ((b.toNat : Int) < 128)) rfl (fun h4 => ?_) (fun h4 => ?_)
    ·
     replace h4 := of_decide_eq_true h4
     refine zAB ?_
     refine zAB ?_
     rcases bfc (decide (0 < (i:Int))) with h5 | h5
     ·
      have h5' := h5
      replace h5' := of_decide_eq_false h5'
      refine zAA rfl (.m rfl rfl (.r rfl (zAI (zBH rfl rfl rfl) (zAE h5)) (.m rfl rfl (.not rfl (.not rfl (.not rfl (.not rfl (.r rfl (zAg rfl rfl) .nil)))))))) ?_
      refine zAT (t := false) rfl (fun h => nomatch h) (fun _ => ?_)
      refine zAM ?_
      refine zAB ?_
      have hZ : zAP s = some ((n ||| ((b.toNat % 128) * 2 ^ (7 * i)) % 18446744073709551616) % 18446744073709551616, s.extract (i + 1) s.size) := hE.symm.trans (zDY hb (by omega) (by omega))
      rw [hZ]
      refine zAQ (s' := mk [(0, .vs s), (5, .p none (.v (.int .u64 (((n ||| (((b.toNat % 128) * 2 ^ (7 * i)) % 18446744073709551616)) % 18446744073709551616 : Nat) : Int)))), (6, .vi (i:Int))] [] []) ?_ ?_
      · exact zAJ ⟨rfl, rfl, rfl, trivial⟩ trivial trivial rfl
      refine zAf zBo rfl (.m rfl rfl (.m rfl rfl (.m rfl rfl (.r rfl (zAI (zAd rfl rfl rfl (by omega)) ((zAG (show (i : Int) + 1 = ((i + 1 : Nat) : Int) by omega)))) (.r rfl (zAv rfl rfl underlying9 (.at_ rfl rfl) .no (by omega) (Nat.le_refl _)) (.a rfl rfl (.a rfl rfl (.a rfl rfl .nil)))))))) (by kernel_rfl) ?_
      refine zAK ?_
      exact ends [_, _, _] [] (.cons (.tmp rfl) (.cons (.tmp rfl) (.cons (.tmp rfl) .nil))) (.cons (.one .v (.v _)) (.cons (.one .v (.v _)) (.cons (.one .v (.v _)) .nil))) (by decide) trivial
     ·
      have h5' := h5
      replace h5' := of_decide_eq_true h5'
      refine zAA rfl (.m rfl rfl (.r rfl (zAI (zBH rfl rfl rfl) (zAE h5)) (.m rfl rfl (.m rfl rfl (.m rfl rfl (.r rfl (zBY rfl rfl rfl underlying9 (by omega) hb) (.r rfl (zA9 rfl rfl rfl) (.r rfl (zAh rfl rfl) .nil)))))))) ?_
      refine zAT (t := decide ((b.toNat : Int) = 0)) rfl (fun h6 => ?_) (fun h6 => ?_)
      ·
       replace h6 := of_decide_eq_true h6
       refine zAB ?_
       have hZ : zAP s = none := hE.symm.trans (zFV hb (by omega) (.inl (by omega)))
       rw [hZ]
       refine zAA rfl (.a rfl rfl (.a rfl rfl (.a rfl rfl .nil))) ?_
       refine zAK ?_
       exact ends [_, _, _] [] (.cons (.tmp rfl) (.cons (.tmp rfl) (.cons (.tmp rfl) .nil))) (.cons (.one .v (.v _)) (.cons (.one .v (.v _)) (.cons (.one .v (.v _)) .nil))) (by decide) trivial
      ·
       replace h6 := of_decide_eq_false h6
       refine zAM ?_
       refine zAB ?_
       have hZ : zAP s = some ((n ||| ((b.toNat % 128) * 2 ^ (7 * i)) % 18446744073709551616) % 18446744073709551616, s.extract (i + 1) s.size) := hE.symm.trans (zDY hb (by omega) (by omega))
       rw [hZ]
       refine zAQ (s' := mk [(0, .vs s), (5, .p none (.v (.int .u64 (((n ||| (((b.toNat % 128) * 2 ^ (7 * i)) % 18446744073709551616)) % 18446744073709551616 : Nat) : Int)))), (6, .vi (i:Int))] [] []) ?_ ?_
       · exact zAJ ⟨rfl, rfl, rfl, trivial⟩ trivial trivial rfl
       refine zAf zBo rfl (.m rfl rfl (.m rfl rfl (.m rfl rfl (.r rfl (zAI (zAd rfl rfl rfl (by omega)) ((zAG (show (i : Int) + 1 = ((i + 1 : Nat) : Int) by omega)))) (.r rfl (zAv rfl rfl underlying9 (.at_ rfl rfl) .no (by omega) (Nat.le_refl _)) (.a rfl rfl (.a rfl rfl (.a rfl rfl .nil)))))))) (by kernel_rfl) ?_
       refine zAK ?_
       exact ends [_, _, _] [] (.cons (.tmp rfl) (.cons (.tmp rfl) (.cons (.tmp rfl) .nil))) (.cons (.one .v (.v _)) (.cons (.one .v (.v _)) (.cons (.one .v (.v _)) .nil))) (by decide) trivial
    ·
     replace h4 := of_decide_eq_false h4
     refine zAM ?_
     refine zAA rfl (.m rfl rfl (.r rfl (zAd rfl rfl rfl (by omega)) (.a rfl rfl .nil))) ?_
     refine nxt (Q := fun _ _ => False) (z := (i, n)) (i + 1, (n ||| ((b.toNat % 128) * 2 ^ (7 * i)) % 18446744073709551616) % 18446744073709551616) ?_ ?_ ?_
     ·
      show ((i + 1) ≤ 10 ∧ ((n ||| ((b.toNat % 128) * 2 ^ (7 * i)) % 18446744073709551616) % 18446744073709551616) < 18446744073709551616) ∧ tvG s (10 - (i + 1)) (i + 1) ((n ||| ((b.toNat % 128) * 2 ^ (7 * i)) % 18446744073709551616) % 18446744073709551616) = zAP s
      exact ⟨⟨by omega, Nat.mod_lt _ (by decide)⟩, by rw [show 10 - (i + 1) = 9 - i by omega]; exact (zDx hb (by omega)).symm.trans hE⟩
     ·
      show 10 - (i + 1) < 10 - i
      omega
     · exact zAJ ⟨rfl, rfl, (zAG (by omega)), trivial⟩ trivial trivial rfl
   ·
    have h3' := h3
    replace h3' := of_decide_eq_true h3'
    refine zAA rfl (.m rfl rfl (.r rfl (zAI (zA9 rfl rfl rfl) (zAE h3)) (.m rfl rfl (.m rfl rfl (.m rfl rfl (.r rfl (zBY rfl rfl rfl underlying9 (by omega) hb) (.r rfl (zBH rfl rfl rfl) (.r rfl (zAh rfl rfl) .nil)))))))) ?_
    refine zAT (t := decide (1 < (b.toNat : Int))) rfl (fun h7 => ?_) (fun h7 => ?_)
    ·
     replace h7 := of_decide_eq_true h7
     refine zAB ?_
     have hZ : zAP s = none := by
      have h9 : i = 9 := by omega
      subst h9
      exact hE.symm.trans (tvG_9 hb (by omega))
     rw [hZ]
     refine zAA rfl (.a rfl rfl (.a rfl rfl (.a rfl rfl .nil))) ?_
     refine zAK ?_
     exact ends [_, _, _] [] (.cons (.tmp rfl) (.cons (.tmp rfl) (.cons (.tmp rfl) .nil))) (.cons (.one .v (.v _)) (.cons (.one .v (.v _)) (.cons (.one .v (.v _)) .nil))) (by decide) trivial
    ·
     replace h7 := of_decide_eq_false h7
     refine zAM ?_
     refine zAB (zAA rfl (.m rfl rfl (.m rfl rfl (.m rfl rfl (.r rfl (zAI (zCw rfl rfl rfl (by omega)) ((zAG (by omega)))) (.r rfl (zAI (zAc (k' := .u64) 18446744073709551616 rfl (7 * i) rfl rfl rfl underlying3 underlying97) ((zAG (show (((7 * i) % 18446744073709551616 : Nat) : Int) = ((7 * i : Nat) : Int) by omega)))) (.r rfl (zCk (k := .u64) 18446744073709551616 rfl (b.toNat % 128) (7 * i) rfl rfl rfl rfl (show _ ≤ 64 by omega)) (.r rfl (zC2 (k := .u64) 18446744073709551616 rfl n (((b.toNat % 128) * 2 ^ (7 * i)) % 18446744073709551616) rfl rfl rfl rfl) (.a rfl rfl .nil)))))))) ?_)
     refine zAB ?_
     refine zAQ (s' := mk [(0, .vs s), (5, .p none (.v (.int .u64 (((n ||| (((b.toNat % 128) * 2 ^ (7 * i)) % 18446744073709551616)) % 18446744073709551616 : Nat) : Int)))), (6, .vi (i:Int)), (13, .vi (i:Int)), (14, .vb (decide ((i:Int) < 10))), (26, .vs s), (27, .vi (i:Int)), (28, .p none (.v (.int .u8 (b.toNat : Int)))), (29, .vb (decide (1 < (b.toNat : Int))))] [] []) ?_ ?_
     · exact zAJ ⟨rfl, rfl, rfl, rfl, rfl, rfl, rfl, rfl, rfl, trivial⟩ trivial trivial rfl
     refine zAA rfl (.m rfl rfl (.m rfl rfl (.r rfl (zBY rfl rfl rfl underlying9 (by omega) hb) (.r rfl (zAz rfl rfl rfl) .nil)))) ?_
     refine zAT (t := decide ((b.toNat : Int) < 128)) rfl (fun h8 => ?_) (fun h8 => ?_)
     ·
      replace h8 := of_decide_eq_true h8
      refine zAB ?_
      refine zAB ?_
      rcases bfc (decide (0 < (i:Int))) with h9 | h9
      ·
       have h9' := h9
       replace h9' := of_decide_eq_false h9'
       refine zAA rfl (.m rfl rfl (.r rfl (zAI (zBH rfl rfl rfl) (zAE h9)) (.m rfl rfl (.not rfl (.not rfl (.not rfl (.not rfl (.r rfl (zAg rfl rfl) .nil)))))))) ?_
       refine zAT (t := false) rfl (fun h => nomatch h) (fun _ => ?_)
       refine zAM ?_
       refine zAB ?_
       have hZ : zAP s = some ((n ||| ((b.toNat % 128) * 2 ^ (7 * i)) % 18446744073709551616) % 18446744073709551616, s.extract (i + 1) s.size) := hE.symm.trans (zDY hb (by omega) (by omega))
       rw [hZ]
       refine zAQ (s' := mk [(0, .vs s), (5, .p none (.v (.int .u64 (((n ||| (((b.toNat % 128) * 2 ^ (7 * i)) % 18446744073709551616)) % 18446744073709551616 : Nat) : Int)))), (6, .vi (i:Int))] [] []) ?_ ?_
       · exact zAJ ⟨rfl, rfl, rfl, trivial⟩ trivial trivial rfl
       refine zAf zBo rfl (.m rfl rfl (.m rfl rfl (.m rfl rfl (.r rfl (zAI (zAd rfl rfl rfl (by omega)) ((zAG (show (i : Int) + 1 = ((i + 1 : Nat) : Int) by omega)))) (.r rfl (zAv rfl rfl underlying9 (.at_ rfl rfl) .no (by omega) (Nat.le_refl _)) (.a rfl rfl (.a rfl rfl (.a rfl rfl .nil)))))))) (by kernel_rfl) ?_
       refine zAK ?_
       exact ends [_, _, _] [] (.cons (.tmp rfl) (.cons (.tmp rfl) (.cons (.tmp rfl) .nil))) (.cons (.one .v (.v _)) (.cons (.one .v (.v _)) (.cons (.one .v (.v _)) .nil))) (by decide) trivial
      ·
       have h9' := h9
       replace h9' := of_decide_eq_true h9'
       refine zAA rfl (.m rfl rfl (.r rfl (zAI (zBH rfl rfl rfl) (zAE h9)) (.m rfl rfl (.m rfl rfl (.m rfl rfl (.r rfl (zBY rfl rfl rfl underlying9 (by omega) hb) (.r rfl (zA9 rfl rfl rfl) (.r rfl (zAh rfl rfl) .nil)))))))) ?_
       refine zAT (t := decide ((b.toNat : Int) = 0)) rfl (fun h10 => ?_) (fun h10 => ?_)
       ·
        replace h10 := of_decide_eq_true h10
        refine zAB ?_
        have hZ : zAP s = none := hE.symm.trans (zFV hb (by omega) (.inl (by omega)))
        rw [hZ]
        refine zAA rfl (.a rfl rfl (.a rfl rfl (.a rfl rfl .nil))) ?_
        refine zAK ?_
        exact ends [_, _, _] [] (.cons (.tmp rfl) (.cons (.tmp rfl) (.cons (.tmp rfl) .nil))) (.cons (.one .v (.v _)) (.cons (.one .v (.v _)) (.cons (.one .v (.v _)) .nil))) (by decide) trivial
       ·
        replace h10 := of_decide_eq_false h10
        refine zAM ?_
        refine zAB ?_
        have hZ : zAP s = some ((n ||| ((b.toNat % 128) * 2 ^ (7 * i)) % 18446744073709551616) % 18446744073709551616, s.extract (i + 1) s.size) := hE.symm.trans (zDY hb (by omega) (by omega))
        rw [hZ]
        refine zAQ (s' := mk [(0, .vs s), (5, .p none (.v (.int .u64 (((n ||| (((b.toNat % 128) * 2 ^ (7 * i)) % 18446744073709551616)) % 18446744073709551616 : Nat) : Int)))), (6, .vi (i:Int))] [] []) ?_ ?_
        · exact zAJ ⟨rfl, rfl, rfl, trivial⟩ trivial trivial rfl
        refine zAf zBo rfl (.m rfl rfl (.m rfl rfl (.m rfl rfl (.r rfl (zAI (zAd rfl rfl rfl (by omega)) ((zAG (show (i : Int) + 1 = ((i + 1 : Nat) : Int) by omega)))) (.r rfl (zAv rfl rfl underlying9 (.at_ rfl rfl) .no (by omega) (Nat.le_refl _)) (.a rfl rfl (.a rfl rfl (.a rfl rfl .nil)))))))) (by kernel_rfl) ?_
        refine zAK ?_
        exact ends [_, _, _] [] (.cons (.tmp rfl) (.cons (.tmp rfl) (.cons (.tmp rfl) .nil))) (.cons (.one .v (.v _)) (.cons (.one .v (.v _)) (.cons (.one .v (.v _)) .nil))) (by decide) trivial
     ·
      replace h8 := of_decide_eq_false h8
      refine zAM ?_
      refine zAA rfl (.m rfl rfl (.r rfl (zAd rfl rfl rfl (by omega)) (.a rfl rfl .nil))) ?_
      refine nxt (Q := fun _ _ => False) (z := (i, n)) (i + 1, (n ||| ((b.toNat % 128) * 2 ^ (7 * i)) % 18446744073709551616) % 18446744073709551616) ?_ ?_ ?_
      ·
       show ((i + 1) ≤ 10 ∧ ((n ||| ((b.toNat % 128) * 2 ^ (7 * i)) % 18446744073709551616) % 18446744073709551616) < 18446744073709551616) ∧ tvG s (10 - (i + 1)) (i + 1) ((n ||| ((b.toNat % 128) * 2 ^ (7 * i)) % 18446744073709551616) % 18446744073709551616) = zAP s
       exact ⟨⟨by omega, Nat.mod_lt _ (by decide)⟩, by rw [show 10 - (i + 1) = 9 - i by omega]; exact (zDx hb (by omega)).symm.trans hE⟩
      ·
       show 10 - (i + 1) < 10 - i
       omega
      · exact zAJ ⟨rfl, rfl, (zAG (by omega)), trivial⟩ trivial trivial rfl
  ·
   replace h2 := of_decide_eq_false h2
   refine zAn ?_
   refine zAB ?_
   have hZ : zAP s = none := hE.symm.trans (by first | exact zHs (by omega) | (rw [show 10 - i = 0 by omega]; rfl))
   rw [hZ]
   refine zAA rfl (.a rfl rfl (.a rfl rfl (.a rfl rfl .nil))) ?_
   refine zAK ?_
   exact ends [_, _, _] [] (.cons (.tmp rfl) (.cons (.tmp rfl) (.cons (.tmp rfl) .nil))) (.cons (.one .v (.v _)) (.cons (.one .v (.v _)) (.cons (.one .v (.v _)) .nil))) (by decide) trivial
theorem zD0 (s : ByteArray) (hs : s.size ≤ 9000000000000000000) : Con Tryz.prog 118 [.one (PV.v (.string s))] [] [.one (.v (.int .u32 ((tvN (zBM s) : Nat) : Int))), .one (.v (.string (tvR (zBM s)))), .one (.v (.bool ((zBM s).isSome)))] := by
 refine zAR func118 rfl rfl rfl rfl ?_
 refine zAB (zAA rfl (.a rfl rfl (.a rfl rfl (.a rfl rfl .nil))) ?_)
 refine zAB ?_
 refine zAB (zAA rfl (.m rfl rfl (.r rfl (zAO rfl rfl underlying9) (.r rfl (zAz rfl rfl rfl) .nil))) ?_)
 refine zAT (t := decide ((s.size : Int) < 4)) rfl (fun h1 => ?_) (fun h1 => ?_)
 ·
  replace h1 := of_decide_eq_true h1
  refine zAB ?_
  rw [zL2 (s := s) (by omega)]
  refine zAA rfl (.a rfl rfl (.a rfl rfl (.a rfl rfl .nil))) ?_
  refine zAK ?_
  exact ends [_, _, _] [] (.cons (.tmp (zAG rfl)) (.cons (.tmp rfl) (.cons (.tmp rfl) .nil))) (.cons (.one .v (.v _)) (.cons (.one .v (.v _)) (.cons (.one .v (.v _)) .nil))) (by decide) trivial
 ·
  replace h1 := of_decide_eq_false h1
  refine zAM ?_
  refine zAB ?_
  rw [zC8 (s := s) (by omega)]
  refine zAQ (s' := mk [(0, .vs s)] [] []) ?_ ?_
  · exact zAJ ⟨rfl, trivial⟩ trivial trivial rfl
  refine zAf zBo rfl (.m rfl rfl (.r rfl (zBY rfl rfl rfl underlying9 (by omega) (zCD (by omega))) (.r rfl (zAI (zAc (k' := .u32) 4294967296 rfl ((s[0]?.getD 0).toNat) rfl rfl rfl underlying5 underlying69) ((zAG (show (((s[0]?.getD 0).toNat % 4294967296 : Nat) : Int) = ((zB5 s 0 : Nat) : Int) by rw [zDC])))) (.m rfl rfl (.r rfl (zBY rfl rfl rfl underlying9 (by omega) (zCD (by omega))) (.r rfl (zAI (zAc (k' := .u32) 4294967296 rfl ((s[1]?.getD 0).toNat) rfl rfl rfl underlying5 underlying69) ((zAG (show (((s[1]?.getD 0).toNat % 4294967296 : Nat) : Int) = ((zB5 s 1 : Nat) : Int) by rw [zDC])))) (.r rfl (zCk (k := .u32) 4294967296 rfl (zB5 s 1) 8 rfl rfl rfl rfl (by decide)) (.r rfl (zC2 (k := .u32) 4294967296 rfl (zB5 s 0) (((zB5 s 1) * 2 ^ 8) % 4294967296) rfl rfl rfl rfl) (.m rfl rfl (.r rfl (zBY rfl rfl rfl underlying9 (by omega) (zCD (by omega))) (.r rfl (zAI (zAc (k' := .u32) 4294967296 rfl ((s[2]?.getD 0).toNat) rfl rfl rfl underlying5 underlying69) ((zAG (show (((s[2]?.getD 0).toNat % 4294967296 : Nat) : Int) = ((zB5 s 2 : Nat) : Int) by rw [zDC])))) (.r rfl (zCk (k := .u32) 4294967296 rfl (zB5 s 2) 16 rfl rfl rfl rfl (by decide)) (.r rfl (zC2 (k := .u32) 4294967296 rfl (((zB5 s 0) ||| (((zB5 s 1) * 2 ^ 8) % 4294967296)) % 4294967296) (((zB5 s 2) * 2 ^ 16) % 4294967296) rfl rfl rfl rfl) (.m rfl rfl (.r rfl (zBY rfl rfl rfl underlying9 (by omega) (zCD (by omega))) (.r rfl (zAI (zAc (k' := .u32) 4294967296 rfl ((s[3]?.getD 0).toNat) rfl rfl rfl underlying5 underlying69) ((zAG (show (((s[3]?.getD 0).toNat % 4294967296 : Nat) : Int) = ((zB5 s 3 : Nat) : Int) by rw [zDC])))) (.r rfl (zCk (k := .u32) 4294967296 rfl (zB5 s 3) 24 rfl rfl rfl rfl (by decide)) (.r rfl (zC2 (k := .u32) 4294967296 rfl (((((zB5 s 0) ||| (((zB5 s 1) * 2 ^ 8) % 4294967296)) % 4294967296) ||| (((zB5 s 2) * 2 ^ 16) % 4294967296)) % 4294967296) (((zB5 s 3) * 2 ^ 24) % 4294967296) rfl rfl rfl rfl) (.m rfl rfl (.r rfl (zAv rfl rfl underlying9 (.at_ rfl (show (4 : Int) = ((4 : Nat) : Int) from rfl)) .no (by omega) (Nat.le_refl _)) (.a rfl rfl (.a rfl rfl (.a rfl rfl .nil))))))))))))))))))))))) (by kernel_rfl) ?_
  refine zAK ?_
  exact ends [_, _, _] [] (.cons (.tmp (zAG rfl)) (.cons (.tmp rfl) (.cons (.tmp rfl) .nil))) (.cons (.one .v (.v _)) (.cons (.one .v (.v _)) (.cons (.one .v (.v _)) .nil))) (by decide) trivial
theorem zCQ (s : ByteArray) (hs : s.size ≤ 9000000000000000000) : Con Tryz.prog 89 [.one (PV.v (.string s))] [] [.one (.v (.int .u32 ((tvN (zBM s) : Nat) : Int))), .one (.v (.string (tvR (zBM s)))), .one (.v (.bool ((zBM s).isSome)))] := by
 refine zAR func89 rfl rfl rfl rfl ?_
 refine zAB (zAA rfl (.a rfl rfl (.a rfl rfl (.a rfl rfl .nil))) ?_)
 refine zAB ?_
 refine zAB (zAA rfl (.m rfl rfl (.r rfl (zAO rfl rfl underlying9) (.r rfl (zAz rfl rfl rfl) .nil))) ?_)
 refine zAT (t := decide ((s.size : Int) < 4)) rfl (fun h1 => ?_) (fun h1 => ?_)
 ·
  replace h1 := of_decide_eq_true h1
  refine zAB ?_
  rw [zL2 (s := s) (by omega)]
  refine zAA rfl (.a rfl rfl (.a rfl rfl (.a rfl rfl .nil))) ?_
  refine zAK ?_
  exact ends [_, _, _] [] (.cons (.tmp (zAG rfl)) (.cons (.tmp rfl) (.cons (.tmp rfl) .nil))) (.cons (.one .v (.v _)) (.cons (.one .v (.v _)) (.cons (.one .v (.v _)) .nil))) (by decide) trivial
 ·
  replace h1 := of_decide_eq_false h1
  refine zAM ?_
  refine zAB ?_
  rw [zC8 (s := s) (by omega)]
  refine zAQ (s' := mk [(0, .vs s)] [] []) ?_ ?_
  · exact zAJ ⟨rfl, trivial⟩ trivial trivial rfl
  refine zAf zBo rfl (.m rfl rfl (.r rfl (zBY rfl rfl rfl underlying9 (by omega) (zCD (by omega))) (.r rfl (zAI (zAc (k' := .u32) 4294967296 rfl ((s[0]?.getD 0).toNat) rfl rfl rfl underlying5 underlying69) ((zAG (show (((s[0]?.getD 0).toNat % 4294967296 : Nat) : Int) = ((zB5 s 0 : Nat) : Int) by rw [zDC])))) (.m rfl rfl (.r rfl (zBY rfl rfl rfl underlying9 (by omega) (zCD (by omega))) (.r rfl (zAI (zAc (k' := .u32) 4294967296 rfl ((s[1]?.getD 0).toNat) rfl rfl rfl underlying5 underlying69) ((zAG (show (((s[1]?.getD 0).toNat % 4294967296 : Nat) : Int) = ((zB5 s 1 : Nat) : Int) by rw [zDC])))) (.r rfl (zCk (k := .u32) 4294967296 rfl (zB5 s 1) 8 rfl rfl rfl rfl (by decide)) (.r rfl (zC2 (k := .u32) 4294967296 rfl (zB5 s 0) (((zB5 s 1) * 2 ^ 8) % 4294967296) rfl rfl rfl rfl) (.m rfl rfl (.r rfl (zBY rfl rfl rfl underlying9 (by omega) (zCD (by omega))) (.r rfl (zAI (zAc (k' := .u32) 4294967296 rfl ((s[2]?.getD 0).toNat) rfl rfl rfl underlying5 underlying69) ((zAG (show (((s[2]?.getD 0).toNat % 4294967296 : Nat) : Int) = ((zB5 s 2 : Nat) : Int) by rw [zDC])))) (.r rfl (zCk (k := .u32) 4294967296 rfl (zB5 s 2) 16 rfl rfl rfl rfl (by decide)) (.r rfl (zC2 (k := .u32) 4294967296 rfl (((zB5 s 0) ||| (((zB5 s 1) * 2 ^ 8) % 4294967296)) % 4294967296) (((zB5 s 2) * 2 ^ 16) % 4294967296) rfl rfl rfl rfl) (.m rfl rfl (.r rfl (zBY rfl rfl rfl underlying9 (by omega) (zCD (by omega))) (.r rfl (zAI (zAc (k' := .u32) 4294967296 rfl ((s[3]?.getD 0).toNat) rfl rfl rfl underlying5 underlying69) ((zAG (show (((s[3]?.getD 0).toNat % 4294967296 : Nat) : Int) = ((zB5 s 3 : Nat) : Int) by rw [zDC])))) (.r rfl (zCk (k := .u32) 4294967296 rfl (zB5 s 3) 24 rfl rfl rfl rfl (by decide)) (.r rfl (zC2 (k := .u32) 4294967296 rfl (((((zB5 s 0) ||| (((zB5 s 1) * 2 ^ 8) % 4294967296)) % 4294967296) ||| (((zB5 s 2) * 2 ^ 16) % 4294967296)) % 4294967296) (((zB5 s 3) * 2 ^ 24) % 4294967296) rfl rfl rfl rfl) (.m rfl rfl (.r rfl (zAv rfl rfl underlying9 (.at_ rfl (show (4 : Int) = ((4 : Nat) : Int) from rfl)) .no (by omega) (Nat.le_refl _)) (.a rfl rfl (.a rfl rfl (.a rfl rfl .nil))))))))))))))))))))))) (by kernel_rfl) ?_
  refine zAK ?_
  exact ends [_, _, _] [] (.cons (.tmp (zAG rfl)) (.cons (.tmp rfl) (.cons (.tmp rfl) .nil))) (.cons (.one .v (.v _)) (.cons (.one .v (.v _)) (.cons (.one .v (.v _)) .nil))) (by decide) trivial
theorem zIl (s : ByteArray) (hs : s.size ≤ 9000000000000000000) : Con Tryz.prog 135 [.one (PV.v (.string s))] [] [.one (.v (.string (txX (zAX s)))), .one (.v (.string (txR (zAX s)))), .one (.v (.bool ((zAX s).isSome)))] := by
 refine zAR func135 rfl rfl rfl rfl ?_
 refine zAB (zAA rfl (.a rfl rfl (.a rfl rfl (.a rfl rfl .nil))) ?_)
 refine zAB (zAA rfl (.m rfl rfl (.run [1000, 1001, 1002] [] rfl (zAF rfl 1000 (X := []) en121 rfl (.val nod) (.cons (.one (.bor .v)) .nil) (by decide) all_nil .nil (zGJ s (by omega)) rfl rfl (nle rfl)) (.m rfl rfl (.r rfl (zAH rfl rfl rfl) (.r rfl (zAH rfl rfl rfl) (.r rfl (zAH rfl rfl rfl) (.a rfl rfl (.a rfl rfl (.a rfl rfl .nil))))))))) ?_)
 refine zAB ?_
 refine zAB ?_
 have htn := zLw s
 have htr := zFn s
 refine zAQ (s' := mk [(5, .p none (.v (.int .u64 ((tvN (zAP s) : Nat) : Int)))), (6, .vs (tvR (zAP s))), (7, .vb ((zAP s).isSome))] [] []) ?_ ?_
 · exact zAJ ⟨rfl, rfl, rfl, trivial⟩ trivial trivial rfl
 rcases bfc (!((zAP s).isSome)) with h1 | h1
 ·
  have h1' := h1
  replace h1' : ((zAP s).isSome) = true := zAq h1'
  rcases bfc (decide (60000 < ((tvN (zAP s) : Nat) : Int))) with h2 | h2
  ·
   have h2' := h2
   replace h2' := of_decide_eq_false h2'
   refine zAA rfl (.m rfl rfl (.r rfl (zAI (zAa (b := (zAP s).isSome) rfl rfl) (zAE h1)) (.m rfl rfl (.m rfl rfl (.r rfl (zAI (zBH rfl rfl rfl) (zAE h2)) (.r rfl (zAg rfl rfl) (.m rfl rfl (.m rfl rfl (.m rfl rfl (.r rfl (zAO rfl rfl underlying9) (.r rfl (zAI (zAc (k' := .u64) 18446744073709551616 rfl ((tvR (zAP s)).size) rfl rfl rfl underlying3 underlying58) ((zAG (show (((tvR (zAP s)).size % 18446744073709551616 : Nat) : Int) = (((tvR (zAP s)).size : Nat) : Int) by omega)))) (.r rfl (zBH rfl rfl rfl) (.r rfl (zAg rfl rfl) .nil))))))))))))) ?_
   refine zAT (t := decide ((((tvR (zAP s)).size : Nat) : Int) < ((tvN (zAP s) : Nat) : Int))) rfl (fun h3 => ?_) (fun h3 => ?_)
   ·
    replace h3 := of_decide_eq_true h3
    refine zAB ?_
    rw [zHt (s := s) h1' (by omega)]
    refine zAA rfl (.a rfl rfl (.a rfl rfl (.a rfl rfl .nil))) ?_
    refine zAK ?_
    exact ends [_, _, _] [] (.cons (.tmp rfl) (.cons (.tmp rfl) (.cons (.tmp rfl) .nil))) (.cons (.one .v (.v _)) (.cons (.one .v (.v _)) (.cons (.one .v (.v _)) .nil))) (by decide) trivial
   ·
    replace h3 := of_decide_eq_false h3
    refine zAM ?_
    refine zAB ?_
    rw [zLz (s := s) h1' (by omega)]
    refine zAQ (s' := mk [(5, .p none (.v (.int .u64 ((tvN (zAP s) : Nat) : Int)))), (6, .vs (tvR (zAP s)))] [] []) ?_ ?_
    · exact zAJ ⟨rfl, rfl, trivial⟩ trivial trivial rfl
    refine zAf zBo rfl (.m rfl rfl (.m rfl rfl (.r rfl (zAv rfl rfl underlying9 .no (.at_ rfl rfl) (Nat.zero_le _) (by omega)) (.m rfl rfl (.m rfl rfl (.r rfl (zAv rfl rfl underlying9 (.at_ rfl rfl) .no (by omega) (Nat.le_refl _)) (.a rfl rfl (.a rfl rfl (.a rfl rfl .nil))))))))) (by kernel_rfl) ?_
    refine zAK ?_
    exact ends [_, _, _] [] (.cons (.tmp rfl) (.cons (.tmp rfl) (.cons (.tmp rfl) .nil))) (.cons (.one .v (.v _)) (.cons (.one .v (.v _)) (.cons (.one .v (.v _)) .nil))) (by decide) trivial
  ·
   have h2' := h2
   replace h2' := of_decide_eq_true h2'
   refine zAA rfl (.m rfl rfl (.r rfl (zAI (zAa (b := (zAP s).isSome) rfl rfl) (zAE h1)) (.m rfl rfl (.m rfl rfl (.r rfl (zAI (zBH rfl rfl rfl) (zAE h2)) (.r rfl (zAg rfl rfl) (.m rfl rfl (.not rfl (.not rfl (.not rfl (.not rfl (.not rfl (.r rfl (zAh rfl rfl) .nil))))))))))))) ?_
   refine zAT (t := true) rfl (fun _ => ?_) (fun h => nomatch h)
   refine zAB ?_
   rw [zHt (s := s) h1' (by omega)]
   refine zAA rfl (.a rfl rfl (.a rfl rfl (.a rfl rfl .nil))) ?_
   refine zAK ?_
   exact ends [_, _, _] [] (.cons (.tmp rfl) (.cons (.tmp rfl) (.cons (.tmp rfl) .nil))) (.cons (.one .v (.v _)) (.cons (.one .v (.v _)) (.cons (.one .v (.v _)) .nil))) (by decide) trivial
 ·
  have h1' := h1
  replace h1' : ((zAP s).isSome) = false := zAp h1'
  refine zAA rfl (.m rfl rfl (.r rfl (zAI (zAa (b := (zAP s).isSome) rfl rfl) (zAE h1)) (.m rfl rfl (.not rfl (.not rfl (.r rfl (zAh rfl rfl) (.m rfl rfl (.not rfl (.not rfl (.not rfl (.not rfl (.not rfl (.r rfl (zAh rfl rfl) .nil))))))))))))) ?_
  refine zAT (t := true) rfl (fun _ => ?_) (fun h => nomatch h)
  refine zAB ?_
  rw [zL0 (s := s) h1']
  refine zAA rfl (.a rfl rfl (.a rfl rfl (.a rfl rfl .nil))) ?_
  refine zAK ?_
  exact ends [_, _, _] [] (.cons (.tmp rfl) (.cons (.tmp rfl) (.cons (.tmp rfl) .nil))) (.cons (.one .v (.v _)) (.cons (.one .v (.v _)) (.cons (.one .v (.v _)) .nil))) (by decide) trivial
theorem zDH (s : ByteArray) (hs : s.size ≤ 9000000000000000000) : Con Tryz.prog 90 [.one (PV.v (.string s))] [] [.one (.v (.string (txX (zAX s)))), .one (.v (.string (txR (zAX s)))), .one (.v (.bool ((zAX s).isSome)))] := by
 refine zAR func90 rfl rfl rfl rfl ?_
 refine zAB (zAA rfl (.a rfl rfl (.a rfl rfl (.a rfl rfl .nil))) ?_)
 refine zAB (zAA rfl (.m rfl rfl (.run [1000, 1001, 1002] [] rfl (zAF rfl 1000 (X := []) en91 rfl (.val nod) (.cons (.one (.bor .v)) .nil) (by decide) all_nil .nil (zB3 s (by omega)) rfl rfl (nle rfl)) (.m rfl rfl (.r rfl (zAH rfl rfl rfl) (.r rfl (zAH rfl rfl rfl) (.r rfl (zAH rfl rfl rfl) (.a rfl rfl (.a rfl rfl (.a rfl rfl .nil))))))))) ?_)
 refine zAB ?_
 refine zAB ?_
 have htn := zLw s
 have htr := zFn s
 refine zAQ (s' := mk [(5, .p none (.v (.int .u64 ((tvN (zAP s) : Nat) : Int)))), (6, .vs (tvR (zAP s))), (7, .vb ((zAP s).isSome))] [] []) ?_ ?_
 · exact zAJ ⟨rfl, rfl, rfl, trivial⟩ trivial trivial rfl
 rcases bfc (!((zAP s).isSome)) with h1 | h1
 ·
  have h1' := h1
  replace h1' : ((zAP s).isSome) = true := zAq h1'
  rcases bfc (decide (60000 < ((tvN (zAP s) : Nat) : Int))) with h2 | h2
  ·
   have h2' := h2
   replace h2' := of_decide_eq_false h2'
   refine zAA rfl (.m rfl rfl (.r rfl (zAI (zAa (b := (zAP s).isSome) rfl rfl) (zAE h1)) (.m rfl rfl (.m rfl rfl (.r rfl (zAI (zBH rfl rfl rfl) (zAE h2)) (.r rfl (zAg rfl rfl) (.m rfl rfl (.m rfl rfl (.m rfl rfl (.r rfl (zAO rfl rfl underlying9) (.r rfl (zAI (zAc (k' := .u64) 18446744073709551616 rfl ((tvR (zAP s)).size) rfl rfl rfl underlying3 underlying58) ((zAG (show (((tvR (zAP s)).size % 18446744073709551616 : Nat) : Int) = (((tvR (zAP s)).size : Nat) : Int) by omega)))) (.r rfl (zBH rfl rfl rfl) (.r rfl (zAg rfl rfl) .nil))))))))))))) ?_
   refine zAT (t := decide ((((tvR (zAP s)).size : Nat) : Int) < ((tvN (zAP s) : Nat) : Int))) rfl (fun h3 => ?_) (fun h3 => ?_)
   ·
    replace h3 := of_decide_eq_true h3
    refine zAB ?_
    rw [zHt (s := s) h1' (by omega)]
    refine zAA rfl (.a rfl rfl (.a rfl rfl (.a rfl rfl .nil))) ?_
    refine zAK ?_
    exact ends [_, _, _] [] (.cons (.tmp rfl) (.cons (.tmp rfl) (.cons (.tmp rfl) .nil))) (.cons (.one .v (.v _)) (.cons (.one .v (.v _)) (.cons (.one .v (.v _)) .nil))) (by decide) trivial
   ·
    replace h3 := of_decide_eq_false h3
    refine zAM ?_
    refine zAB ?_
    rw [zLz (s := s) h1' (by omega)]
    refine zAQ (s' := mk [(5, .p none (.v (.int .u64 ((tvN (zAP s) : Nat) : Int)))), (6, .vs (tvR (zAP s)))] [] []) ?_ ?_
    · exact zAJ ⟨rfl, rfl, trivial⟩ trivial trivial rfl
    refine zAf zBo rfl (.m rfl rfl (.m rfl rfl (.r rfl (zAv rfl rfl underlying9 .no (.at_ rfl rfl) (Nat.zero_le _) (by omega)) (.m rfl rfl (.m rfl rfl (.r rfl (zAv rfl rfl underlying9 (.at_ rfl rfl) .no (by omega) (Nat.le_refl _)) (.a rfl rfl (.a rfl rfl (.a rfl rfl .nil))))))))) (by kernel_rfl) ?_
    refine zAK ?_
    exact ends [_, _, _] [] (.cons (.tmp rfl) (.cons (.tmp rfl) (.cons (.tmp rfl) .nil))) (.cons (.one .v (.v _)) (.cons (.one .v (.v _)) (.cons (.one .v (.v _)) .nil))) (by decide) trivial
  ·
   have h2' := h2
   replace h2' := of_decide_eq_true h2'
   refine zAA rfl (.m rfl rfl (.r rfl (zAI (zAa (b := (zAP s).isSome) rfl rfl) (zAE h1)) (.m rfl rfl (.m rfl rfl (.r rfl (zAI (zBH rfl rfl rfl) (zAE h2)) (.r rfl (zAg rfl rfl) (.m rfl rfl (.not rfl (.not rfl (.not rfl (.not rfl (.not rfl (.r rfl (zAh rfl rfl) .nil))))))))))))) ?_
   refine zAT (t := true) rfl (fun _ => ?_) (fun h => nomatch h)
   refine zAB ?_
   rw [zHt (s := s) h1' (by omega)]
   refine zAA rfl (.a rfl rfl (.a rfl rfl (.a rfl rfl .nil))) ?_
   refine zAK ?_
   exact ends [_, _, _] [] (.cons (.tmp rfl) (.cons (.tmp rfl) (.cons (.tmp rfl) .nil))) (.cons (.one .v (.v _)) (.cons (.one .v (.v _)) (.cons (.one .v (.v _)) .nil))) (by decide) trivial
 ·
  have h1' := h1
  replace h1' : ((zAP s).isSome) = false := zAp h1'
  refine zAA rfl (.m rfl rfl (.r rfl (zAI (zAa (b := (zAP s).isSome) rfl rfl) (zAE h1)) (.m rfl rfl (.not rfl (.not rfl (.r rfl (zAh rfl rfl) (.m rfl rfl (.not rfl (.not rfl (.not rfl (.not rfl (.not rfl (.r rfl (zAh rfl rfl) .nil))))))))))))) ?_
  refine zAT (t := true) rfl (fun _ => ?_) (fun h => nomatch h)
  refine zAB ?_
  rw [zL0 (s := s) h1']
  refine zAA rfl (.a rfl rfl (.a rfl rfl (.a rfl rfl .nil))) ?_
  refine zAK ?_
  exact ends [_, _, _] [] (.cons (.tmp rfl) (.cons (.tmp rfl) (.cons (.tmp rfl) .nil))) (.cons (.one .v (.v _)) (.cons (.one .v (.v _)) (.cons (.one .v (.v _)) .nil))) (by decide) trivial
end Go.Rl
namespace Go.Rl
theorem sS_ne {s : ByteArray} {b : Bool} (h : ¬ fV (xS s b).1 = crcF (xV s)) : sS s b = ((fS (xS s b).1 (xS s b).2).1, true) := by rw [sS, decide_eq_true h]; rfl
theorem sS_eq {s : ByteArray} {b : Bool} (h : fV (xS s b).1 = crcF (xV s)) : sS s b = fS (xS s b).1 (xS s b).2 := by rw [sS, decide_eq_false (fun q => q h), Bool.false_or]
theorem zEe {s : ByteArray} (h : 8 ≤ s.size) : (zC4 s).size = 8 := by rw [zC4, ByteArray.size_extract]; omega
theorem zHd {s : ByteArray} (h : 8 ≤ s.size) : tvN (zBM (zC4 s)) = kLo s ∧ tvR (zBM (zC4 s)) = (zC4 s).extract 4 (zC4 s).size := by
 have := zEe h
 rw [zC8 (by omega)]
 exact ⟨rfl, rfl⟩
theorem zOv {s : ByteArray} (h : 8 ≤ s.size) : tvN (zBM ((zC4 s).extract 4 (zC4 s).size)) = kHi s := by
 have h1 := zEe h
 have h2 : ((zC4 s).extract 4 (zC4 s).size).size = 4 := by rw [ByteArray.size_extract]; omega
 rw [zC8 (by omega)]
 rfl
theorem kNum_or (s : ByteArray) : ((kHi s * 2 ^ 32) % 18446744073709551616 ||| kLo s) % 18446744073709551616 = kNum s := by
 have h1 := zKw s
 have h2 := zHe s
 rw [Nat.mod_eq_of_lt (a := kHi s * 2 ^ 32) (by omega), Nat.or_comm, zGl (k := 32) (by omega), kNum]
 omega
theorem zMn (s : ByteArray) : kNum s < 18446744073709551616 := by
 have h1 := zKw s
 have h2 := zHe s
 rw [kNum]; omega
theorem zMm {s : ByteArray} (h : kHi s < 1073741824) : kNum s < 4611686018427387904 := by
 have h2 := zHe s
 rw [kNum]; omega
theorem shl32 {h : Nat} (hh : h < 1073741824) : IntKind.i64.wrap (((h : Nat) : Int) * 2 ^ 32) = ((h * 2 ^ 32 : Nat) : Int) := by
 rw [IntKind.wrap_i64]; omega
theorem or_i64 {a b : Nat} (ha : a < 4611686018427387904) (hb : b < 4611686018427387904) : zDv .or .i64 (a : Int) (b : Int) = ((a ||| b : Nat) : Int) := by
 have hx : a ||| b < 2 ^ 62 := Nat.or_lt_two_pow ha hb
 show IntKind.i64.wrap (((BitVec.ofInt 64 (a : Int) ||| BitVec.ofInt 64 (b : Int)).toNat : Nat) : Int) = _
 rw [BitVec.toNat_or, BitVec.ofInt_natCast, BitVec.ofInt_natCast, BitVec.toNat_ofNat, BitVec.toNat_ofNat, Nat.mod_eq_of_lt (a := a) (by omega), Nat.mod_eq_of_lt (a := b) (by omega), IntKind.wrap_i64]
 omega
theorem zOC {s : ByteArray} (h : kHi s < 1073741824) : kHi s * 2 ^ 32 ||| kLo s = kNum s := by
 have h2 := zHe s
 rw [Nat.or_comm, zGl (k := 32) (by omega), kNum]
 omega
def r1 (left : ByteArray) : ByteArray × Bool := nS left false
def r2 (left : ByteArray) : ByteArray × Bool := xS (r1 left).1 (r1 left).2
def r3 (left : ByteArray) : ByteArray × Bool := xS (r2 left).1 (r2 left).2
theorem r3_good {left : ByteArray} (h : (r3 left).2 = false) : ∃ n a b, zAP left = some (n, a) ∧ n ≤ 4611686018427387904 ∧ nV left = (n : Int) ∧ zAX a = some (xV (r1 left).1, b) ∧ zAX b = some (xV (r2 left).1, (r3 left).1) := by
 obtain ⟨h1, h2⟩ := zJq (s := (r2 left).1) h
 obtain ⟨h3, h4⟩ := zJq (s := (r1 left).1) h1
 obtain ⟨_, n, h5, h6, h7⟩ := nS_good (s := left) h3
 exact ⟨n, _, _, h5, h6, h7, h4, h2⟩
theorem r3_of {left a b c more value : ByteArray} {n : Nat} (h1 : zAP left = some (n, a)) (hn : n ≤ 4611686018427387904) (h2 : zAX a = some (more, b)) (h3 : zAX b = some (value, c)) : nV left = (n : Int) ∧ r3 left = (c, false) := by
 obtain ⟨e1, e2⟩ := zJE (b := false) h1 hn
 have f1 : r1 left = (a, false) := e2
 obtain ⟨e3, e4⟩ := zNQ (b := false) h2
 have f2 : r2 left = (b, false) := by rw [r2, f1]; exact e4
 obtain ⟨e5, e6⟩ := zNQ (b := false) h3
 exact ⟨e1, by rw [r3, f2]; exact e6⟩
theorem r3_le (left : ByteArray) : (r3 left).1.size ≤ left.size := Nat.le_trans (zJp _ _) (Nat.le_trans (zJp _ _) (zGn _ _))
theorem BI.stop {s left last : ByteArray} {out : List Ent} (h : BI s left last out) (hne : ¬ left = ⟨#[]⟩) (hl : last.size ≤ 1000000) (hx : (r3 left).2 = true ∨ (last.size : Int) < nV left ∨ out.length = 400) : zBI s = none := zD4 fun L ev hL => by
 obtain ⟨h0, sh, more, value, c, k, ⟨⟨a, b, h1, h2, h3⟩, hle, _⟩⟩ := h.next hne hL
 obtain ⟨g1, g2⟩ := r3_of h1 (by omega) h2 h3
 rcases hx with hx | hx | hx
 · rw [g2] at hx; cases hx
 · rw [g1] at hx; omega
 · omega
theorem BI.nokey {s left last : ByteArray} {out : List Ent} (h : BI s left last out) (hne : ¬ left = ⟨#[]⟩) {n : Nat} {a b more value c : ByteArray} (h1 : zAP left = some (n, a)) (h2 : zAX a = some (more, b)) (_ : zAX b = some (value, c)) (hk : zBB (last.extract 0 n ++ more) = none) : zBI s = none := zD4 fun L ev hL => by
 obtain ⟨h0, sh, more', value', c', k, ⟨⟨a', b', g1, g2, g3⟩, hle, hk'⟩⟩ := h.next hne hL
 rw [h1] at g1
 cases g1
 rw [h2] at g2
 cases g2
 rw [hk] at hk'
 cases hk'
theorem BI.stop1 {s left last : ByteArray} {out : List Ent} (h : BI s left last out) (hne : ¬ left = ⟨#[]⟩) (hx : zAP left = none ∨ zAX (tvR (zAP left)) = none ∨ zAX (txR (zAX (tvR (zAP left)))) = none ∨ last.size < tvN (zAP left)) : zBI s = none := zD4 fun L ev hL => by
 obtain ⟨h0, sh, more, value, c, k, ⟨⟨a, b, h1, h2, h3⟩, hle, _⟩⟩ := h.next hne hL
 rw [h1] at hx
 have e1 : tvR (some (sh, a)) = a := rfl
 have e2 : tvN (some (sh, a)) = sh := rfl
 rw [e1, e2, h2] at hx
 have e3 : txR (some (more, b)) = b := rfl
 rw [e3, h3] at hx
 rcases hx with hx | hx | hx | hx
 · cases hx
 · cases hx
 · cases hx
 · omega
theorem BI.full {s left last : ByteArray} {out : List Ent} (h : BI s left last out) (hne : ¬ left = ⟨#[]⟩) (hx : 400 ≤ out.length) : zBI s = none := zD4 fun L ev hL => by
 have := (h.next hne hL).1
 omega
theorem zEX {s : ByteArray} (h : s.size < 8 ∨ 60000 < s.size) : zBI s = none := zD4 fun L ev hL => by
 have h1 := hL.start.1
 have h2 := hL.small
 omega
theorem zHU {s : ByteArray} (h : s.size < zED s * 4 + 8) : zBI s = none := zD4 fun L ev hL => by
 have h1 := hL.start.2.2.1
 omega
theorem zEi {s : ByteArray} (h : 8 ≤ s.size) : (zCn s).size = 8 := by rw [zCn, ByteArray.size_extract]; omega
theorem zLC {s : ByteArray} (h : 8 ≤ s.size) : zBM (zCn s) = some (zED s, (zCn s).extract 4 (zCn s).size) := by
 have := zEi h
 rw [zC8 (by omega)]
 rfl
theorem zJj {s : ByteArray} (h : 8 ≤ s.size) : tvN (zBM ((zCn s).extract 4 (zCn s).size)) = zBT s ∧ ∃ r, zBM ((zCn s).extract 4 (zCn s).size) = some (zBT s, r) := by
 have h1 := zEi h
 have h2 : ((zCn s).extract 4 (zCn s).size).size = 4 := by rw [ByteArray.size_extract]; omega
 rw [zC8 (by omega)]
 exact ⟨rfl, _, rfl⟩
theorem zLD (s : ByteArray) : zED s < 4294967296 := zFL _
theorem zJk (s : ByteArray) : zBT s < 4294967296 := zFL _
theorem zMN {s : ByteArray} {k : Ent} (h : zBB s = some k) : k = keyE s ∧ zBl k.user k.seq k.kind = true := by
 rw [zBB] at h
 split at h
 · next q => cases h; exact ⟨rfl, q.2⟩
 · cases h
theorem zDS {α : Type} {o : Option α} {d : α} (h : o.isSome = true) : o = some (o.getD d) := by cases o with | none => cases h | some x => rfl
theorem zHy {α : Type} {o : Option α} {d x : α} (h : o.isSome = true) (e : o.getD d = x) : o = some x := (zDS (d := d) h).trans (congrArg some e)
theorem quo4b {n : Nat} (h : n ≤ 1000000) : IntKind.i64.wrap ((n : Int).tdiv 4) = ((n / 4 : Nat) : Int) := by
 rw [Int.tdiv_eq_ediv_of_nonneg (by omega), zEE (by omega)]
 omega
theorem quo2b {n : Nat} (h : n < 9223372036854775808) : IntKind.i64.wrap ((n : Int).tdiv 2) = ((n / 2 : Nat) : Int) := by
 rw [Int.tdiv_eq_ediv_of_nonneg (by omega), zEE (by omega)]
 omega
theorem zHS {s : ByteArray} {k : Ent} (h : zBB s = some k) : s.size ≤ 48 := by
 obtain ⟨rfl, q⟩ := zMN h
 have := zEd q
 have e : (keyE s).user.size = s.size - 8 := by
  show (s.extract 0 (s.size - 8)).size = _
  rw [ByteArray.size_extract]; omega
 omega
end Go.Rl

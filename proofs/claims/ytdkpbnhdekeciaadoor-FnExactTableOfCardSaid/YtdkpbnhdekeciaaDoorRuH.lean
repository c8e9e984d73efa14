/- Promises of functions, proved by walks over their operations; no conditions beyond those that each theorem states. -/
import Derived.Test.YtdkpbnhdekeciaaDoorRuF
import Derived.Test.YtdkpbnhdekeciaaDoorReG
set_option linter.unusedSimpArgs false
set_option linter.unusedVariables false
namespace Go.Rl
open Go.Proofs
theorem zCd : (Tryd.prog.info? 52).map (fun i => (i.zero, i.size, i.bytes)) = some (some (.agg #[.int .i64 0, .int .i64 0, .int .i64 0, .string ⟨#[]⟩]), 4, 40) := by kernel_rfl
theorem en35 : ∀ vs w, (callFunc 35 vs).run Tryd.prog w = .ok (.enter 35 vs) w := zAn Tryd.func35 (by decide) rfl
theorem en57 : ∀ vs w, (callFunc 57 vs).run Tryd.prog w = .ok (.enter 57 vs) w := zAn Tryd.func57 (by decide) rfl
theorem en68 : ∀ vs w, (callFunc 68 vs).run Tryd.prog w = .ok (.enter 68 vs) w := zAn Tryd.func68 (by decide) rfl
theorem en78 : ∀ vs w, (callFunc 78 vs).run Tryd.prog w = .ok (.enter 78 vs) w := zAn Tryd.func78 (by decide) rfl
theorem row0 (us : List ByteArray) : List.replicate (zAZ us) [PV.v (.int .u8 0)] = pvNb (bitB us 0) := by simp [pvNb, bitB]
theorem zCK {u : ByteArray} (h : zBI u = true) : u.size ≤ 40 := by simp only [zBI, zAd, Bool.and_eq_true, decide_eq_true_eq] at h; omega
set_option maxRecDepth 1000000 in
set_option maxHeartbeats 2000000 in
theorem zEH (us : List ByteArray) (hu : ∀ u ∈ us, zBI u = true) (hn : us.length ≤ 400) : Con Tryd.prog 37 [.one (PV.sl false 1 (pvT us)), .one (PV.v (.int .i64 10))] [] [.agg [.v (.int .i64 (zCN us).kind), .v (.int .i64 (zCN us).seed), .v (.int .i64 (zCN us).probes), .v (.string (zCN us).bits)], .one (.v (.bool true))] := by
 refine zAP Tryd.func37 rfl rfl rfl rfl ?_
 have hle := zAg us
 have hby := zF4 hn
 refine zAC ?_
 refine zAA rfl (.run [] [4] rfl (zA7 rfl 4 zCd rfl (by decide) rfl (by decide)) (.run [] [] rfl (zAD rfl) .nil)) ?_
 refine zAC ?_
 refine zAC ?_
 refine zAA rfl (.run [] [] rfl (zAB rfl) (.run [1300] [] rfl (zAG rfl 1300 (X := []) en35 rfl (.val nod) (.cons (.one (.bor (.sl nod))) .nil) (by decide) all_nil .nil (zCh us (by assumption) (by omega)) rfl rfl (nle rfl)) (.run [] [] rfl (zA1 (b := true) rfl rfl) (.run [] [] rfl (zAB rfl) (.run [] [] rfl (zAB rfl) (.run [1700] [] rfl (zAG rfl 1700 (X := []) en31 rfl (.val nod) (.cons (.one (.bor .v)) (.cons (.one (.bor .v)) (.cons (.one (.bor .v)) .nil))) (by decide) all_nil .nil (zBU 10 1 20) rfl rfl (nle rfl)) (.run [] [] rfl (zA1 (b := zAd 10 1 20) rfl rfl) (.run [] [] rfl (zAT (t := false) rfl rfl) .nil)))))))) ?_
 refine zAW (t := (!(zAd 10 1 20))) rfl (fun h1 => ?_) (fun h1 => ?_)
 ·
  replace h1 : (zAd 10 1 20) = false := zA4 h1
  exact absurd h1 (by decide)
 ·
  replace h1 : (zAd 10 1 20) = true := zA5 h1
  refine zAJ ?_
  refine zAC ?_
  refine zAU (s' := mk [(0, .p none (.sl false 1 (pvT us))), (1, .p none (.v (.int .i64 10))), (4, .ptr 4 0)] [(4, [.p none (.v (.int .i64 0)), .p none (.v (.int .i64 0)), .p none (.v (.int .i64 0)), .p none (.v (.string ⟨#[]⟩))])] []) ?_ ?_
  · exact zAK ⟨rfl, ⟨rfl, ⟨rfl, trivial⟩⟩⟩ ⟨rfl, trivial⟩ trivial rfl
  refine zAA rfl (.run [] [] rfl (zAB rfl) (.run [] [] rfl (zAa rfl rfl Tryd.underlying49) (.run [] [] rfl (zAB rfl) (.run [] [] rfl (zDc rfl rfl rfl (by omega)) (.run [] [] rfl (zGE rfl rfl rfl) (.run [] [] rfl (zAX rfl rfl rfl (by omega)) (.run [] [] rfl (zAO (zEZ rfl rfl rfl (by omega)) ((zAH (zGk (by omega) (by omega))))) (.run [] [] rfl (zAD rfl) .nil)))))))) ?_
  refine zAC ?_
  refine zAA rfl (.run [] [] rfl (zAB rfl) (.run [] [] rfl (zDc rfl rfl rfl (by omega)) (.run [] [] rfl (zAO (zEZ rfl rfl rfl (by omega)) ((zAH (show IntKind.i64.wrap ((10 * 69 : Int).tdiv 100) = 6 by decide)))) (.run [] [] rfl (zAO (zGE rfl rfl rfl) ((zAH (show max (1 : Int) 6 = 6 by decide)))) (.run [] [] rfl (zAO (zIo rfl rfl rfl) ((zAH (show min (6 : Int) 30 = 6 by decide)))) (.run [] [] rfl (zAD rfl) .nil)))))) ?_
  refine zAC ?_
  refine zAU (s' := mk [(0, .p none (.sl false 1 (pvT us))), (4, .ptr 4 0), (6, .p none (.v (.int .i64 ((zAZ us : Nat) : Int)))), (7, .p none (.v (.int .i64 6)))] [(4, [.p none (.v (.int .i64 0)), .p none (.v (.int .i64 0)), .p none (.v (.int .i64 0)), .p none (.v (.string ⟨#[]⟩))])] []) ?_ ?_
  · exact zAK ⟨rfl, ⟨rfl, ⟨rfl, ⟨rfl, trivial⟩⟩⟩⟩ ⟨rfl, trivial⟩ trivial rfl
  refine zAA rfl (.run [] [] rfl (zAB rfl) (.run [3400] [] rfl (zCl rfl 3400 (l := zAZ us) (c := zAZ us) rfl rfl Tryd.underlying67 inf5 rfl rfl (by decide) rfl (by decide) (by omega) (by omega) (by simp only [maxLen]; omega)) (.run [] [] rfl (zAD rfl) .nil))) ?_
  have hr2 : List.replicate (zAZ us) [PV.v (.int .u8 0)] = pvNb (bitB us 0) := by exact row0 us
  have hl3 : zAZ us = (pvNb (bitB us 0)).length := by first | (rw [← hr2, List.length_set]; done) | simp [zAt, zCS]
  have hp4 : (.sl 3400 0 (zAZ us) : AV) = .sl 3400 0 ((pvNb (bitB us 0)).length) := by first | exact congrArg (AV.sl 3400 0) hl3 | simp only [hr2, hl3]
  refine zAU (s' := mk [(0, .p none (.sl false 1 (pvT us))), (4, .ptr 4 0), (6, .p none (.v (.int .i64 ((zAZ us : Nat) : Int)))), (7, .p none (.v (.int .i64 6))), (8, .sl 3400 0 ((pvNb (bitB us 0)).length))] [(4, [.p none (.v (.int .i64 0)), .p none (.v (.int .i64 0)), .p none (.v (.int .i64 0)), .p none (.v (.string ⟨#[]⟩))])] [(3400, 1, pvNb (bitB us 0))]) ?_ ?_
  · exact zAK ⟨rfl, ⟨rfl, ⟨rfl, ⟨rfl, ⟨hp4, trivial⟩⟩⟩⟩⟩ ⟨rfl, trivial⟩ ⟨(congrArg (fun x => some (1, x)) hr2), trivial⟩ rfl
  refine zAC ?_
  refine zAC ?_
  refine zAA rfl (.run [] [] rfl (zAD rfl) .nil) ?_
  refine zAM ?_
  refine zAU (zCe 3400 1 rfl rfl (by decide)) ?_
  refine zAj (σ := Nat) (fun i => mk [(0, .p none (.sl false 1 (pvT us))), (4, .ptr 4 0), (6, .p none (.v (.int .i64 ((zAZ us : Nat) : Int)))), (7, .p none (.v (.int .i64 6))), (8, .sl 1 0 ((pvNb (bitB us i)).length)), (9, .p none (.v (.int .i64 (i:Int))))] [(4, [.p none (.v (.int .i64 0)), .p none (.v (.int .i64 0)), .p none (.v (.int .i64 0)), .p none (.v (.string ⟨#[]⟩))])] [(1, 1, pvNb (bitB us i))]) (fun i => i ≤ us.length) (fun i => us.length - i) 0 (by simp) (zAK ⟨rfl, ⟨rfl, ⟨rfl, ⟨rfl, ⟨rfl, ⟨(zAH (by omega)), trivial⟩⟩⟩⟩⟩⟩ ⟨rfl, trivial⟩ ⟨(congrArg (fun x => some (1, x)) (by rfl)), trivial⟩ rfl) ?_
  rintro i hG
  replace hG : i ≤ us.length := hG
  have hbl := zCS us i
  have hbv := zAt (bitB us i)
  refine zAC ?_
  refine zAC ?_
  refine zAA rfl (.run [] [] rfl (zAB rfl) (.run [] [] rfl (zAB rfl) (.run [] [] rfl (zAa rfl rfl Tryd.underlying49) (.run [] [] rfl (zAu rfl rfl rfl) .nil)))) ?_
  refine zAW (t := decide ((i:Int) < ((pvT us).length : Int))) rfl (fun h5 => ?_) (fun h5 => ?_)
  ·
   replace h5 := of_decide_eq_true h5
   refine zAJ ?_
   refine zAC ?_
   refine zAM ?_
   refine zAC ?_
   obtain ⟨x, hx⟩ : ∃ x, us[i]? = some x := ⟨_, List.getElem?_eq_getElem (by omega)⟩
   have huo := hu _ (List.mem_of_getElem? hx)
   have hus := zCK huo
   refine zAA rfl (.run [] [] rfl (zAD rfl) .nil) ?_
   refine zAM ?_
   refine zAj (σ := Nat) (fun k => mk [(0, .p none (.sl false 1 (pvT us))), (4, .ptr 4 0), (6, .p none (.v (.int .i64 ((zAZ us : Nat) : Int)))), (7, .p none (.v (.int .i64 6))), (8, .sl 1 0 ((pvNb (usrB (bitB us i) x (8 * zAZ us) k)).length)), (9, .p none (.v (.int .i64 (i:Int)))), (10, .p none (.v (.int .i64 (k:Int))))] [(4, [.p none (.v (.int .i64 0)), .p none (.v (.int .i64 0)), .p none (.v (.int .i64 0)), .p none (.v (.string ⟨#[]⟩))])] [(1, 1, pvNb (usrB (bitB us i) x (8 * zAZ us) k))]) (fun k => k ≤ 6) (fun k => 6 - k) 0 (by simp) (zAK ⟨rfl, ⟨rfl, ⟨rfl, ⟨rfl, ⟨rfl, ⟨rfl, ⟨(zAH (by omega)), trivial⟩⟩⟩⟩⟩⟩⟩ ⟨rfl, trivial⟩ ⟨(congrArg (fun x => some (1, x)) (by rfl)), trivial⟩ rfl) ?_
   rintro k hG
   replace hG : k ≤ 6 := hG
   have hul := (zEP (bitB us i) x (8 * zAZ us) k).trans (zCS us i)
   have huv := zAt (usrB (bitB us i) x (8 * zAZ us) k)
   refine zAC ?_
   refine zAC ?_
   refine zAA rfl (.run [] [] rfl (zAB rfl) (.run [] [] rfl (zAB rfl) (.run [] [] rfl (zAu rfl rfl rfl) .nil))) ?_
   refine zAW (t := decide ((k:Int) < 6)) rfl (fun h6 => ?_) (fun h6 => ?_)
   ·
    replace h6 := of_decide_eq_true h6
    refine zAJ ?_
    refine zAC ?_
    refine zAM ?_
    refine zAC ?_
    refine zAA rfl (.run [] [] rfl (zAB rfl) (.run [] [] rfl (zAB rfl) (.run [] [] rfl (zAm rfl rfl rfl Tryd.underlying49 Tryd.sizeOf9 rfl (by omega) (zB3 hx)) (.run [] [] rfl (zA2 rfl rfl Tryd.isAgg9 rfl) (.run [] [] rfl (zAB rfl) (.run [] [] rfl (zAB rfl) (.run [] [] rfl (zAO (zDc rfl rfl rfl (by omega)) ((zAH (by omega)))) (.run [] [] rfl (zAO (zAe (k' := .u64) 18446744073709551616 rfl (8 * zAZ us) rfl rfl rfl Tryd.underlying2 Tryd.underlying43) ((zAH (show (((8 * zAZ us) % 18446744073709551616 : Nat) : Int) = ((8 * zAZ us : Nat) : Int) by omega)))) (.run [5400] [] rfl (zAG rfl 5400 (X := []) en57 rfl (.val nod) (.cons (.one (.bor .v)) (.cons (.one (.bor .v)) (.cons (.one (.bor .v)) .nil))) (by decide) all_nil .nil (zIH x k (8 * zAZ us) (by omega) (by omega) (by omega)) rfl rfl (nle rfl)) (.run [] [] rfl (zAD rfl) .nil)))))))))) ?_
    have hpl : plB x k (8 * zAZ us) < (8 * zAZ us) := zKp (by omega)
    obtain ⟨b, hb⟩ : ∃ b, (usrB (bitB us i) x (8 * zAZ us) k)[plB x k (8 * zAZ us) / 8]? = some b := ⟨_, List.getElem?_eq_getElem (by omega)⟩
    refine zAU (s' := mk [(0, .p none (.sl false 1 (pvT us))), (4, .ptr 4 0), (6, .p none (.v (.int .i64 ((zAZ us : Nat) : Int)))), (7, .p none (.v (.int .i64 6))), (8, .sl 1 0 ((pvNb (usrB (bitB us i) x (8 * zAZ us) k)).length)), (9, .p none (.v (.int .i64 (i:Int)))), (10, .p none (.v (.int .i64 (k:Int)))), (11, .p none (.v (.int .u64 ((plB x k (8 * zAZ us) : Nat) : Int))))] [(4, [.p none (.v (.int .i64 0)), .p none (.v (.int .i64 0)), .p none (.v (.int .i64 0)), .p none (.v (.string ⟨#[]⟩))])] [(1, 1, pvNb (usrB (bitB us i) x (8 * zAZ us) k))]) ?_ ?_
    · exact zAK ⟨rfl, ⟨rfl, ⟨rfl, ⟨rfl, ⟨rfl, ⟨rfl, ⟨rfl, ⟨rfl, trivial⟩⟩⟩⟩⟩⟩⟩⟩ ⟨rfl, trivial⟩ ⟨rfl, trivial⟩ rfl
    refine zAA rfl (.run [] [] rfl (zAB rfl) (.run [] [] rfl (zAB rfl) (.run [] [] rfl (zAO (zDC (k := .u64) 18446744073709551616 rfl (plB x k (8 * zAZ us)) 8 rfl rfl rfl rfl (by omega)) ((zAH (show (((plB x k (8 * zAZ us) / 8) % 18446744073709551616 : Nat) : Int) = ((plB x k (8 * zAZ us) / 8 : Nat) : Int) by omega)))) (.run [] [] rfl (zAB rfl) (.run [] [] rfl (zAB rfl) (.run [] [] rfl (zAO (zDC (k := .u64) 18446744073709551616 rfl (plB x k (8 * zAZ us)) 8 rfl rfl rfl rfl (by omega)) ((zAH (show (((plB x k (8 * zAZ us) / 8) % 18446744073709551616 : Nat) : Int) = ((plB x k (8 * zAZ us) / 8 : Nat) : Int) by omega)))) (.run [] [] rfl (zAq (plB x k (8 * zAZ us) / 8) rfl rfl rfl rfl Tryd.underlying67 Tryd.sizeOf5 rfl rfl (by omega)) (.run [] [] rfl (zAy rfl rfl rfl (zBm hb) Tryd.isAgg5 rfl) (.run [] [] rfl (zAB rfl) (.run [] [] rfl (zBx (plB x k (8 * zAZ us)) 8 rfl rfl rfl (by omega)) (.run [] [] rfl (zFZ (k := .u8) 256 rfl 1 ((plB x k (8 * zAZ us)) % 8) rfl rfl rfl rfl (show _ ≤ 8 by omega)) (.run [] [] rfl (zEa (k := .u8) 256 rfl b ((1 * 2 ^ ((plB x k (8 * zAZ us)) % 8)) % 256) rfl rfl rfl rfl) (.run [] [] rfl (zAq (plB x k (8 * zAZ us) / 8) rfl rfl rfl rfl Tryd.underlying67 Tryd.sizeOf5 rfl rfl (by omega)) (.run [] [] rfl (zBM rfl rfl rfl (FlatP.nf (zCa _)) (zBm hb) rfl rfl (.cons .v .nil) Tryd.sizeOf5 rfl (nle rfl)) .nil)))))))))))))) ?_
    have hr7 : (pvNb (usrB (bitB us i) x (8 * zAZ us) k)).set (plB x k (8 * zAZ us) / 8) [PV.v (.int .u8 (((b ||| ((1 * 2 ^ ((plB x k (8 * zAZ us)) % 8)) % 256)) % 256 : Nat) : Int))] = pvNb (usrB (bitB us i) x (8 * zAZ us) (k + 1)) := by exact zHc hb
    have hl8 : (pvNb (usrB (bitB us i) x (8 * zAZ us) k)).length = (pvNb (usrB (bitB us i) x (8 * zAZ us) (k + 1))).length := by first | (rw [← hr7, List.length_set]; done) | simp [zAt]
    have hp9 : (.sl 1 0 ((pvNb (usrB (bitB us i) x (8 * zAZ us) k)).length) : AV) = .sl 1 0 ((pvNb (usrB (bitB us i) x (8 * zAZ us) (k + 1))).length) := by first | exact congrArg (AV.sl 1 0) hl8 | simp only [hr7, hl8]
    refine zAU (s' := mk [(0, .p none (.sl false 1 (pvT us))), (4, .ptr 4 0), (6, .p none (.v (.int .i64 ((zAZ us : Nat) : Int)))), (7, .p none (.v (.int .i64 6))), (8, .sl 1 0 ((pvNb (usrB (bitB us i) x (8 * zAZ us) (k + 1))).length)), (9, .p none (.v (.int .i64 (i:Int)))), (10, .p none (.v (.int .i64 (k:Int))))] [(4, [.p none (.v (.int .i64 0)), .p none (.v (.int .i64 0)), .p none (.v (.int .i64 0)), .p none (.v (.string ⟨#[]⟩))])] [(1, 1, pvNb (usrB (bitB us i) x (8 * zAZ us) (k + 1)))]) ?_ ?_
    · exact zAK ⟨rfl, ⟨rfl, ⟨rfl, ⟨rfl, ⟨hp9, ⟨rfl, ⟨rfl, trivial⟩⟩⟩⟩⟩⟩⟩ ⟨rfl, trivial⟩ ⟨(congrArg (fun x => some (1, x)) hr7), trivial⟩ rfl
    refine zAA rfl (.run [] [] rfl (zAB rfl) (.run [] [] rfl (zAX rfl rfl rfl (by omega)) (.run [] [] rfl (zAD rfl) .nil))) ?_
    refine nxt (Q := fun _ _ => False) (z := k) (k + 1) ?_ ?_ ?_
    ·
     show (k + 1) ≤ 6
     omega
    ·
     show 6 - (k + 1) < 6 - k
     omega
    · exact zAK ⟨rfl, ⟨rfl, ⟨rfl, ⟨rfl, ⟨rfl, ⟨rfl, ⟨(zAH (by omega)), trivial⟩⟩⟩⟩⟩⟩⟩ ⟨rfl, trivial⟩ ⟨rfl, trivial⟩ rfl
   ·
    replace h6 := of_decide_eq_false h6
    refine zAk ?_
    refine zAA rfl (.run [] [] rfl (zAB rfl) (.run [] [] rfl (zAX rfl rfl rfl (by omega)) (.run [] [] rfl (zAD rfl) .nil))) ?_
    refine nxt (Q := fun _ _ => False) (z := i) (i + 1) ?_ ?_ ?_
    ·
     show (i + 1) ≤ us.length
     omega
    ·
     show us.length - (i + 1) < us.length - i
     omega
    · exact zAK ⟨rfl, ⟨rfl, ⟨rfl, ⟨rfl, ⟨(congrArg (fun z => AV.sl 1 0 (pvNb z).length) (by rw [zDJ hx, show k = 6 by omega])), ⟨(zAH (by omega)), trivial⟩⟩⟩⟩⟩⟩ ⟨rfl, trivial⟩ ⟨(congrArg (fun x => some (1, x)) (by rw [zDJ hx, show k = 6 by omega])), trivial⟩ rfl
  ·
   replace h5 := of_decide_eq_false h5
   refine zAk ?_
   refine zAC ?_
   refine zAA rfl (.run [] [] rfl (zAB rfl) (.run [] [] rfl (zAB rfl) (.run [] [] rfl (zB2 (ints (bitB us us.length)) rfl rfl (.give (len := (pvNb (bitB us i)).length) (xs := pvNb (bitB us i)) rfl rfl) rfl (by rw [show i = us.length by omega]; exact zCB _) Tryd.underlying67 Tryd.underlying9 Tryd.underlying5) (.run [] [] rfl (zB0 (pl := [(0, 1), (1, 1), (2, 1), (3, 1)]) rfl Tryd.underlying52 zCd (by kernel_rfl) rfl rfl) (.run [] [] rfl (zAS rfl rfl rfl rfl rfl Tryd.sizeOf52 rfl (nle rfl)) (.run [] [] rfl (zAD rfl) .nil)))))) ?_
   refine zAL ?_
   exact ends [_, _] [] (.cons (.cell rfl rfl Tryd.isAgg52 Tryd.sizeOf52 (nle rfl)) (.cons (.tmp rfl) .nil)) (.cons (.agg (.cons .v (.cons .v (.cons .v (.cons .v .nil)))) (zAb (.v _) (zAb (.v _) (zAb (.v _) (zAb (.v _) zCF))))) (.cons (.one .v (.v _)) .nil)) (by decide) trivial
set_option maxRecDepth 1000000 in
set_option maxHeartbeats 2000000 in
theorem zE0 (us : List ByteArray) (hu : ∀ u ∈ us, zBI u = true) (hn : us.length ≤ 400) : Con Tryd.prog 70 [.one (PV.sl false 1 (pvT us)), .one (PV.v (.int .i64 10))] [] [.agg [.v (.int .i64 (zCN us).kind), .v (.int .i64 (zCN us).seed), .v (.int .i64 (zCN us).probes), .v (.string (zCN us).bits)], .one (.v (.bool true))] := by
 refine zAP Tryd.func70 rfl rfl rfl rfl ?_
 have hle := zAg us
 have hby := zF4 hn
 refine zAC ?_
 refine zAA rfl (.run [] [4] rfl (zA7 rfl 4 zCd rfl (by decide) rfl (by decide)) (.run [] [] rfl (zAD rfl) .nil)) ?_
 refine zAC ?_
 refine zAC ?_
 refine zAA rfl (.run [] [] rfl (zAB rfl) (.run [1300] [] rfl (zAG rfl 1300 (X := []) en68 rfl (.val nod) (.cons (.one (.bor (.sl nod))) .nil) (by decide) all_nil .nil (zCx us (by assumption) (by omega)) rfl rfl (nle rfl)) (.run [] [] rfl (zA1 (b := true) rfl rfl) (.run [] [] rfl (zAB rfl) (.run [] [] rfl (zAB rfl) (.run [1700] [] rfl (zAG rfl 1700 (X := []) en43 rfl (.val nod) (.cons (.one (.bor .v)) (.cons (.one (.bor .v)) (.cons (.one (.bor .v)) .nil))) (by decide) all_nil .nil (zBF 10 1 20) rfl rfl (nle rfl)) (.run [] [] rfl (zA1 (b := zAd 10 1 20) rfl rfl) (.run [] [] rfl (zAT (t := false) rfl rfl) .nil)))))))) ?_
 refine zAW (t := (!(zAd 10 1 20))) rfl (fun h1 => ?_) (fun h1 => ?_)
 ·
  replace h1 : (zAd 10 1 20) = false := zA4 h1
  exact absurd h1 (by decide)
 ·
  replace h1 : (zAd 10 1 20) = true := zA5 h1
  refine zAJ ?_
  refine zAC ?_
  refine zAU (s' := mk [(0, .p none (.sl false 1 (pvT us))), (1, .p none (.v (.int .i64 10))), (4, .ptr 4 0)] [(4, [.p none (.v (.int .i64 0)), .p none (.v (.int .i64 0)), .p none (.v (.int .i64 0)), .p none (.v (.string ⟨#[]⟩))])] []) ?_ ?_
  · exact zAK ⟨rfl, ⟨rfl, ⟨rfl, trivial⟩⟩⟩ ⟨rfl, trivial⟩ trivial rfl
  refine zAA rfl (.run [] [] rfl (zAB rfl) (.run [] [] rfl (zAB rfl) (.run [] [] rfl (zAa rfl rfl Tryd.underlying49) (.run [] [] rfl (zDc rfl rfl rfl (by omega)) (.run [] [] rfl (zGE rfl rfl rfl) (.run [] [] rfl (zAX rfl rfl rfl (by omega)) (.run [] [] rfl (zAO (zEZ rfl rfl rfl (by omega)) ((zAH (zGk (by omega) (by omega))))) (.run [2800] [] rfl (zCl rfl 2800 (l := zAZ us) (c := zAZ us) rfl rfl Tryd.underlying67 inf5 rfl rfl (by decide) rfl (by decide) (by omega) (by omega) (by simp only [maxLen]; omega)) (.run [] [] rfl (zAD rfl) .nil))))))))) ?_
  have hr2 : List.replicate (zAZ us) [PV.v (.int .u8 0)] = pvNb (bitB us 0) := by exact row0 us
  have hl3 : zAZ us = (pvNb (bitB us 0)).length := by first | (rw [← hr2, List.length_set]; done) | simp [zAt, zCS]
  have hp4 : (.sl 2800 0 (zAZ us) : AV) = .sl 2800 0 ((pvNb (bitB us 0)).length) := by first | exact congrArg (AV.sl 2800 0) hl3 | simp only [hr2, hl3]
  refine zAU (s' := mk [(0, .p none (.sl false 1 (pvT us))), (1, .p none (.v (.int .i64 10))), (4, .ptr 4 0), (6, .sl 2800 0 ((pvNb (bitB us 0)).length))] [(4, [.p none (.v (.int .i64 0)), .p none (.v (.int .i64 0)), .p none (.v (.int .i64 0)), .p none (.v (.string ⟨#[]⟩))])] [(2800, 1, pvNb (bitB us 0))]) ?_ ?_
  · exact zAK ⟨rfl, ⟨rfl, ⟨rfl, ⟨hp4, trivial⟩⟩⟩⟩ ⟨rfl, trivial⟩ ⟨(congrArg (fun x => some (1, x)) hr2), trivial⟩ rfl
  refine zAC ?_
  refine zAA rfl (.run [] [] rfl (zAB rfl) (.run [] [] rfl (zDc rfl rfl rfl (by omega)) (.run [] [] rfl (zAO (zEZ rfl rfl rfl (by omega)) ((zAH (show IntKind.i64.wrap ((69 * 10 : Int).tdiv 100) = 6 by decide)))) (.run [] [] rfl (zAO (zGE rfl rfl rfl) ((zAH (show max (6 : Int) 1 = 6 by decide)))) (.run [] [] rfl (zAO (zIo rfl rfl rfl) ((zAH (show min (6 : Int) 30 = 6 by decide)))) (.run [] [] rfl (zB0 (pl := [(0, 1), (1, 1), (2, 1), (3, 1)]) rfl Tryd.underlying52 zCd (by kernel_rfl) rfl rfl) (.run [] [7] rfl (zA7 rfl 7 zCd rfl (by decide) rfl (by decide)) (.run [] [] rfl (zAS rfl rfl rfl rfl rfl Tryd.sizeOf52 rfl (nle rfl)) .nil)))))))) ?_
  refine zAC ?_
  refine zAC ?_
  refine zAA rfl (.run [] [] rfl (zAB rfl) (.run [] [] rfl (zAa rfl rfl Tryd.underlying49) (.run [] [] rfl (zAB rfl) .nil))) ?_
  refine zAM ?_
  refine zAU (zCe 2800 1 rfl rfl (by decide)) ?_
  refine zAj (σ := Nat) (fun i => mk [(4, .ptr 4 0), (6, .sl 1 0 ((pvNb (bitB us i)).length)), (7, .ptr 7 0), (35, .p none (.sl false 1 (pvT us))), (36, .p none (.v (.int .i64 ((pvT us).length : Int)))), (37, .p none (.v (.int .i64 (i:Int))))] [(4, [.p none (.v (.int .i64 0)), .p none (.v (.int .i64 0)), .p none (.v (.int .i64 0)), .p none (.v (.string ⟨#[]⟩))]), (7, [.p none (.v (.int .i64 1)), .p none (.v (.int .i64 0)), .p none (.v (.int .i64 6)), .p none (.v (.string ⟨#[]⟩))])] [(1, 1, pvNb (bitB us i))]) (fun i => i ≤ us.length) (fun i => us.length - i) 0 (by simp) (zAK ⟨rfl, ⟨rfl, ⟨rfl, ⟨rfl, ⟨rfl, ⟨(zAH (by omega)), trivial⟩⟩⟩⟩⟩⟩ ⟨rfl, ⟨rfl, trivial⟩⟩ ⟨(congrArg (fun x => some (1, x)) (by rfl)), trivial⟩ rfl) ?_
  rintro i hG
  replace hG : i ≤ us.length := hG
  have hbl := zCS us i
  have hbv := zAt (bitB us i)
  refine zAC ?_
  refine zAA rfl (.run [] [] rfl (zAu rfl rfl rfl) .nil) ?_
  refine zAC ?_
  refine zAW (t := decide ((i:Int) < ((pvT us).length : Int))) rfl (fun h5 => ?_) (fun h5 => ?_)
  ·
   replace h5 := of_decide_eq_true h5
   refine zAJ ?_
   refine zAC ?_
   refine zAM ?_
   refine zAC ?_
   obtain ⟨x, hx⟩ : ∃ x, us[i]? = some x := ⟨_, List.getElem?_eq_getElem (by omega)⟩
   have huo := hu _ (List.mem_of_getElem? hx)
   have hus := zCK huo
   refine zAA rfl (.run [] [] rfl (zAm rfl rfl rfl Tryd.underlying49 Tryd.sizeOf9 rfl (by omega) (zB3 hx)) (.run [] [] rfl (zA2 rfl rfl Tryd.isAgg9 rfl) (.run [] [] rfl (zAD rfl) .nil))) ?_
   refine zAC ?_
   refine zAA rfl (.run [] [] rfl (zAB rfl) (.run [] [] rfl (zAE rfl rfl Tryd.underlying52 rfl Tryd.sizeOf2 (by decide)) (.run [] [] rfl (zAF rfl rfl rfl Tryd.isAgg2 rfl) (.run [] [] rfl (zAB rfl) (.run [] [] rfl (zAO (zCT rfl rfl Tryd.underlying67) ((zAH (by rw [hbv, hbl])))) (.run [4600] [] rfl (zAG rfl 4600 (X := []) en78 rfl (.val nod) (.cons (.one (.bor .v)) (.cons (.one (.bor .v)) (.cons (.one (.bor .v)) .nil))) (by decide) all_nil .nil (zIL x 6 (zAZ us) (by omega) (by omega) (by omega)) rfl rfl (nle rfl)) (.run [] [] rfl (zCT rfl rfl Tryd.underlying80) (.run [] [] rfl (zAB rfl) .nil)))))))) ?_
   refine zAM ?_
   refine zAU (zCe 4600 2 rfl rfl (by decide)) ?_
   refine zAj (σ := Nat) (fun k => mk [(4, .ptr 4 0), (6, .sl 1 0 ((pvNb (usrB (bitB us i) x (8 * zAZ us) k)).length)), (7, .ptr 7 0), (35, .p none (.sl false 1 (pvT us))), (36, .p none (.v (.int .i64 ((pvT us).length : Int)))), (37, .p none (.v (.int .i64 (i:Int)))), (46, .sl 2 0 ((pvQ (zA9 x (8 * zAZ us) 6)).length)), (47, .p none (.v (.int .i64 ((pvQ (zA9 x (8 * zAZ us) 6)).length : Int)))), (48, .p none (.v (.int .i64 (k:Int))))] [(4, [.p none (.v (.int .i64 0)), .p none (.v (.int .i64 0)), .p none (.v (.int .i64 0)), .p none (.v (.string ⟨#[]⟩))]), (7, [.p none (.v (.int .i64 1)), .p none (.v (.int .i64 0)), .p none (.v (.int .i64 6)), .p none (.v (.string ⟨#[]⟩))])] [(1, 1, pvNb (usrB (bitB us i) x (8 * zAZ us) k)), (2, 1, pvQ (zA9 x (8 * zAZ us) 6))]) (fun k => k ≤ 6) (fun k => 6 - k) 0 (by simp) (zAK ⟨rfl, ⟨rfl, ⟨rfl, ⟨rfl, ⟨rfl, ⟨rfl, ⟨rfl, ⟨rfl, ⟨(zAH (by omega)), trivial⟩⟩⟩⟩⟩⟩⟩⟩⟩ ⟨rfl, ⟨rfl, trivial⟩⟩ ⟨(congrArg (fun x => some (1, x)) (by rfl)), ⟨rfl, trivial⟩⟩ rfl) ?_
   rintro k hG
   replace hG : k ≤ 6 := hG
   have hul := (zEP (bitB us i) x (8 * zAZ us) k).trans (zCS us i)
   have huv := zAt (usrB (bitB us i) x (8 * zAZ us) k)
   have hpq := zBN (zA9 x (8 * zAZ us) 6)
   have hp6 := zCJ x (8 * zAZ us) 6
   refine zAC ?_
   have hpq := zBN (zA9 x (8 * zAZ us) 6)
   have hp6 := zCJ x (8 * zAZ us) 6
   refine zAA rfl (.run [] [] rfl (zAu rfl rfl rfl) .nil) ?_
   refine zAC ?_
   refine zAW (t := decide ((k:Int) < ((pvQ (zA9 x (8 * zAZ us) 6)).length : Int))) rfl (fun h6 => ?_) (fun h6 => ?_)
   ·
    replace h6 := of_decide_eq_true h6
    refine zAJ ?_
    refine zAC ?_
    refine zAM ?_
    refine zAC ?_
    refine zAA rfl (.run [] [] rfl (zAq k rfl rfl rfl rfl Tryd.underlying80 Tryd.sizeOf43 rfl rfl (by omega)) (.run [] [] rfl (zAy rfl rfl rfl (zDF (zHH (by omega))) Tryd.isAgg43 rfl) (.run [] [] rfl (zAD rfl) .nil))) ?_
    have hpl : plB x k (8 * zAZ us) < (8 * zAZ us) := zKp (by omega)
    obtain ⟨b, hb⟩ : ∃ b, (usrB (bitB us i) x (8 * zAZ us) k)[plB x k (8 * zAZ us) / 8]? = some b := ⟨_, List.getElem?_eq_getElem (by omega)⟩
    refine zAA rfl (.run [] [] rfl (zAB rfl) (.run [] [] rfl (zAB rfl) (.run [] [] rfl (zAO (zDC (k := .u64) 18446744073709551616 rfl (plB x k (8 * zAZ us)) 8 rfl rfl rfl rfl (by omega)) ((zAH (show (((plB x k (8 * zAZ us) / 8) % 18446744073709551616 : Nat) : Int) = ((plB x k (8 * zAZ us) / 8 : Nat) : Int) by omega)))) (.run [] [] rfl (zAq (plB x k (8 * zAZ us) / 8) rfl rfl rfl rfl Tryd.underlying67 Tryd.sizeOf5 rfl rfl (by omega)) (.run [] [] rfl (zAy rfl rfl rfl (zBm hb) Tryd.isAgg5 rfl) (.run [] [] rfl (zAB rfl) (.run [] [] rfl (zBx (plB x k (8 * zAZ us)) 8 rfl rfl rfl (by omega)) (.run [] [] rfl (zFZ (k := .u8) 256 rfl 1 ((plB x k (8 * zAZ us)) % 8) rfl rfl rfl rfl (show _ ≤ 8 by omega)) (.run [] [] rfl (zEa (k := .u8) 256 rfl b ((1 * 2 ^ ((plB x k (8 * zAZ us)) % 8)) % 256) rfl rfl rfl rfl) (.run [] [] rfl (zAq (plB x k (8 * zAZ us) / 8) rfl rfl rfl rfl Tryd.underlying67 Tryd.sizeOf5 rfl rfl (by omega)) (.run [] [] rfl (zBM rfl rfl rfl (FlatP.nf (zCa _)) (zBm hb) rfl rfl (.cons .v .nil) Tryd.sizeOf5 rfl (nle rfl)) .nil))))))))))) ?_
    have hr7 : (pvNb (usrB (bitB us i) x (8 * zAZ us) k)).set (plB x k (8 * zAZ us) / 8) [PV.v (.int .u8 (((b ||| ((1 * 2 ^ ((plB x k (8 * zAZ us)) % 8)) % 256)) % 256 : Nat) : Int))] = pvNb (usrB (bitB us i) x (8 * zAZ us) (k + 1)) := by exact zHc hb
    have hl8 : (pvNb (usrB (bitB us i) x (8 * zAZ us) k)).length = (pvNb (usrB (bitB us i) x (8 * zAZ us) (k + 1))).length := by first | (rw [← hr7, List.length_set]; done) | simp [zAt]
    have hp9 : (.sl 1 0 ((pvNb (usrB (bitB us i) x (8 * zAZ us) k)).length) : AV) = .sl 1 0 ((pvNb (usrB (bitB us i) x (8 * zAZ us) (k + 1))).length) := by first | exact congrArg (AV.sl 1 0) hl8 | simp only [hr7, hl8]
    refine zAU (s' := mk [(4, .ptr 4 0), (6, .sl 1 0 ((pvNb (usrB (bitB us i) x (8 * zAZ us) (k + 1))).length)), (7, .ptr 7 0), (35, .p none (.sl false 1 (pvT us))), (36, .p none (.v (.int .i64 ((pvT us).length : Int)))), (37, .p none (.v (.int .i64 (i:Int)))), (46, .sl 2 0 ((pvQ (zA9 x (8 * zAZ us) 6)).length)), (47, .p none (.v (.int .i64 ((pvQ (zA9 x (8 * zAZ us) 6)).length : Int)))), (48, .p none (.v (.int .i64 (k:Int))))] [(4, [.p none (.v (.int .i64 0)), .p none (.v (.int .i64 0)), .p none (.v (.int .i64 0)), .p none (.v (.string ⟨#[]⟩))]), (7, [.p none (.v (.int .i64 1)), .p none (.v (.int .i64 0)), .p none (.v (.int .i64 6)), .p none (.v (.string ⟨#[]⟩))])] [(1, 1, pvNb (usrB (bitB us i) x (8 * zAZ us) (k + 1))), (2, 1, pvQ (zA9 x (8 * zAZ us) 6))]) ?_ ?_
    · exact zAK ⟨rfl, ⟨hp9, ⟨rfl, ⟨rfl, ⟨rfl, ⟨rfl, ⟨rfl, ⟨rfl, ⟨rfl, trivial⟩⟩⟩⟩⟩⟩⟩⟩⟩ ⟨rfl, ⟨rfl, trivial⟩⟩ ⟨(congrArg (fun x => some (1, x)) hr7), ⟨rfl, trivial⟩⟩ rfl
    refine zAA rfl (.run [] [] rfl (zAX rfl rfl rfl (by omega)) (.run [] [] rfl (zAB rfl) .nil)) ?_
    refine nxt (Q := fun _ _ => False) (z := k) (k + 1) ?_ ?_ ?_
    ·
     show (k + 1) ≤ 6
     omega
    ·
     show 6 - (k + 1) < 6 - k
     omega
    · exact zAK ⟨rfl, ⟨rfl, ⟨rfl, ⟨rfl, ⟨rfl, ⟨rfl, ⟨rfl, ⟨rfl, ⟨(zAH (by omega)), trivial⟩⟩⟩⟩⟩⟩⟩⟩⟩ ⟨rfl, ⟨rfl, trivial⟩⟩ ⟨rfl, ⟨rfl, trivial⟩⟩ rfl
   ·
    replace h6 := of_decide_eq_false h6
    refine zAk ?_
    refine zAA rfl (.run [] [] rfl (zAX rfl rfl rfl (by omega)) (.run [] [] rfl (zAB rfl) .nil)) ?_
    refine nxt (Q := fun _ _ => False) (z := i) (i + 1) ?_ ?_ ?_
    ·
     show (i + 1) ≤ us.length
     omega
    ·
     show us.length - (i + 1) < us.length - i
     omega
    · exact zAK ⟨rfl, ⟨(congrArg (fun z => AV.sl 1 0 (pvNb z).length) (by rw [zDJ hx, show k = 6 by omega])), ⟨rfl, ⟨rfl, ⟨rfl, ⟨(zAH (by omega)), trivial⟩⟩⟩⟩⟩⟩ ⟨rfl, ⟨rfl, trivial⟩⟩ ⟨(congrArg (fun x => some (1, x)) (by rw [zDJ hx, show k = 6 by omega])), trivial⟩ rfl
  ·
   replace h5 := of_decide_eq_false h5
   refine zAk ?_
   refine zAC ?_
   refine zAA rfl (.run [] [] rfl (zAB rfl) (.run [] [] rfl (zB2 (ints (bitB us us.length)) rfl rfl (.give (len := (pvNb (bitB us i)).length) (xs := pvNb (bitB us i)) rfl rfl) rfl (by rw [show i = us.length by omega]; exact zCB _) Tryd.underlying67 Tryd.underlying9 Tryd.underlying5) (.run [] [] rfl (zAE rfl rfl Tryd.underlying52 rfl Tryd.sizeOf9 (by decide)) (.run [] [] rfl (zAS rfl rfl rfl rfl rfl Tryd.sizeOf9 rfl (nle rfl)) .nil)))) ?_
   refine zAC ?_
   refine zAA rfl (.run [] [] rfl (zAV rfl rfl rfl Tryd.isAgg52 Tryd.sizeOf52 (nle rfl)) (.run [] [] rfl (zAS rfl rfl rfl rfl rfl Tryd.sizeOf52 rfl (nle rfl)) (.run [] [] rfl (zAD rfl) .nil))) ?_
   refine zAL ?_
   exact ends [_, _] [] (.cons (.cell rfl rfl Tryd.isAgg52 Tryd.sizeOf52 (nle rfl)) (.cons (.tmp rfl) .nil)) (.cons (.agg (.cons .v (.cons .v (.cons .v (.cons .v .nil)))) (zAb (.v _) (zAb (.v _) (zAb (.v _) (zAb (.v _) zCF))))) (.cons (.one .v (.v _)) .nil)) (by decide) trivial
end Go.Rl
namespace Go.Rl
structure Eqn where
 place : Nat
 row : Nat
 sum : Nat
def Eqn.pv (e : Eqn) : List PV := [.v (.int .i64 ((e.place : Nat) : Int)), .v (.int .u64 ((e.row : Nat) : Int)), .v (.int .u8 ((e.sum : Nat) : Int))]
def pvK (l : List Eqn) : List (List PV) := l.map Eqn.pv
theorem zCU (l : List Eqn) : (pvK l).length = l.length := by simp [pvK]
theorem zEk {l : List Eqn} {i : Nat} {e : Eqn} (h : l[i]? = some e) : (pvK l)[i]? = some [.v (.int .i64 ((e.place : Nat) : Int)), .v (.int .u64 ((e.row : Nat) : Int)), .v (.int .u8 ((e.sum : Nat) : Int))] := by simp [pvK, Eqn.pv, h]
theorem zJ7 (l : List Eqn) : FlatP (pvK l) := fun es he p hp => by
 obtain ⟨e, _, rfl⟩ := List.mem_map.1 he
 simp only [Eqn.pv, List.mem_cons, List.not_mem_nil, or_false] at hp
 rcases hp with rfl | rfl | rfl <;> rfl
theorem pvK_set {l : List Eqn} {i : Nat} (e : Eqn) : (pvK l).set i [.v (.int .i64 ((e.place : Nat) : Int)), .v (.int .u64 ((e.row : Nat) : Int)), .v (.int .u8 ((e.sum : Nat) : Int))] = pvK (l.set i e) := by
 rw [pvK, pvK, List.map_set]; rfl
theorem zJ6 {l : List Eqn} {i : Nat} (e : Eqn) : (pvQ (l.map Eqn.row)).set i [.v (.int .u64 ((e.row : Nat) : Int))] = pvQ ((l.set i e).map Eqn.row) := by
 simp [pvQ, List.map_set]
theorem zJ5 {l : List Eqn} {i : Nat} (e : Eqn) : (pvQ (l.map Eqn.sum)).set i [.v (.int .u64 ((e.sum : Nat) : Int))] = pvQ ((l.set i e).map Eqn.sum) := by
 simp [pvQ, List.map_set]
theorem zFh {l : List Eqn} {i : Nat} {e : Eqn} (h : l[i]? = some e) : (l.map Eqn.row)[i]? = some e.row := by simp [h]
theorem zG4 {l : List Eqn} {i : Nat} {e : Eqn} (h : l[i]? = some e) : (l.map Eqn.sum)[i]? = some e.sum := by simp [h]
def EOk (m p : Nat) (e : Eqn) : Prop := e.row < 65536 ∧ e.row < 2 ^ (m - p) ∧ e.sum < 128 ∧ (e.row = 0 → e.sum = 0) ∧ (e.row ≠ 0 → e.row % 2 = 1)
structure KOk (m : Nat) (K : List Eqn) : Prop where
 len : K.length = m
 all : ∀ p e, K[p]? = some e → EOk m p e
structure RI (m a r s : Nat) : Prop where
 at_ : a ≤ m
 row : r < 65536
 gap : r < 2 ^ (m - a)
 sum : s < 128
theorem RI.in_ {m a r s : Nat} (h : RI m a r s) (h0 : r ≠ 0) : a < m := by
 have h1 := h.gap
 have h2 := h.at_
 rcases Nat.lt_or_ge a m with h3 | h3
 · exact h3
 · rw [show m - a = 0 by omega, Nat.pow_zero] at h1; omega
def ribE (m at_ row sum : Nat) (K : List Eqn) : Option (List Eqn) :=
 if h0 : row = 0 then (if sum = 0 then some K else none)
 else if h : at_ < m then
  if h1 : row % 2 = 0 then ribE m (at_ + 1) (row / 2) sum K
  else match K[at_]? with
   | some e => if e.row = 0 then some (K.set at_ ⟨at_, row, sum⟩) else if h2 : e.row % 2 = 0 then none else ribE m at_ (row ^^^ e.row) (sum ^^^ e.sum) K
   | none => none
 else none
termination_by 2 * (m - at_) + row % 2
decreasing_by
 · omega
 ·
  have := zGz (a := row) (b := e.row) (by omega) (by omega)
  omega
theorem zCz (m a s : Nat) (K : List Eqn) : ribE m a 0 s K = if s = 0 then some K else none := by rw [ribE]; simp
theorem zET {m a r s : Nat} {K : List Eqn} (hi : RI m a r s) (h : r % 2 = 0) (h0 : r ≠ 0) : ribE m (a + 1) (r / 2) s K = ribE m a r s K ∧ RI m (a + 1) (r / 2) s := by
 have ha := hi.in_ h0
 have h1 := hi.gap
 have h2 := hi.row
 refine ⟨?_, ha, by omega, ?_, hi.sum⟩
 · rw [ribE.eq_def m a r s K, dif_neg h0, dif_pos ha, dif_pos h]
 ·
  rw [show m - a = (m - (a + 1)) + 1 by omega, Nat.pow_succ] at h1
  omega
theorem zHF {m a r s : Nat} {K : List Eqn} {e : Eqn} (hi : RI m a r s) (hK : KOk m K) (h : r % 2 = 1) (he : K[a]? = some e) (h0 : e.row = 0) : ribE m a r s K = some (K.set a ⟨a, r, s⟩) ∧ KOk m (K.set a ⟨a, r, s⟩) := by
 have hr : r ≠ 0 := by omega
 have ha := hi.in_ hr
 refine ⟨?_, by rw [List.length_set]; exact hK.len, fun p x hx => ?_⟩
 ·
  rw [ribE, dif_neg hr, dif_pos ha, dif_neg (by omega), he]
  simp only [h0, if_true]
 ·
  by_cases q : p = a
  ·
   subst q
   rw [List.getElem?_set_self (by rw [hK.len]; exact ha)] at hx
   cases hx
   exact ⟨hi.row, hi.gap, hi.sum, fun w => absurd w hr, fun _ => h⟩
  ·
   rw [List.getElem?_set_ne (fun w => q w.symm)] at hx
   exact hK.all p x hx
theorem zIx {m a r s : Nat} {K : List Eqn} {e : Eqn} (hi : RI m a r s) (hK : KOk m K) (h : r % 2 = 1) (he : K[a]? = some e) (h0 : ¬ e.row = 0) : ribE m a (r ^^^ e.row) (s ^^^ e.sum) K = ribE m a r s K ∧ RI m a (r ^^^ e.row) (s ^^^ e.sum) ∧ (r ^^^ e.row) % 2 = 0 := by
 have hr : r ≠ 0 := by omega
 have ha := hi.in_ hr
 have hE := hK.all a e he
 have ho := hE.2.2.2.2 h0
 refine ⟨?_, ⟨hi.at_, Nat.xor_lt_two_pow (n := 16) hi.row hE.1, Nat.xor_lt_two_pow hi.gap hE.2.1, Nat.xor_lt_two_pow (n := 7) hi.sum hE.2.2.1⟩, zGz h ho⟩
 rw [ribE.eq_def m a r s K, dif_neg hr, dif_pos ha, dif_neg (by omega), he]
 simp only [h0, if_false, show ¬ e.row % 2 = 0 by omega, dite_false]
def atN (h m : Nat) : Nat := (h / 2 ^ 32) % (m - 15)
def rowN (h : Nat) : Nat := h % 65536 ||| 1
def sumN (h : Nat) : Nat := (h / 2 ^ 16) % 128
theorem zHD (h : Nat) : rowN h < 65536 := Nat.or_lt_two_pow (n := 16) (Nat.mod_lt _ (by decide)) (by decide)
theorem zIv (h : Nat) : (((h % 65536 ||| 1) % 18446744073709551616 : Nat) : Int) = ((rowN h : Nat) : Int) := by
 have := zHD h
 rw [← rowN]
 omega
theorem zJz (h : Nat) : ((((h &&& 65535) % 18446744073709551616 ||| 1) % 18446744073709551616 : Nat) : Int) = ((rowN h : Nat) : Int) := by
 have h1 : h &&& 65535 = h % 65536 := Nat.and_two_pow_sub_one_eq_mod h 16
 rw [h1, Nat.mod_eq_of_lt (a := h % 65536) (by omega)]
 exact zIv h
theorem zHe (h m : Nat) (hm : 20 ≤ m) : RI m (atN h m) (rowN h) (sumN h) := by
 have h1 : atN h m < m - 15 := Nat.mod_lt _ (by omega)
 refine ⟨by omega, zHD h, Nat.lt_of_lt_of_le (zHD h) ?_, Nat.mod_lt _ (by decide)⟩
 exact Nat.pow_le_pow_right (n := 2) (by decide) (show 16 ≤ m - atN h m by omega)
def eq0 (m : Nat) : List Eqn := List.replicate m ⟨0, 0, 0⟩
def zBp (us : List ByteArray) (sd m : Nat) : Nat → Option (List Eqn)
 | 0 => some (eq0 m)
 | i + 1 => match zBp us sd m i with
  | some K => match us[i]? with
   | some u => ribE m (atN (zAh sd u) m) (rowN (zAh sd u)) (sumN (zAh sd u)) K
   | none => some K
  | none => none
theorem zBo {us : List ByteArray} {sd m i : Nat} {K : List Eqn} {u : ByteArray} (h : zBp us sd m i = some K) (hu : us[i]? = some u) : zBp us sd m (i + 1) = ribE m (atN (zAh sd u) m) (rowN (zAh sd u)) (sumN (zAh sd u)) K := by
 rw [zBp, h, hu]
theorem zEj {us : List ByteArray} {sd m i : Nat} (h : zBp us sd m i = none) : ∀ k, zBp us sd m (i + k) = none
 | 0 => h
 | k + 1 => by rw [← Nat.add_assoc, zBp, zEj h k]
theorem zD8 {us : List ByteArray} {sd m i n : Nat} (h : zBp us sd m i = none) (hn : i ≤ n) : zBp us sd m n = none := by
 have := zEj h (n - i)
 rwa [show i + (n - i) = n by omega] at this
theorem zHs (m : Nat) : KOk m (eq0 m) := ⟨by simp [eq0], fun p e h => by
 rw [eq0, List.getElem?_replicate] at h
 split at h
 · cases h; exact ⟨by decide, Nat.two_pow_pos _, by decide, fun _ => rfl, fun h => absurd rfl h⟩
 · cases h⟩
theorem eq0_row (m : Nat) : List.replicate m [PV.v (.int .u64 0)] = pvQ ((eq0 m).map Eqn.row) := by simp [pvQ, eq0]
theorem eq0_sum (m : Nat) : List.replicate m [PV.v (.int .u64 0)] = pvQ ((eq0 m).map Eqn.sum) := by simp [pvQ, eq0]
theorem eq0_all (m : Nat) : List.replicate m [PV.v (.int .i64 0), PV.v (.int .u64 0), PV.v (.int .u8 0)] = pvK (eq0 m) := by simp [pvK, eq0, Eqn.pv]
theorem zDu {m a r s : Nat} {K : List Eqn} {e : Eqn} (hi : RI m a r s) (hK : KOk m K) (h : r % 2 = 1) (he : K[a]? = some e) (h0 : e.row = 0) : ribE m a 0 0 (K.set a ⟨a, r, s⟩) = ribE m a r s K ∧ RI m a 0 0 ∧ KOk m (K.set a ⟨a, r, s⟩) := by
 have h1 := zHF hi hK h he h0
 exact ⟨by rw [zCz, if_pos rfl, h1.1], ⟨hi.at_, by decide, Nat.two_pow_pos _, by decide⟩, h1.2⟩
theorem zK5 (h m : Nat) : ((h / 2 ^ 32 % (m - 15) : Nat) : Int) = ((atN h m : Nat) : Int) := by rw [atN]
theorem zK4 {h m : Nat} (h1 : 20 ≤ m) (h2 : m ≤ 600) : atN h m < 600 := Nat.lt_of_lt_of_le (Nat.mod_lt _ (show 0 < m - 15 by omega)) (by omega)
theorem sumN_u8 (h : Nat) : ((sumN h % 256 : Nat) : Int) = ((sumN h : Nat) : Int) := by
 have : sumN h < 128 := Nat.mod_lt _ (by decide)
 omega
theorem zIm (h : Nat) : ((h / 2 ^ 16 % 128 : Nat) : Int) = ((sumN h : Nat) : Int) := by rw [sumN]
theorem quo4 {n : Nat} (h : n ≤ 400) : IntKind.i64.wrap ((n : Int).tdiv 4) = ((n / 4 : Nat) : Int) := by
 rw [Int.tdiv_eq_ediv_of_nonneg (by omega), zD2 (by omega)]
 omega
theorem zJi {a : Nat} (h : a < 18446744073709551616) : zC9 .andNot .u64 (a : Int) 1 = ((a / 2 * 2 : Nat) : Int) := by
 have hn : (~~~ (BitVec.ofInt 64 1)).toNat = 18446744073709551614 := by decide
 have h0 : a &&& 18446744073709551614 = a / 2 * 2 := by
  have h1 := Nat.and_div_two (a := a) (b := 18446744073709551614)
  have h2 := Nat.and_mod_two_pow (a := a) (b := 18446744073709551614) (n := 1)
  rw [Nat.pow_one, show 18446744073709551614 % 2 = 0 from rfl, Nat.and_zero] at h2
  rw [show 18446744073709551614 / 2 = 2 ^ 63 - 1 from rfl, Nat.and_two_pow_sub_one_eq_mod, Nat.mod_eq_of_lt (by omega)] at h1
  omega
 show IntKind.u64.wrap (((BitVec.ofInt 64 (a : Int) &&& ~~~ (BitVec.ofInt 64 1)).toNat : Nat) : Int) = _
 rw [BitVec.toNat_and, hn, zDS, BitVec.toNat_ofNat, Nat.mod_eq_of_lt h, h0, zB7 rfl]
 show ((a / 2 * 2 % 18446744073709551616 : Nat) : Int) = _
 omega
theorem st_not1 {γ : Gho} {P : Program} {n : Nat} {o : Oper} {M B : List Nat} {s : St} {xt yt : TypeId} {x y : Operand} {d d' : Option Nat} (a : Nat) (ho : o.op = .binOp .andNot xt x y yt) (hx : s.ev x = .p d (.v (.int .u64 (a : Int)))) (hy : s.ev y = .p d' (.v (.int .u64 1))) (h : a < 18446744073709551616) : StepD γ P n o M B s { put := (.p none (.v (.int .u64 ((a / 2 * 2 : Nat) : Int)))) } := by
 rw [← zJi h]; exact zFb ho (.inr (.inr (.inr rfl))) hx hy
def solT (B : List Nat) (p r : Nat) : Nat → Nat
 | 0 => 0
 | j + 1 => if (r / 2 ^ j) % 2 = 1 then solT B p r j ^^^ B.getD (p + j) 0 else solT B p r j
theorem getD_lt {B : List Nat} (h : ∀ b ∈ B, b < 128) (i : Nat) : B.getD i 0 < 128 := by
 rw [List.getD_eq_getElem?_getD]
 cases q : B[i]? with
 | none => exact Nat.zero_lt_succ _
 | some b => exact h b (List.mem_of_getElem? q)
theorem zDh {B : List Nat} (h : ∀ b ∈ B, b < 128) (p r : Nat) : ∀ j, solT B p r j < 128
 | 0 => Nat.zero_lt_succ _
 | j + 1 => by
  rw [solT]
  split
  · exact Nat.xor_lt_two_pow (n := 7) (zDh h p r j) (getD_lt h _)
  · exact zDh h p r j
theorem zGF {B : List Nat} {p r j : Nat} (h : r / 2 ^ j = 0) : ∀ k, solT B p r (j + k) = solT B p r j
 | 0 => rfl
 | k + 1 => by
  rw [← Nat.add_assoc, solT, if_neg, zGF h k]
  rw [Nat.pow_add, ← Nat.div_div_eq_div_mul, h, Nat.zero_div]
  decide
theorem zHa {B : List Nat} {p r j n : Nat} (h : r / 2 ^ j = 0) (hn : j ≤ n) : solT B p r n = solT B p r j := by
 have := zGF (B := B) (p := p) h (n - j)
 rwa [show j + (n - j) = n by omega] at this
theorem zIq {B : List Nat} {p r j b : Nat} (h : (r / 2 ^ j) % 2 = 1) (hb : B[p + j]? = some b) : solT B p r (j + 1) = solT B p r j ^^^ b := by
 rw [solT, if_pos h, List.getD_eq_getElem?_getD, hb]; rfl
theorem zKi {B : List Nat} {p r j : Nat} (h : ¬ (r / 2 ^ j) % 2 = 1) : solT B p r (j + 1) = solT B p r j := by rw [solT, if_neg h]
theorem zEK (r j : Nat) : r / 2 ^ j / 2 = r / 2 ^ (j + 1) := by rw [Nat.div_div_eq_div_mul, ← Nat.pow_succ]
theorem zI3 {r j m p : Nat} (h : r < 2 ^ (m - p)) (h0 : r / 2 ^ j ≠ 0) : p + j < m := by
 have h1 : 2 ^ j ≤ r := by
  rcases Nat.lt_or_ge r (2 ^ j) with q | q
  · exact absurd (Nat.div_eq_of_lt q) h0
  · exact q
 have h2 : 2 ^ j < 2 ^ (m - p) := Nat.lt_of_le_of_lt h1 h
 have h3 := (Nat.pow_lt_pow_iff_right (by decide : 1 < 2)).1 h2
 omega
theorem zGi (r k : Nat) (h : 1 ≤ k) : ((r / 2 * 2) / 2 ^ k) = r / 2 ^ k := by
 obtain ⟨j, rfl⟩ : ∃ j, k = j + 1 := ⟨k - 1, by omega⟩
 rw [Nat.pow_succ, Nat.mul_comm (2 ^ j) 2, ← Nat.div_div_eq_div_mul, ← Nat.div_div_eq_div_mul, Nat.mul_div_cancel _ (by decide)]
def bitK (K : List Eqn) (m : Nat) : Nat → List Nat
 | 0 => List.replicate m 0
 | j + 1 => match K[m - 1 - j]? with
  | some e => (bitK K m j).set (m - 1 - j) (e.sum ^^^ solT (bitK K m j) (m - 1 - j) (e.row / 2 * 2) 16)
  | none => bitK K m j
theorem zCk (K : List Eqn) (m : Nat) : ∀ j, (bitK K m j).length = m
 | 0 => by simp [bitK]
 | j + 1 => by
  rw [bitK]
  split
  · rw [List.length_set, zCk K m j]
  · exact zCk K m j
theorem zHV {K : List Eqn} {m : Nat} (hK : KOk m K) : ∀ j, ∀ b ∈ bitK K m j, b < 128
 | 0 => fun b hb => by
  rw [bitK, List.mem_replicate] at hb
  omega
 | j + 1 => by
  have ih := zHV hK j
  rw [bitK]
  split
  ·
   next e he =>
   intro b hb
   rcases List.mem_or_eq_of_mem_set hb with q | q
   · exact ih b q
   ·
    subst q
    exact Nat.xor_lt_two_pow (n := 7) (hK.all _ _ he).2.2.1 (zDh ih _ _ _)
  · exact ih
theorem zH6 {K : List Eqn} {m : Nat} : ∀ j q, q + j < m → (bitK K m j)[q]? = some 0
 | 0, q, h => by rw [bitK, List.getElem?_replicate, if_pos (by omega)]
 | j + 1, q, h => by
  have ih := zH6 (K := K) (m := m) j q (by omega)
  rw [bitK]
  split
  · rw [List.getElem?_set_ne (by omega)]; exact ih
  · exact ih
theorem zE1 {K : List Eqn} {m j : Nat} {e : Eqn} (he : K[m - 1 - j]? = some e) : bitK K m (j + 1) = (bitK K m j).set (m - 1 - j) (e.sum ^^^ solT (bitK K m j) (m - 1 - j) (e.row / 2 * 2) 16) := by rw [bitK, he]
theorem zGv {K : List Eqn} {m j : Nat} {e : Eqn} (hK : KOk m K) (hj : j < m) (he : K[m - 1 - j]? = some e) (h0 : e.row = 0) : bitK K m (j + 1) = bitK K m j := by
 have hl := zH6 (K := K) (m := m) j (m - 1 - j) (by omega)
 have h1 : solT (bitK K m j) (m - 1 - j) 0 16 = 0 := (zHa (j := 0) (by decide) (by omega)).trans rfl
 rw [zE1 he, h0, show 0 / 2 * 2 = 0 from rfl, h1, (hK.all _ _ he).2.2.2.1 h0]
 apply List.ext_getElem?
 intro i
 by_cases q : m - 1 - j = i
 ·
  subst q
  rw [List.getElem?_set_self (by rw [zCk]; omega), hl]
  rfl
 · rw [List.getElem?_set_ne q]
theorem zFU (K : List Eqn) (m : Nat) : List.replicate m [PV.v (.int .u8 0)] = pvNb (bitK K m 0) := by simp [pvNb, bitK]
theorem sol_one (B : List Nat) (p r : Nat) : solT B p (r / 2 * 2) 1 = 0 := by
 rw [solT, if_neg (by rw [Nat.pow_zero, Nat.div_one]; omega), solT]
theorem zIr {B : List Nat} {p r k s b : Nat} (hk : 1 ≤ k) (h : (r / 2 ^ k) % 2 = 1) (hb : B[p + k]? = some b) (hs : s < 128) (hB : ∀ b ∈ B, b < 128) : ((s ^^^ solT B p (r / 2 * 2) k) ^^^ b) % 18446744073709551616 = s ^^^ solT B p (r / 2 * 2) (k + 1) := by
 rw [zIq (by rw [zGi r k hk]; exact h) hb, Nat.xor_assoc]
 have h1 : s ^^^ (solT B p (r / 2 * 2) k ^^^ b) < 2 ^ 7 := Nat.xor_lt_two_pow (n := 7) hs (Nat.xor_lt_two_pow (n := 7) (zDh hB _ _ _) (hB _ (List.mem_of_getElem? hb)))
 omega
theorem zIs {B : List Nat} {p r k : Nat} (hk : 1 ≤ k) (h : ¬ (r / 2 ^ k) % 2 = 1) : solT B p (r / 2 * 2) (k + 1) = solT B p (r / 2 * 2) k := zKi (by rw [zGi r k hk]; exact h)
theorem zDv {B : List Nat} {i x : Nat} : (pvNb B).set i [.v (.int .u8 ((x : Nat) : Int))] = pvNb (B.set i x) := by simp [pvNb, List.map_set]
def ribM (us : List ByteArray) : Nat := us.length + us.length / 4 + 20
def zA8 (us : List ByteArray) (sd : Nat) : Option Flt := match zBp us sd (ribM us) us.length with
 | none => none
 | some K => some ⟨2, ((sd : Nat) : Int), 0, zCc (ints (bitK K (ribM us) (ribM us)))⟩
theorem zEf {us : List ByteArray} {sd : Nat} {K : List Eqn} (h : zBp us sd (ribM us) us.length = some K) : zA8 us sd = some ⟨2, ((sd : Nat) : Int), 0, zCc (ints (bitK K (ribM us) (ribM us)))⟩ := by rw [zA8, h]
theorem zDl {us : List ByteArray} {sd : Nat} (h : zBp us sd (ribM us) us.length = none) : zA8 us sd = none := by rw [zA8, h]
def zBv (us : List ByteArray) : Nat → Option Flt
 | 0 => none
 | n + 1 => match zBv us n with
  | some f => some f
  | none => zA8 us n
def Flt.zero : Flt := ⟨0, 0, 0, ByteArray.empty⟩
def zAr (us : List ByteArray) (kind : Int) : Flt := if kind = 0 then .zero else if kind = 2 then (zBv us 4).getD (zCN us) else zCN us
end Go.Rl
namespace Go.Rl
open Go.Proofs
theorem zJG : (Tryd.prog.info? 93).map (fun i => (i.zero, i.size, i.bytes)) = some (some (.agg #[.int .i64 0, .int .u64 0, .int .u8 0]), 3, 24) := by kernel_rfl
theorem bit_y {c : Nat} (h : (((c &&& 1) % 18446744073709551616 : Nat) : Int) = 1) : c % 2 = 1 := by rw [Nat.and_one_is_mod] at h; omega
theorem bit_n {c : Nat} (h : ¬ (((c &&& 1) % 18446744073709551616 : Nat) : Int) = 1) : ¬ c % 2 = 1 := by rw [Nat.and_one_is_mod] at h; omega
theorem zJu {B : List Nat} {p r j b : Nat} (hB : ∀ b ∈ B, b < 128) (h : (r / 2 ^ j) % 2 = 1) (hb : B[p + j]? = some b) : (solT B p r j ^^^ b) % 256 = solT B p r (j + 1) := by
 have h1 : solT B p r j ^^^ b < 2 ^ 7 := Nat.xor_lt_two_pow (n := 7) (zDh hB _ _ _) (hB _ (List.mem_of_getElem? hb))
 rw [zIq h hb]
 omega
set_option maxRecDepth 1000000 in
set_option maxHeartbeats 2000000 in
theorem row_con (u : ByteArray) (sd m : Nat) (hs : sd ≤ 3) (hm : 20 ≤ m ∧ m ≤ 600) (hu : u.size ≤ 9000000000000000000) : Con Tryd.prog 56 [.one (PV.v (.string u)), .one (PV.v (.int .i64 (sd:Int))), .one (PV.v (.int .i64 (m:Int)))] [] [.one (.v (.int .i64 ((atN (zAh sd u) m : Nat) : Int))), .one (.v (.int .u64 ((rowN (zAh sd u) : Nat) : Int))), .one (.v (.int .u64 ((sumN (zAh sd u) : Nat) : Int)))] := by
 refine zAP Tryd.func56 rfl rfl rfl rfl ?_
 refine zAC ?_
 refine zAA rfl (.run [] [] rfl (zAD rfl) (.run [] [] rfl (zAD rfl) (.run [] [] rfl (zAD rfl) .nil))) ?_
 refine zAC ?_
 refine zAA rfl (.run [] [] rfl (zAB rfl) (.run [] [] rfl (zAO (zAe (k' := .u32) 4294967296 rfl sd rfl rfl rfl Tryd.underlying2 Tryd.underlying57) ((zAH (show ((sd % 4294967296 : Nat) : Int) = ((sd : Nat) : Int) by omega)))) (.run [] [] rfl (zAB rfl) (.run [1300] [] rfl (zAG rfl 1300 (X := []) en59 rfl (.val nod) (.cons (.one (.bor .v)) (.cons (.one (.bor .v)) .nil)) (by decide) all_nil .nil (zEb sd u (by omega)) rfl rfl (nle rfl)) (.run [] [] rfl (zAD rfl) .nil))))) ?_
 refine zAC ?_
 have hat := zK4 (h := zAh sd u) hm.1 hm.2
 refine zAU (s' := mk [(2, .p none (.v (.int .i64 (m:Int)))), (9, .p none (.v (.int .u64 ((zAh sd u : Nat) : Int))))] [] []) ?_ ?_
 · exact zAK ⟨rfl, ⟨rfl, trivial⟩⟩ trivial trivial rfl
 refine zAA rfl (.run [] [] rfl (zAB rfl) (.run [] [] rfl (zBK (zAh sd u) 32 rfl rfl rfl (by decide)) (.run [] [] rfl (zAB rfl) (.run [] [] rfl (zAO (zBw rfl rfl rfl (by omega)) ((zAH (by omega)))) (.run [] [] rfl (zAO (zAe (k' := .u64) 18446744073709551616 rfl (m - 15) rfl rfl rfl Tryd.underlying2 Tryd.underlying43) ((zAH (show (((m - 15) % 18446744073709551616 : Nat) : Int) = ((m - 15 : Nat) : Int) by omega)))) (.run [] [] rfl (zAO (zBx ((zAh sd u) / 2 ^ 32) (m - 15) rfl rfl rfl (by omega)) ((zAH (zK5 (zAh sd u) m)))) (.run [] [] rfl (zER rfl rfl Tryd.underlying43 Tryd.underlying2 (by omega)) (.run [] [] rfl (zAB rfl) (.run [] [] rfl (zBx (zAh sd u) 65536 rfl rfl rfl (by omega)) (.run [] [] rfl (zAO (zEa (k := .u64) 18446744073709551616 rfl ((zAh sd u) % 65536) 1 rfl rfl rfl rfl) ((zAH (zIv (zAh sd u))))) (.run [] [] rfl (zAB rfl) (.run [] [] rfl (zBK (zAh sd u) 16 rfl rfl rfl (by decide)) (.run [] [] rfl (zAO (zBx ((zAh sd u) / 2 ^ 16) 128 rfl rfl rfl (by omega)) ((zAH (zIm (zAh sd u))))) (.run [] [] rfl (zAD rfl) (.run [] [] rfl (zAD rfl) (.run [] [] rfl (zAD rfl) .nil)))))))))))))))) ?_
 refine zAL ?_
 exact ends [_, _, _] [] (.cons (.tmp rfl) (.cons (.tmp rfl) (.cons (.tmp rfl) .nil))) (.cons (.one .v (.v _)) (.cons (.one .v (.v _)) (.cons (.one .v (.v _)) .nil))) (by decide) trivial
set_option maxRecDepth 1000000 in
set_option maxHeartbeats 2000000 in
theorem zKS (u : ByteArray) (sd m : Nat) (hs : sd ≤ 3) (hm : 20 ≤ m ∧ m ≤ 600) (hu : u.size ≤ 9000000000000000000) : Con Tryd.prog 76 [.one (PV.v (.string u)), .one (PV.v (.int .i64 (sd:Int))), .one (PV.v (.int .i64 (m:Int)))] [] [.agg [.v (.int .i64 ((atN (zAh sd u) m : Nat) : Int)), .v (.int .u64 ((rowN (zAh sd u) : Nat) : Int)), .v (.int .u8 ((sumN (zAh sd u) : Nat) : Int))]] := by
 refine zAP Tryd.func76 rfl rfl rfl rfl ?_
 refine zAC ?_
 refine zAA rfl (.run [] [6] rfl (zA7 rfl 6 zJG rfl (by decide) rfl (by decide)) .nil) ?_
 refine zAC ?_
 refine zAA rfl (.run [] [] rfl (zAB rfl) (.run [] [] rfl (zAO (zAe (k' := .u32) 4294967296 rfl sd rfl rfl rfl Tryd.underlying2 Tryd.underlying57) ((zAH (show ((sd % 4294967296 : Nat) : Int) = ((sd : Nat) : Int) by omega)))) (.run [] [] rfl (zAB rfl) (.run [1100] [] rfl (zAG rfl 1100 (X := []) en80 rfl (.val nod) (.cons (.one (.bor .v)) (.cons (.one (.bor .v)) .nil)) (by decide) all_nil .nil (zFt sd u (by omega)) rfl rfl (nle rfl)) (.run [] [] rfl (zAD rfl) .nil))))) ?_
 refine zAC ?_
 have hat := zK4 (h := zAh sd u) hm.1 hm.2
 refine zAU (s' := mk [(2, .p none (.v (.int .i64 (m:Int)))), (6, .ptr 6 0), (7, .p none (.v (.int .u64 ((zAh sd u : Nat) : Int))))] [(6, [.p none (.v (.int .i64 0)), .p none (.v (.int .u64 0)), .p none (.v (.int .u8 0))])] []) ?_ ?_
 · exact zAK ⟨rfl, ⟨rfl, ⟨rfl, trivial⟩⟩⟩ ⟨rfl, trivial⟩ trivial rfl
 refine zAA rfl (.run [] [] rfl (zAB rfl) (.run [] [] rfl (zBK (zAh sd u) 32 rfl rfl rfl (by decide)) (.run [] [] rfl (zAB rfl) (.run [] [] rfl (zAO (zBw rfl rfl rfl (by omega)) ((zAH (by omega)))) (.run [] [] rfl (zAO (zAe (k' := .u64) 18446744073709551616 rfl (m - 15) rfl rfl rfl Tryd.underlying3 Tryd.underlying43) ((zAH (show (((m - 15) % 18446744073709551616 : Nat) : Int) = ((m - 15 : Nat) : Int) by omega)))) (.run [] [] rfl (zAO (zBx ((zAh sd u) / 2 ^ 32) (m - 15) rfl rfl rfl (by omega)) ((zAH (zK5 (zAh sd u) m)))) (.run [] [] rfl (zER rfl rfl Tryd.underlying43 Tryd.underlying3 (by omega)) (.run [] [] rfl (zAB rfl) (.run [] [] rfl (zFc (k := .u64) 18446744073709551616 rfl (zAh sd u) 65535 rfl rfl rfl rfl) (.run [] [] rfl (zAO (zEa (k := .u64) 18446744073709551616 rfl (((zAh sd u) &&& 65535) % 18446744073709551616) 1 rfl rfl rfl rfl) ((zAH (zJz (zAh sd u))))) (.run [] [] rfl (zAB rfl) (.run [] [] rfl (zBK (zAh sd u) 16 rfl rfl rfl (by decide)) (.run [] [] rfl (zAO (zBx ((zAh sd u) / 2 ^ 16) 128 rfl rfl rfl (by omega)) ((zAH (zIm (zAh sd u))))) (.run [] [] rfl (zAO (zAe (k' := .u8) 256 rfl (sumN (zAh sd u)) rfl rfl rfl Tryd.underlying43 Tryd.underlying5) ((zAH (sumN_u8 (zAh sd u))))) (.run [] [] rfl (zB0 (pl := [(0, 1), (1, 1), (2, 1)]) rfl Tryd.underlying93 zJG (by kernel_rfl) rfl rfl) (.run [] [] rfl (zAS rfl rfl rfl rfl rfl Tryd.sizeOf93 rfl (nle rfl)) .nil)))))))))))))))) ?_
 refine zAL ?_
 exact ends [_] [] (.cons (.cell rfl rfl Tryd.isAgg93 Tryd.sizeOf93 (nle rfl)) .nil) (.cons (.agg (.cons .v (.cons .v (.cons .v .nil))) (zAb (.v _) (zAb (.v _) (zAb (.v _) zCF)))) .nil) (by decide) trivial
set_option maxRecDepth 1000000 in
set_option maxHeartbeats 2000000 in
theorem zIp (B : List Nat) (p r m : Nat) (hB : ∀ b ∈ B, b < 128) (hl : B.length = m) (hr : r < 65536) (hg : r < 2 ^ (m - p)) (hp : p ≤ m) (hm : m ≤ 600) : Con Tryd.prog 77 [.one (PV.sl false 1 (pvNb B)), .one (PV.v (.int .i64 (p:Int))), .one (PV.v (.int .u64 (r:Int)))] [] [.one (.v (.int .u8 ((solT B p r 16 : Nat) : Int)))] := by
 refine zAP Tryd.func77 rfl rfl rfl rfl ?_
 refine zAC ?_
 refine zAA rfl (.run [] [] rfl (zAD rfl) .nil) ?_
 refine zAC ?_
 refine zAA rfl (.run [] [] rfl (zAD rfl) .nil) ?_
 refine zAC ?_
 refine zAM ?_
 refine zAj (σ := Nat) (fun j => mk [(0, .p none (.sl false 1 (pvNb B))), (1, .p none (.v (.int .i64 ((p + j : Nat) : Int)))), (2, .p none (.v (.int .u64 ((r / 2 ^ j : Nat) : Int)))), (7, .p none (.v (.int .u8 ((solT B p r j : Nat) : Int))))] [] []) (fun j => j ≤ 16) (fun j => 16 - j) 0 (by simp) (zAK ⟨rfl, ⟨(zAH (by omega)), ⟨(zAH (by rw [Nat.pow_zero, Nat.div_one])), ⟨rfl, trivial⟩⟩⟩⟩ trivial trivial rfl) ?_
 rintro j hG
 replace hG : j ≤ 16 := hG
 have hj16 : r / 2 ^ j ≠ 0 → 0 + j < 16 := zI3 (m := 16) (p := 0) hr
 have hjm : r / 2 ^ j ≠ 0 → p + j < m := zI3 hg
 have hBv := zAt B
 refine zAC ?_
 refine zAC ?_
 refine zAA rfl (.run [] [] rfl (zAB rfl) (.run [] [] rfl (zCH rfl rfl rfl) .nil)) ?_
 refine zAW (t := (!(decide (((r / 2 ^ j : Nat) : Int) = 0)))) rfl (fun h1 => ?_) (fun h1 => ?_)
 ·
  replace h1 : ¬ (((r / 2 ^ j : Nat) : Int) = 0) := of_decide_eq_false (zA4 h1)
  refine zAJ ?_
  refine zAC ?_
  refine zAM ?_
  refine zAC ?_
  refine zAC ?_
  refine zAA rfl (.run [] [] rfl (zAB rfl) (.run [] [] rfl (zFc (k := .u64) 18446744073709551616 rfl (r / 2 ^ j) 1 rfl rfl rfl rfl) (.run [] [] rfl (zA6 rfl rfl rfl) .nil))) ?_
  refine zAW (t := decide (((((r / 2 ^ j) &&& 1) % 18446744073709551616 : Nat) : Int) = 1)) rfl (fun h2 => ?_) (fun h2 => ?_)
  ·
   replace h2 := of_decide_eq_true h2
   have hpj := hjm (by have := bit_y h2; intro q; rw [q] at this; exact absurd this (by decide))
   obtain ⟨b, hb⟩ : ∃ b, B[p + j]? = some b := ⟨_, List.getElem?_eq_getElem (by omega)⟩
   refine zAA rfl (.run [] [] rfl (zAB rfl) (.run [] [] rfl (zAB rfl) (.run [] [] rfl (zAB rfl) (.run [] [] rfl (zAm rfl rfl rfl Tryd.underlying67 Tryd.sizeOf5 rfl (by omega) (zBm hb)) (.run [] [] rfl (zA2 rfl rfl Tryd.isAgg5 rfl) (.run [] [] rfl (zBY (k := .u8) 256 rfl (solT B p r j) b rfl rfl rfl rfl) (.run [] [] rfl (zAD rfl) .nil))))))) ?_
   refine zAA rfl (.run [] [] rfl (zAB rfl) (.run [] [] rfl (zAX rfl rfl rfl (by omega)) (.run [] [] rfl (zAD rfl) .nil))) ?_
   refine zAU (s' := mk [(0, .p none (.sl false 1 (pvNb B))), (1, .p none (.v (.int .i64 (((p + j : Nat) : Int) + 1)))), (2, .p none (.v (.int .u64 ((r / 2 ^ j : Nat) : Int)))), (7, .p none (.v (.int .u8 ((((solT B p r j) ^^^ b) % 256 : Nat) : Int))))] [] []) ?_ ?_
   · exact zAK ⟨rfl, ⟨rfl, ⟨rfl, ⟨rfl, trivial⟩⟩⟩⟩ trivial trivial rfl
   refine zAA rfl (.run [] [] rfl (zAB rfl) (.run [] [] rfl (zBK (r / 2 ^ j) 1 rfl rfl rfl (by decide)) (.run [] [] rfl (zAD rfl) .nil))) ?_
   refine nxt (Q := fun _ _ => False) (z := j) (j + 1) ?_ ?_ ?_
   ·
    show (j + 1) ≤ 16
    have := hj16 (by have := h1; intro q; rw [q] at this; exact absurd rfl this); omega
   ·
    show 16 - (j + 1) < 16 - j
    have := hj16 (by have := h1; intro q; rw [q] at this; exact absurd rfl this); omega
   · exact zAK ⟨rfl, ⟨(zAH (by omega)), ⟨(zAH (by rw [Nat.pow_one, zEK])), ⟨(zAH (congrArg Nat.cast ((zJu hB (bit_y h2) hb).trans rfl))), trivial⟩⟩⟩⟩ trivial trivial rfl
  ·
   replace h2 := of_decide_eq_false h2
   refine zAJ ?_
   refine zAA rfl (.run [] [] rfl (zAB rfl) (.run [] [] rfl (zAX rfl rfl rfl (by omega)) (.run [] [] rfl (zAD rfl) .nil))) ?_
   refine zAA rfl (.run [] [] rfl (zAB rfl) (.run [] [] rfl (zBK (r / 2 ^ j) 1 rfl rfl rfl (by decide)) (.run [] [] rfl (zAD rfl) .nil))) ?_
   refine nxt (Q := fun _ _ => False) (z := j) (j + 1) ?_ ?_ ?_
   ·
    show (j + 1) ≤ 16
    have := hj16 (by have := h1; intro q; rw [q] at this; exact absurd rfl this); omega
   ·
    show 16 - (j + 1) < 16 - j
    have := hj16 (by have := h1; intro q; rw [q] at this; exact absurd rfl this); omega
   · exact zAK ⟨rfl, ⟨(zAH (by omega)), ⟨(zAH (by rw [Nat.pow_one, zEK])), ⟨(zAH (congrArg Nat.cast (zKi (bit_n h2)).symm)), trivial⟩⟩⟩⟩ trivial trivial rfl
 ·
  replace h1 : ((r / 2 ^ j : Nat) : Int) = 0 := of_decide_eq_true (zA5 h1)
  refine zAk ?_
  refine zAC ?_
  refine zAA rfl (.run [] [] rfl (zAB rfl) (.run [] [] rfl (zAD rfl) .nil)) ?_
  refine zAL ?_
  exact ends [_] [] (.cons (.tmp (zAH (congrArg Nat.cast (zHa (Int.ofNat_eq_zero.1 h1) (by omega)).symm))) .nil) (.cons (.one .v (.v _)) .nil) (by decide) trivial
end Go.Rl

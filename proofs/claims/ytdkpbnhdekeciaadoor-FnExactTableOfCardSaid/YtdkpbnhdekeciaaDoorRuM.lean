/- Promises of functions, proved by walks over their operations; no conditions beyond those that each theorem states. -/
import Derived.Test.YtdkpbnhdekeciaaDoorRtTi
set_option linter.unusedSimpArgs false
set_option linter.unusedVariables false
namespace Go.Rl
open Go.Proofs
theorem en79 : ∀ vs w, (callFunc 79 vs).run Tryd.prog w = .ok (.enter 79 vs) w := zAn Tryd.func79 (by decide) rfl
theorem en81 : ∀ vs w, (callFunc 81 vs).run Tryd.prog w = .ok (.enter 81 vs) w := zAn Tryd.func81 (by decide) rfl
theorem en58 : ∀ vs w, (callFunc 58 vs).run Tryd.prog w = .ok (.enter 58 vs) w := zAn Tryd.func58 (by decide) rfl
theorem en72 : ∀ vs w, (callFunc 72 vs).run Tryd.prog w = .ok (.enter 72 vs) w := zAn Tryd.func72 (by decide) rfl
theorem en38 : ∀ vs w, (callFunc 38 vs).run Tryd.prog w = .ok (.enter 38 vs) w := zAn Tryd.func38 (by decide) rfl
theorem zJ1 (u : ByteArray) : min (((1 + Lib.ctz 64 (zAh 7 u / 64) : Nat)) : Int) 58 = ((zBE u : Nat) : Int) := by rw [zBE, ← zJ2]; omega
theorem zHh {u : ByteArray} {k y : Nat} (h : zBd (zAh 7 u / 64) 57 = k + zBd y (57 - k)) (hk : k ≤ 57) (he : k = 57 ∨ ¬ y % 2 = 0) : zBE u = k + 1 := by
 rw [zBE, h]
 rcases he with he | he
 · subst he; rfl
 · rw [zIX he]
theorem zIz {x k y : Nat} (h : zBd x 57 = k + zBd y (57 - k)) (hk : k < 57) (he : y % 2 = 0) : zBd x 57 = (k + 1) + zBd (y / 2) (57 - (k + 1)) := by
 rw [h, show 57 - k = (57 - (k + 1)) + 1 by omega, zIC he]; omega
theorem zFs {r : List Nat} {u : ByteArray} {b : Nat} (h : r[zCC u]? = some b) : r.set (zCC u) (max b (zBE u)) = hllS r u := by rw [hllS, List.getD_eq_getElem?_getD, h]; rfl
theorem zHt {r : List Nat} {u : ByteArray} {b : Nat} (h : r[zCC u]? = some b) (hlt : b < zBE u) : r.set (zCC u) (zBE u) = hllS r u := by rw [← zFs h, show max b (zBE u) = zBE u by omega]
theorem zJI {r : List Nat} {u : ByteArray} {b : Nat} (h : r[zCC u]? = some b) (hlt : ¬ b < zBE u) : r = hllS r u := by
 rw [← zFs h, show max b (zBE u) = b by omega]
 refine List.ext_getElem? fun i => ?_
 by_cases q : zCC u = i
 · subst q; rw [List.getElem?_set_self (List.getElem?_eq_some_iff.1 h).1, h]
 · rw [List.getElem?_set_ne q]
theorem zHv : List.replicate 64 [PV.v (.int .u8 0)] = pvB (ints (List.replicate 64 0)) := by simp [pvB, ints]
set_option maxHeartbeats 1000000 in
theorem zIe (x k idx : Nat) (w : World) (hx0 : ((x : Int) == 0) = false)
  (key : IntKind.u64.wrap (Go.bits BinOp.and IntKind.u64 (x : Int) (IntKind.u64.wrap (-(x : Int))) * 285870213051353865) / 288230376151711744 = (idx : Int))
  (hi : idx < 64) (hk : k < 64) (hcell : w.cell? ⟨0, idx, none⟩ = some (.int .u8 k)) :
  Calls Tryd.prog 81 #[.int .u64 x] w fun e w' => e = .returned (.int .i64 k) ∧ w' = w := by
 go_enter Tryd.func81, Tryd.ntmps81
 go_wp2_with (simp only [key])
 go_ret
 exact ⟨rfl, rfl⟩
theorem zIc (w : World) : Calls Tryd.prog 81 #[.int .u64 0] w fun e w' => e = .returned (.int .i64 64) ∧ w' = w := by
 go_enter Tryd.func81, Tryd.ntmps81
 go_wp2
 go_ret
 exact ⟨rfl, rfl⟩
def TzAt (w : World) : Prop := ∀ x : Nat, x < 18446744073709551616 → Calls Tryd.prog 81 #[.int .u64 x] w fun e w' => e = .returned (.int .i64 (Lib.ctz 64 x)) ∧ w' = w
theorem tz_at {w : World} (hT : ∀ j, j < 64 → w.cell? ⟨0, j, none⟩ = some (.int .u8 ((Lib.deBruijn64tab.getD j 0 : Nat) : Int))) : TzAt w := fun x hx => by
 by_cases hx0 : x = 0
 ·
  subst hx0
  exact zIc w
 ·
  obtain ⟨hlow, hk⟩ := Lib.lowest_bit 64 x hx0 hx
  obtain ⟨hi, htab⟩ := Lib.deBruijn64_at _ hk
  have hcell := hT _ hi
  rw [htab] at hcell
  exact zIe x _ _ w (by simp; omega) (Go.Proofs.tz64_key x _ hx hx0 hlow) hi hk hcell
def TabG (γ : Gho) : Prop := ∃ o, γ = some (0, o) ∧ ∀ w : World, w.heap[0]? = some o → TzAt w
theorem tz_con {γ : Gho} (ht : TabG γ) (x : Nat) (hx : x < 18446744073709551616) : ConG γ Tryd.prog 81 [.one (.v (.int .u64 ((x : Nat) : Int)))] [] [.one (.v (.int .i64 ((Lib.ctz 64 x : Nat) : Int)))] := by
 intro Z w vs E hG ha _ _ _
 obtain ⟨o, hγ, hT⟩ := ht
 have htab := hT w (hG 0 o hγ).1 x hx
 obtain ⟨rfl, rfl⟩ : vs = [.int .u64 ((x : Nat) : Int)] ∧ E = [] := by
  cases ha with
  | cons h1 t1 =>
   cases t1
   cases h1 with
   | one h1 =>
    cases h1 with
    | nf _ h1 =>
     cases h1
     exact ⟨rfl, rfl⟩
 refine htab.mono ?_
 rintro e w' ⟨rfl, rfl⟩
 exact ⟨_, [], rfl, Same.refl [] _, fun i lf xs' h => by simp at h, .one (.one (.nf rfl (.v _ rfl))), by simp [Leaf.all], fun k hk => by simp [Leaf.all] at hk⟩
set_option maxRecDepth 1000000 in
set_option maxHeartbeats 2000000 in
theorem zJJ (h : ByteArray) (hs : h.size ≤ 9000000000000000000) : Con Tryd.prog 79 [.one (PV.v (.string h))] [] [.one (.v (.bool (zBk h)))] := by
 refine zAP Tryd.func79 rfl rfl rfl rfl ?_
 have hsz : decide ((h.size : Int) = 64) = decide (h.size = 64) := by congr 1; exact propext (by omega)
 refine zAC ?_
 refine zAA rfl (.run [] [] rfl (zAD rfl) .nil) ?_
 refine zAC ?_
 refine zAC ?_
 refine zAA rfl (.run [] [] rfl (zAB rfl) (.run [] [] rfl (zAR rfl rfl Tryd.underlying9) (.run [] [] rfl (zAB rfl) .nil))) ?_
 refine zAM ?_
 refine zAj (σ := Nat) (fun i => mk [(0, .p none (.v (.string h))), (5, .p none (.v (.int .i64 (h.size : Int)))), (6, .p none (.v (.int .i64 (i:Int))))] [] []) (fun i => i ≤ h.size ∧ zCQ h 58 i) (fun i => h.size - i) 0 ⟨Nat.zero_le _, zDN _ _⟩ (zAK ⟨rfl, ⟨rfl, ⟨(zAH (by omega)), trivial⟩⟩⟩ trivial trivial rfl) ?_
 rintro i hG
 replace hG : i ≤ h.size ∧ zCQ h 58 i := hG
 obtain ⟨hi, hS⟩ := hG
 refine zAC ?_
 refine zAA rfl (.run [] [] rfl (zAu rfl rfl rfl) .nil) ?_
 refine zAC ?_
 refine zAW (t := decide ((i:Int) < (h.size : Int))) rfl (fun h1 => ?_) (fun h1 => ?_)
 ·
  replace h1 := of_decide_eq_true h1
  refine zAJ ?_
  refine zAC ?_
  refine zAM ?_
  refine zAC ?_
  refine zAA rfl (.run [] [] rfl (zAB rfl) (.run [] [] rfl (zAD rfl) .nil)) ?_
  refine zAC ?_
  obtain ⟨b, hb⟩ : ∃ b : UInt8, h[i]? = some b := ⟨_, getElem?_pos h i (by omega)⟩
  refine zAA rfl (.run [] [] rfl (zAB rfl) (.run [] [] rfl (zAB rfl) (.run [] [] rfl (zCO rfl rfl rfl Tryd.underlying9 (by omega) hb) (.run [] [] rfl (zBy rfl rfl rfl) .nil)))) ?_
  refine zAW (t := decide (58 < (b.toNat : Int))) rfl (fun h2 => ?_) (fun h2 => ?_)
  ·
   replace h2 := of_decide_eq_true h2
   refine zAC ?_
   refine zAA rfl (.run [] [] rfl (zAD rfl) .nil) ?_
   refine zAL ?_
   exact ends [_] [] (.cons (.tmp (zAI (by rw [zBk, zH9 (m := 58) hb (by omega), Bool.and_false]))) .nil) (.cons (.one .v (.v _)) .nil) (by decide) trivial
  ·
   replace h2 := of_decide_eq_false h2
   refine zAJ ?_
   refine zAA rfl (.run [] [] rfl (zAX rfl rfl rfl (by omega)) (.run [] [] rfl (zAB rfl) .nil)) ?_
   refine nxt (Q := fun _ _ => False) (z := i) (i + 1) ?_ ?_ ?_
   ·
    show (i + 1) ≤ h.size ∧ zCQ h 58 (i + 1)
    exact ⟨by omega, zDO hS hb (by omega)⟩
   ·
    show h.size - (i + 1) < h.size - i
    omega
   · exact zAK ⟨rfl, ⟨rfl, ⟨(zAH (by omega)), trivial⟩⟩⟩ trivial trivial rfl
 ·
  replace h1 := of_decide_eq_false h1
  refine zAk ?_
  refine zAC ?_
  refine zAA rfl (.run [] [] rfl (zAB rfl) (.run [] [] rfl (zAR rfl rfl Tryd.underlying9) (.run [] [] rfl (zA6 rfl rfl rfl) (.run [] [] rfl (zAD rfl) .nil)))) ?_
  refine zAL ?_
  exact ends [_] [] (.cons (.tmp (zAI (by rw [zBk, zF6 hS (by omega), Bool.and_true, hsz]))) .nil) (.cons (.one .v (.v _)) .nil) (by decide) trivial
set_option maxRecDepth 1000000 in
set_option maxHeartbeats 2000000 in
theorem zII (h : ByteArray) (hs : h.size ≤ 9000000000000000000) : Con Tryd.prog 58 [.one (PV.v (.string h))] [] [.one (.v (.bool (zBk h)))] := by
 refine zAP Tryd.func58 rfl rfl rfl rfl ?_
 have hsz : decide ((h.size : Int) = 64) = decide (h.size = 64) := by congr 1; exact propext (by omega)
 refine zAC ?_
 refine zAA rfl (.run [] [] rfl (zAD rfl) .nil) ?_
 refine zAC ?_
 refine zAC ?_
 refine zAA rfl (.run [] [] rfl (zAB rfl) (.run [] [] rfl (zAR rfl rfl Tryd.underlying9) (.run [] [] rfl (zCH rfl rfl rfl) .nil))) ?_
 refine zAW (t := (!(decide ((h.size : Int) = 64)))) rfl (fun h1 => ?_) (fun h1 => ?_)
 ·
  replace h1 : ¬ ((h.size : Int) = 64) := of_decide_eq_false (zA4 h1)
  refine zAC ?_
  refine zAA rfl (.run [] [] rfl (zAD rfl) .nil) ?_
  refine zAL ?_
  exact ends [_] [] (.cons (.tmp (zAI (by rw [zBk, decide_eq_false (by omega), Bool.false_and]))) .nil) (.cons (.one .v (.v _)) .nil) (by decide) trivial
 ·
  replace h1 : (h.size : Int) = 64 := of_decide_eq_true (zA5 h1)
  refine zAJ ?_
  refine zAC ?_
  refine zAC ?_
  refine zAA rfl (.run [] [] rfl (zAD rfl) .nil) ?_
  refine zAM ?_
  refine zAj (σ := Nat) (fun i => mk [(0, .p none (.v (.string h))), (3, .p none (.v (.int .i64 (i:Int))))] [] []) (fun i => i ≤ h.size ∧ zCQ h 58 i) (fun i => h.size - i) 0 ⟨Nat.zero_le _, zDN _ _⟩ (zAK ⟨rfl, ⟨(zAH (by omega)), trivial⟩⟩ trivial trivial rfl) ?_
  rintro i hG
  replace hG : i ≤ h.size ∧ zCQ h 58 i := hG
  obtain ⟨hi, hS⟩ := hG
  refine zAC ?_
  refine zAC ?_
  refine zAA rfl (.run [] [] rfl (zAB rfl) (.run [] [] rfl (zAB rfl) (.run [] [] rfl (zAR rfl rfl Tryd.underlying9) (.run [] [] rfl (zAu rfl rfl rfl) .nil)))) ?_
  refine zAW (t := decide ((i:Int) < (h.size : Int))) rfl (fun h2 => ?_) (fun h2 => ?_)
  ·
   replace h2 := of_decide_eq_true h2
   refine zAJ ?_
   refine zAC ?_
   refine zAM ?_
   refine zAC ?_
   obtain ⟨b, hb⟩ : ∃ b : UInt8, h[i]? = some b := ⟨_, getElem?_pos h i (by omega)⟩
   refine zAA rfl (.run [] [] rfl (zAB rfl) (.run [] [] rfl (zAB rfl) (.run [] [] rfl (zCO rfl rfl rfl Tryd.underlying9 (by omega) hb) (.run [] [] rfl (zBy rfl rfl rfl) .nil)))) ?_
   refine zAW (t := decide (58 < (b.toNat : Int))) rfl (fun h3 => ?_) (fun h3 => ?_)
   ·
    replace h3 := of_decide_eq_true h3
    refine zAC ?_
    refine zAA rfl (.run [] [] rfl (zAD rfl) .nil) ?_
    refine zAL ?_
    exact ends [_] [] (.cons (.tmp (zAI (by rw [zBk, zH9 (m := 58) hb (by omega), Bool.and_false]))) .nil) (.cons (.one .v (.v _)) .nil) (by decide) trivial
   ·
    replace h3 := of_decide_eq_false h3
    refine zAJ ?_
    refine zAA rfl (.run [] [] rfl (zAB rfl) (.run [] [] rfl (zAX rfl rfl rfl (by omega)) (.run [] [] rfl (zAD rfl) .nil))) ?_
    refine nxt (Q := fun _ _ => False) (z := i) (i + 1) ?_ ?_ ?_
    ·
     show (i + 1) ≤ h.size ∧ zCQ h 58 (i + 1)
     exact ⟨by omega, zDO hS hb (by omega)⟩
    ·
     show h.size - (i + 1) < h.size - i
     omega
    · exact zAK ⟨rfl, ⟨(zAH (by omega)), trivial⟩⟩ trivial trivial rfl
  ·
   replace h2 := of_decide_eq_false h2
   refine zAk ?_
   refine zAC ?_
   refine zAA rfl (.run [] [] rfl (zAD rfl) .nil) ?_
   refine zAL ?_
   exact ends [_] [] (.cons (.tmp (zAI (by rw [zBk, zF6 hS (by omega), decide_eq_true (by omega), Bool.and_true]))) .nil) (.cons (.one .v (.v _)) .nil) (by decide) trivial
set_option maxRecDepth 1000000 in
set_option maxHeartbeats 2000000 in
theorem zIP {γ : Gho} (ht : TabG γ) (h : ByteArray) (hok : zBk h = true) (u : ByteArray) (hu : zBI u = true) : ConG γ Tryd.prog 72 [.one (PV.v (.string h)), .one (PV.v (.string u))] [] [.one (.v (.string (hllA h u)))] := by
 refine zAP Tryd.func72 rfl rfl rfl rfl ?_
 have hl := zEC hok
 have hbn := (zAt (zAo h)).trans ((zCV h).trans hl)
 have hat := zHu u
 have hus := zCK hu
 have hrk := zEr u
 have hhl := zHw 7 u
 have hbl := (zCV h).trans hl
 refine zAC ?_
 refine zAA rfl (.run [] [] rfl (zAD rfl) .nil) ?_
 refine zAC ?_
 refine zAC ?_
 rcases bfc (!(zBk h)) with h1 | h1
 ·
  have h1' := h1
  replace h1' : (zBk h) = true := zA5 h1'
  refine zAA rfl (.run [] [] rfl (zAB rfl) (.run [900] [] rfl (zAG rfl 900 (X := []) en79 rfl (.val nod) (.cons (.one (.bor .v)) .nil) (by decide) all_nil .nil (zJJ h (by omega)) rfl rfl (nle rfl)) (.run [] [] rfl (zAO (zA1 (b := zBk h) rfl rfl) (zAI h1)) (.run [] [] rfl (zAB rfl) (.run [] [] rfl (zAB rfl) (.run [1300] [] rfl (zAG rfl 1300 (X := []) en73 rfl (.val nod) (.cons (.one (.bor .v)) .nil) (by decide) all_nil .nil (zCt u) rfl rfl (nle rfl)) (.run [] [] rfl (zA1 (b := zBI u) rfl rfl) (.run [] [] rfl (zBR rfl rfl) .nil)))))))) ?_
  refine zAW (t := (!(zBI u))) rfl (fun h2 => ?_) (fun h2 => ?_)
  ·
   replace h2 : (zBI u) = false := zA4 h2
   rw [hu] at h2; cases h2
  ·
   replace h2 : (zBI u) = true := zA5 h2
   refine zAJ ?_
   refine zAC ?_
   refine zAA rfl (.run [] [] rfl (zAB rfl) (.run [1700] [] rfl (zAG rfl 1700 (X := []) en80 rfl (.val nod) (.cons (.one (.bor .v)) (.cons (.one (.bor .v)) .nil)) (by decide) all_nil .nil (zFt 7 u (by omega)) rfl rfl (nle rfl)) (.run [] [] rfl (zAD rfl) .nil))) ?_
   refine zAC ?_
   refine zAA rfl (.run [] [] rfl (zAB rfl) (.run [1900] [] rfl (zFa rfl 1900 h rfl Tryd.underlying9 Tryd.underlying67 Tryd.underlying5 (by decide) rfl (by decide) (by omega) (by simp only [maxLen]; omega)) (.run [] [] rfl (zAD rfl) .nil))) ?_
   refine zAC ?_
   obtain ⟨b, hb⟩ : ∃ b, (zAo h)[zCC u]? = some b := ⟨_, List.getElem?_eq_getElem (by omega)⟩
   have hb8 := zEy b (List.mem_of_getElem? hb)
   refine zAU (s' := mk [(5, .p none (.v (.int .u64 ((zAh 7 u : Nat) : Int)))), (6, .sl 1900 0 ((pvNb (zAo h)).length))] [] [(1900, 1, pvNb (zAo h))]) ?_ ?_
   · exact zAK ⟨rfl, ⟨rfl, trivial⟩⟩ trivial ⟨rfl, trivial⟩ rfl
   refine zAA rfl (.run [] [] rfl (zAB rfl) (.run [] [] rfl (zAB rfl) (.run [] [] rfl (zAO (zBx (zAh 7 u) 64 rfl rfl rfl (by omega)) ((zAH (show ((zAh 7 u % 64 : Nat) : Int) = ((zCC u : Nat) : Int) from rfl)))) (.run [] [] rfl (zAq (zCC u) rfl rfl rfl rfl Tryd.underlying67 Tryd.sizeOf5 rfl rfl (by omega)) (.run [] [] rfl (zAD rfl) .nil))))) ?_
   refine zAC ?_
   have hcz := ctz_le (zAh 7 u / 64) (by omega)
   refine zAU (s' := mk [(5, .p none (.v (.int .u64 ((zAh 7 u : Nat) : Int)))), (6, .sl 1900 0 ((pvNb (zAo h)).length)), (7, .ea 1900 (zCC u) 0)] [] [(1900, 1, pvNb (zAo h))]) ?_ ?_
   · exact zAK ⟨rfl, ⟨rfl, ⟨rfl, trivial⟩⟩⟩ trivial ⟨rfl, trivial⟩ rfl
   refine zAf zBj rfl (.run [] [] rfl (zAB rfl) (.run [] [] rfl (zAB rfl) (.run [] [] rfl (zBl rfl rfl) (.run [] [] rfl (zAy rfl rfl rfl (zBm hb) Tryd.isAgg5 rfl) (.run [] [] rfl (zAB rfl) (.run [] [] rfl (zAO (zDC (k := .u64) 18446744073709551616 rfl (zAh 7 u) 64 rfl rfl rfl rfl (by omega)) ((zAH (show (((zAh 7 u / 64) % 18446744073709551616 : Nat) : Int) = ((zAh 7 u / 64 : Nat) : Int) by omega)))) (.run [3000] [] rfl (zDM (.inr rfl) rfl 3000 (X := []) en81 rfl (.val nod) (.cons (.one (.bor .v)) .nil) (by decide) all_nil .nil (tz_con ht (zAh 7 u / 64) (by omega)) rfl rfl (nle rfl)) (.run [] [] rfl (zAO (zAX rfl rfl rfl (by omega)) ((zAH (by omega)))) (.run [] [] rfl (zAO (zIo rfl rfl rfl) ((zAH (zJ1 u)))) (.run [] [] rfl (zAO (zAe (k' := .u8) 256 rfl (zBE u) rfl rfl rfl Tryd.underlying3 Tryd.underlying5) ((zAH (show (((zBE u) % 256 : Nat) : Int) = ((zBE u : Nat) : Int) by omega)))) (.run [] [] rfl (zAO (zGE rfl rfl rfl) ((zAH (show max ((b : Nat) : Int) ((zBE u : Nat) : Int) = ((max b (zBE u) : Nat) : Int) by omega)))) (.run [] [] rfl (zBl rfl rfl) (.run [] [] rfl (zBM rfl rfl rfl (FlatP.nf (zCa _)) (zBm hb) rfl rfl (.cons .v .nil) Tryd.sizeOf5 rfl (nle rfl)) .nil))))))))))))) (by kernel_rfl) ?_
   have hr3 : (pvNb (zAo h)).set (zCC u) [PV.v (.int .u8 ((max b (zBE u) : Nat) : Int))] = pvNb (hllS (zAo h) u) := by rw [zDv, zFs hb]
   have hl4 : (pvNb (zAo h)).length = (pvNb (hllS (zAo h) u)).length := by first | (rw [← hr3, List.length_set]; done) | simp [zAt]
   have hp5 : (.sl 1900 0 ((pvNb (zAo h)).length) : AV) = .sl 1900 0 ((pvNb (hllS (zAo h) u)).length) := by first | exact congrArg (AV.sl 1900 0) hl4 | simp only [hr3, hl4]
   refine zAU (s' := mk [(6, .sl 1900 0 ((pvNb (hllS (zAo h) u)).length))] [] [(1900, 1, pvNb (hllS (zAo h) u))]) ?_ ?_
   · exact zAK ⟨hp5, trivial⟩ trivial ⟨(congrArg (fun x => some (1, x)) hr3), trivial⟩ rfl
   refine zAC ?_
   refine zAA rfl (.run [] [] rfl (zAB rfl) (.run [] [] rfl (zB2 (ints (hllS (zAo h) u)) rfl rfl (.give (len := (pvNb (hllS (zAo h) u)).length) (xs := pvNb (hllS (zAo h) u)) rfl rfl) rfl (zCB _) Tryd.underlying67 Tryd.underlying9 Tryd.underlying5) (.run [] [] rfl (zAD rfl) .nil))) ?_
   refine zAL ?_
   exact ends [_] [] (.cons (.tmp rfl) .nil) (.cons (.one .v (.v _)) .nil) (by decide) trivial
 ·
  have h1' := h1
  replace h1' : (zBk h) = false := zA4 h1'
  rw [hok] at h1'; cases h1'
set_option maxRecDepth 1000000 in
set_option maxHeartbeats 2000000 in
theorem zG9 (h : ByteArray) (hok : zBk h = true) (u : ByteArray) (hu : zBI u = true) : Con Tryd.prog 38 [.one (PV.v (.string h)), .one (PV.v (.string u))] [] [.one (.v (.string (hllA h u)))] := by
 refine zAP Tryd.func38 rfl rfl rfl rfl ?_
 have hl := zEC hok
 have hbn := (zAt (zAo h)).trans ((zCV h).trans hl)
 have hat := zHu u
 have hus := zCK hu
 have hrk := zEr u
 have hhl := zHw 7 u
 have hbl := (zCV h).trans hl
 refine zAC ?_
 refine zAA rfl (.run [] [] rfl (zAD rfl) .nil) ?_
 refine zAC ?_
 refine zAC ?_
 rcases bfc (!(zBk h)) with h1 | h1
 ·
  have h1' := h1
  replace h1' : (zBk h) = true := zA5 h1'
  refine zAA rfl (.run [] [] rfl (zAB rfl) (.run [1000] [] rfl (zAG rfl 1000 (X := []) en58 rfl (.val nod) (.cons (.one (.bor .v)) .nil) (by decide) all_nil .nil (zII h (by omega)) rfl rfl (nle rfl)) (.run [] [] rfl (zAO (zA1 (b := zBk h) rfl rfl) (zAI h1)) (.run [] [] rfl (zAB rfl) (.run [] [] rfl (zAB rfl) (.run [1400] [] rfl (zAG rfl 1400 (X := []) en55 rfl (.val nod) (.cons (.one (.bor .v)) .nil) (by decide) all_nil .nil (zCr u) rfl rfl (nle rfl)) (.run [] [] rfl (zA1 (b := zBI u) rfl rfl) (.run [] [] rfl (zBR rfl rfl) .nil)))))))) ?_
  refine zAW (t := (!(zBI u))) rfl (fun h2 => ?_) (fun h2 => ?_)
  ·
   replace h2 : (zBI u) = false := zA4 h2
   rw [hu] at h2; cases h2
  ·
   replace h2 : (zBI u) = true := zA5 h2
   refine zAJ ?_
   refine zAC ?_
   refine zAA rfl (.run [] [] rfl (zAB rfl) (.run [1800] [] rfl (zAG rfl 1800 (X := []) en59 rfl (.val nod) (.cons (.one (.bor .v)) (.cons (.one (.bor .v)) .nil)) (by decide) all_nil .nil (zEb 7 u (by omega)) rfl rfl (nle rfl)) (.run [] [] rfl (zAD rfl) .nil))) ?_
   refine zAC ?_
   refine zAA rfl (.run [] [] rfl (zAB rfl) (.run [] [] rfl (zAO (zBx (zAh 7 u) 64 rfl rfl rfl (by omega)) ((zAH (show ((zAh 7 u % 64 : Nat) : Int) = ((zCC u : Nat) : Int) from rfl)))) (.run [] [] rfl (zAD rfl) .nil))) ?_
   refine zAC ?_
   refine zAU (s' := mk [(0, .p none (.v (.string h))), (5, .p none (.v (.int .u64 ((zAh 7 u : Nat) : Int)))), (6, .p none (.v (.int .u64 ((zCC u : Nat) : Int))))] [] []) ?_ ?_
   · exact zAK ⟨rfl, ⟨rfl, ⟨rfl, trivial⟩⟩⟩ trivial trivial rfl
   refine zAA rfl (.run [] [] rfl (zAB rfl) (.run [] [] rfl (zAO (zDC (k := .u64) 18446744073709551616 rfl (zAh 7 u) 64 rfl rfl rfl rfl (by omega)) ((zAH (show (((zAh 7 u / 64) % 18446744073709551616 : Nat) : Int) = ((zAh 7 u / 64 : Nat) : Int) by omega)))) (.run [] [] rfl (zAD rfl) .nil))) ?_
   refine zAC ?_
   refine zAA rfl (.run [] [] rfl (zAD rfl) .nil) ?_
   refine zAC ?_
   refine zAM ?_
   refine zAj (σ := Nat × Nat) (fun (k, y) => mk [(0, .p none (.v (.string h))), (5, .p none (.v (.int .u64 ((y : Nat) : Int)))), (6, .p none (.v (.int .u64 ((zCC u : Nat) : Int)))), (7, .p none (.v (.int .i64 ((k + 1 : Nat) : Int))))] [] []) (fun (k, y) => (k ≤ 57 ∧ y < 18446744073709551616) ∧ zBd (zAh 7 u / 64) 57 = k + zBd y (57 - k)) (fun (k, y) => 57 - k) (0, zAh 7 u / 64) ⟨⟨by omega, by omega⟩, by rw [Nat.zero_add]⟩ (zAK ⟨rfl, ⟨rfl, ⟨rfl, ⟨rfl, trivial⟩⟩⟩⟩ trivial trivial rfl) ?_
   rintro ⟨k, y⟩ hG
   replace hG : (k ≤ 57 ∧ y < 18446744073709551616) ∧ zBd (zAh 7 u / 64) 57 = k + zBd y (57 - k) := hG
   obtain ⟨⟨hk, hy⟩, hz⟩ := hG
   refine zAC ?_
   refine zAC ?_
   rcases bfc (decide (((k + 1 : Nat) : Int) < 58)) with h3 | h3
   ·
    have h3' := h3
    replace h3' := of_decide_eq_false h3'
    refine zAA rfl (.run [] [] rfl (zAB rfl) (.run [] [] rfl (zAO (zAu rfl rfl rfl) (zAI h3)) (.run [] [] rfl (zAB rfl) (.not rfl (.not rfl (.not rfl (.run [] [] rfl (zBR rfl rfl) .nil))))))) ?_
    refine zAW (t := false) rfl (fun h => nomatch h) (fun _ => ?_)
    refine zAk ?_
    refine zAC ?_
    refine zAU (s' := mk [(0, .p none (.v (.string h))), (6, .p none (.v (.int .u64 ((zCC u : Nat) : Int)))), (7, .p none (.v (.int .i64 ((zBE u : Nat) : Int))))] [] []) ?_ ?_
    · exact zAK ⟨rfl, ⟨rfl, ⟨(zAH (by rw [zHh hz (by omega) (.inl (by omega))])), trivial⟩⟩⟩ trivial trivial rfl
    refine zAA rfl (.run [] [] rfl (zAB rfl) (.run [3500] [] rfl (zFa rfl 3500 h rfl Tryd.underlying9 Tryd.underlying67 Tryd.underlying5 (by decide) rfl (by decide) (by omega) (by simp only [maxLen]; omega)) (.run [] [] rfl (zAD rfl) .nil))) ?_
    refine zAC ?_
    refine zAC ?_
    obtain ⟨b, hb⟩ : ∃ b, (zAo h)[zCC u]? = some b := ⟨_, List.getElem?_eq_getElem (by omega)⟩
    have hb8 := zEy b (List.mem_of_getElem? hb)
    refine zAA rfl (.run [] [] rfl (zAB rfl) (.run [] [] rfl (zAB rfl) (.run [] [] rfl (zAq (zCC u) rfl rfl rfl rfl Tryd.underlying67 Tryd.sizeOf5 rfl rfl (by omega)) (.run [] [] rfl (zAy rfl rfl rfl (zBm hb) Tryd.isAgg5 rfl) (.run [] [] rfl (zER rfl rfl Tryd.underlying5 Tryd.underlying3 (by omega)) (.run [] [] rfl (zAB rfl) (.run [] [] rfl (zAu rfl rfl rfl) .nil))))))) ?_
    refine zAW (t := decide (((b : Nat) : Int) < ((zBE u : Nat) : Int))) rfl (fun h4 => ?_) (fun h4 => ?_)
    ·
     replace h4 := of_decide_eq_true h4
     refine zAA rfl (.run [] [] rfl (zAB rfl) (.run [] [] rfl (zAB rfl) (.run [] [] rfl (zAB rfl) (.run [] [] rfl (zAO (zAe (k' := .u8) 256 rfl (zBE u) rfl rfl rfl Tryd.underlying3 Tryd.underlying5) ((zAH (show (((zBE u) % 256 : Nat) : Int) = ((zBE u : Nat) : Int) by omega)))) (.run [] [] rfl (zAq (zCC u) rfl rfl rfl rfl Tryd.underlying67 Tryd.sizeOf5 rfl rfl (by omega)) (.run [] [] rfl (zBM rfl rfl rfl (FlatP.nf (zCa _)) (zBm hb) rfl rfl (.cons .v .nil) Tryd.sizeOf5 rfl (nle rfl)) .nil)))))) ?_
     have hr5 : (pvNb (zAo h)).set (zCC u) [PV.v (.int .u8 ((zBE u : Nat) : Int))] = pvNb (hllS (zAo h) u) := by rw [zDv, zHt hb (by omega)]
     have hl6 : (pvNb (zAo h)).length = (pvNb (hllS (zAo h) u)).length := by first | (rw [← hr5, List.length_set]; done) | simp [zAt]
     have hp7 : (.sl 3500 0 ((pvNb (zAo h)).length) : AV) = .sl 3500 0 ((pvNb (hllS (zAo h) u)).length) := by first | exact congrArg (AV.sl 3500 0) hl6 | simp only [hr5, hl6]
     refine zAU (s' := mk [(8, .sl 3500 0 ((pvNb (hllS (zAo h) u)).length))] [] [(3500, 1, pvNb (hllS (zAo h) u))]) ?_ ?_
     · exact zAK ⟨hp7, trivial⟩ trivial ⟨(congrArg (fun x => some (1, x)) hr5), trivial⟩ rfl
     refine zAC ?_
     refine zAA rfl (.run [] [] rfl (zAB rfl) (.run [] [] rfl (zB2 (ints (hllS (zAo h) u)) rfl rfl (.give (len := (pvNb (hllS (zAo h) u)).length) (xs := pvNb (hllS (zAo h) u)) rfl rfl) rfl (by first | exact zCB _ | exact hS0) Tryd.underlying67 Tryd.underlying9 Tryd.underlying5) (.run [] [] rfl (zAD rfl) .nil))) ?_
     refine zAL ?_
     exact ends [_] [] (.cons (.tmp rfl) .nil) (.cons (.one .v (.v _)) .nil) (by decide) trivial
    ·
     replace h4 := of_decide_eq_false h4
     refine zAJ ?_
     refine zAC ?_
     have hS0 : pvNb (zAo h) = pvB (ints (hllS (zAo h) u)) := by rw [← zJI hb (by omega)]; exact zCB _
     refine zAA rfl (.run [] [] rfl (zAB rfl) (.run [] [] rfl (zB2 (ints (hllS (zAo h) u)) rfl rfl (.give (len := (pvNb (zAo h)).length) (xs := pvNb (zAo h)) rfl rfl) rfl (by first | exact zCB _ | exact hS0) Tryd.underlying67 Tryd.underlying9 Tryd.underlying5) (.run [] [] rfl (zAD rfl) .nil))) ?_
     refine zAL ?_
     exact ends [_] [] (.cons (.tmp rfl) .nil) (.cons (.one .v (.v _)) .nil) (by decide) trivial
   ·
    have h3' := h3
    replace h3' := of_decide_eq_true h3'
    refine zAA rfl (.run [] [] rfl (zAB rfl) (.run [] [] rfl (zAO (zAu rfl rfl rfl) (zAI h3)) (.run [] [] rfl (zAB rfl) (.run [] [] rfl (zAB rfl) (.run [] [] rfl (zBx y 2 rfl rfl rfl (by omega)) (.run [] [] rfl (zA6 rfl rfl rfl) (.run [] [] rfl (zBZ rfl rfl) .nil))))))) ?_
    refine zAW (t := decide (((y % 2 : Nat) : Int) = 0)) rfl (fun h8 => ?_) (fun h8 => ?_)
    ·
     replace h8 := of_decide_eq_true h8
     refine zAJ ?_
     refine zAM ?_
     refine zAC ?_
     refine zAA rfl (.run [] [] rfl (zAB rfl) (.run [] [] rfl (zAX rfl rfl rfl (by omega)) (.run [] [] rfl (zAD rfl) .nil))) ?_
     refine zAA rfl (.run [] [] rfl (zAB rfl) (.run [] [] rfl (zDC (k := .u64) 18446744073709551616 rfl y 2 rfl rfl rfl rfl (by omega)) (.run [] [] rfl (zAD rfl) .nil))) ?_
     refine nxt (Q := fun _ _ => False) (z := (k, y)) (k + 1, y / 2) ?_ ?_ ?_
     ·
      show ((k + 1) ≤ 57 ∧ (y / 2) < 18446744073709551616) ∧ zBd (zAh 7 u / 64) 57 = (k + 1) + zBd (y / 2) (57 - (k + 1))
      exact ⟨⟨by omega, by omega⟩, zIz hz (by omega) (by omega)⟩
     ·
      show 57 - (k + 1) < 57 - k
      omega
     · exact zAK ⟨rfl, ⟨(zAH (by omega)), ⟨rfl, ⟨(zAH (by omega)), trivial⟩⟩⟩⟩ trivial trivial rfl
    ·
     replace h8 := of_decide_eq_false h8
     refine zAk ?_
     refine zAC ?_
     refine zAU (s' := mk [(0, .p none (.v (.string h))), (6, .p none (.v (.int .u64 ((zCC u : Nat) : Int)))), (7, .p none (.v (.int .i64 ((zBE u : Nat) : Int))))] [] []) ?_ ?_
     · exact zAK ⟨rfl, ⟨rfl, ⟨(zAH (by rw [zHh hz (by omega) (.inr (by omega))])), trivial⟩⟩⟩ trivial trivial rfl
     refine zAA rfl (.run [] [] rfl (zAB rfl) (.run [3500] [] rfl (zFa rfl 3500 h rfl Tryd.underlying9 Tryd.underlying67 Tryd.underlying5 (by decide) rfl (by decide) (by omega) (by simp only [maxLen]; omega)) (.run [] [] rfl (zAD rfl) .nil))) ?_
     refine zAC ?_
     refine zAC ?_
     obtain ⟨b, hb⟩ : ∃ b, (zAo h)[zCC u]? = some b := ⟨_, List.getElem?_eq_getElem (by omega)⟩
     have hb8 := zEy b (List.mem_of_getElem? hb)
     refine zAA rfl (.run [] [] rfl (zAB rfl) (.run [] [] rfl (zAB rfl) (.run [] [] rfl (zAq (zCC u) rfl rfl rfl rfl Tryd.underlying67 Tryd.sizeOf5 rfl rfl (by omega)) (.run [] [] rfl (zAy rfl rfl rfl (zBm hb) Tryd.isAgg5 rfl) (.run [] [] rfl (zER rfl rfl Tryd.underlying5 Tryd.underlying3 (by omega)) (.run [] [] rfl (zAB rfl) (.run [] [] rfl (zAu rfl rfl rfl) .nil))))))) ?_
     refine zAW (t := decide (((b : Nat) : Int) < ((zBE u : Nat) : Int))) rfl (fun h9 => ?_) (fun h9 => ?_)
     ·
      replace h9 := of_decide_eq_true h9
      refine zAA rfl (.run [] [] rfl (zAB rfl) (.run [] [] rfl (zAB rfl) (.run [] [] rfl (zAB rfl) (.run [] [] rfl (zAO (zAe (k' := .u8) 256 rfl (zBE u) rfl rfl rfl Tryd.underlying3 Tryd.underlying5) ((zAH (show (((zBE u) % 256 : Nat) : Int) = ((zBE u : Nat) : Int) by omega)))) (.run [] [] rfl (zAq (zCC u) rfl rfl rfl rfl Tryd.underlying67 Tryd.sizeOf5 rfl rfl (by omega)) (.run [] [] rfl (zBM rfl rfl rfl (FlatP.nf (zCa _)) (zBm hb) rfl rfl (.cons .v .nil) Tryd.sizeOf5 rfl (nle rfl)) .nil)))))) ?_
      have hr10 : (pvNb (zAo h)).set (zCC u) [PV.v (.int .u8 ((zBE u : Nat) : Int))] = pvNb (hllS (zAo h) u) := by rw [zDv, zHt hb (by omega)]
      have hl11 : (pvNb (zAo h)).length = (pvNb (hllS (zAo h) u)).length := by first | (rw [← hr10, List.length_set]; done) | simp [zAt]
      have hp12 : (.sl 3500 0 ((pvNb (zAo h)).length) : AV) = .sl 3500 0 ((pvNb (hllS (zAo h) u)).length) := by first | exact congrArg (AV.sl 3500 0) hl11 | simp only [hr10, hl11]
      refine zAU (s' := mk [(8, .sl 3500 0 ((pvNb (hllS (zAo h) u)).length))] [] [(3500, 1, pvNb (hllS (zAo h) u))]) ?_ ?_
      · exact zAK ⟨hp12, trivial⟩ trivial ⟨(congrArg (fun x => some (1, x)) hr10), trivial⟩ rfl
      refine zAC ?_
      refine zAA rfl (.run [] [] rfl (zAB rfl) (.run [] [] rfl (zB2 (ints (hllS (zAo h) u)) rfl rfl (.give (len := (pvNb (hllS (zAo h) u)).length) (xs := pvNb (hllS (zAo h) u)) rfl rfl) rfl (by first | exact zCB _ | exact hS0) Tryd.underlying67 Tryd.underlying9 Tryd.underlying5) (.run [] [] rfl (zAD rfl) .nil))) ?_
      refine zAL ?_
      exact ends [_] [] (.cons (.tmp rfl) .nil) (.cons (.one .v (.v _)) .nil) (by decide) trivial
     ·
      replace h9 := of_decide_eq_false h9
      refine zAJ ?_
      refine zAC ?_
      have hS0 : pvNb (zAo h) = pvB (ints (hllS (zAo h) u)) := by rw [← zJI hb (by omega)]; exact zCB _
      refine zAA rfl (.run [] [] rfl (zAB rfl) (.run [] [] rfl (zB2 (ints (hllS (zAo h) u)) rfl rfl (.give (len := (pvNb (zAo h)).length) (xs := pvNb (zAo h)) rfl rfl) rfl (by first | exact zCB _ | exact hS0) Tryd.underlying67 Tryd.underlying9 Tryd.underlying5) (.run [] [] rfl (zAD rfl) .nil))) ?_
      refine zAL ?_
      exact ends [_] [] (.cons (.tmp rfl) .nil) (.cons (.one .v (.v _)) .nil) (by decide) trivial
 ·
  have h1' := h1
  replace h1' : (zBk h) = false := zA4 h1'
  rw [hok] at h1'; cases h1'
set_option maxRecDepth 1000000 in
set_option maxHeartbeats 2000000 in
theorem zJK {γ : Gho} (ht : TabG γ) (us : List ByteArray) (hu : ∀ u ∈ us, zBI u = true) (hn : us.length ≤ 400) : ConG γ Tryd.prog 52 [.one (PV.sl false 1 (pvT us))] [] [.one (.v (.string (hllF us)))] := by
 refine zAP Tryd.func52 rfl rfl rfl rfl ?_
 have hle := zAg us
 refine zAC ?_
 refine zAA rfl (.run [] [] rfl (zAD rfl) .nil) ?_
 refine zAC ?_
 refine zAC ?_
 refine zAA rfl (.run [] [] rfl (zAB rfl) (.run [700] [] rfl (zAG rfl 700 (X := []) en68 rfl (.val nod) (.cons (.one (.bor (.sl nod))) .nil) (by decide) all_nil .nil (zCx us (by assumption) (by omega)) rfl rfl (nle rfl)) (.run [] [] rfl (zA1 (b := true) rfl rfl) .nil))) ?_
 refine zAW (t := false) rfl (fun h => nomatch h) (fun _ => ?_)
 refine zAJ ?_
 refine zAC ?_
 refine zAA rfl (.run [900] [] rfl (zCl rfl 900 (l := 64) (c := 64) rfl rfl Tryd.underlying67 inf5 rfl rfl (by decide) rfl (by decide) (by omega) (by omega) (by simp only [maxLen]; omega)) (.run [] [] rfl (zB2 (ints (List.replicate 64 0)) rfl rfl (.give (len := 64) (xs := List.replicate 64 [PV.v (.int .u8 0)]) rfl rfl) rfl zHv Tryd.underlying67 Tryd.underlying9 Tryd.underlying5) (.run [] [] rfl (zAD rfl) .nil))) ?_
 refine zAC ?_
 refine zAC ?_
 refine zAA rfl (.run [] [] rfl (zAB rfl) (.run [] [] rfl (zAa rfl rfl Tryd.underlying49) (.run [] [] rfl (zAB rfl) .nil))) ?_
 refine zAM ?_
 refine zAj (σ := Nat) (fun i => mk [(3, .p none (.v (.string (hllN us i)))), (11, .p none (.sl false 1 (pvT us))), (12, .p none (.v (.int .i64 ((pvT us).length : Int)))), (13, .p none (.v (.int .i64 (i:Int))))] [] []) (fun i => i ≤ us.length) (fun i => us.length - i) 0 (by simp) (zAK ⟨(zAz (by rfl)), ⟨rfl, ⟨rfl, ⟨(zAH (by omega)), trivial⟩⟩⟩⟩ trivial trivial rfl) ?_
 rintro i hG
 replace hG : i ≤ us.length := hG
 refine zAC ?_
 refine zAA rfl (.run [] [] rfl (zAu rfl rfl rfl) .nil) ?_
 refine zAC ?_
 refine zAW (t := decide ((i:Int) < ((pvT us).length : Int))) rfl (fun h1 => ?_) (fun h1 => ?_)
 ·
  replace h1 := of_decide_eq_true h1
  refine zAJ ?_
  refine zAC ?_
  refine zAM ?_
  refine zAC ?_
  obtain ⟨x, hx⟩ : ∃ x, us[i]? = some x := ⟨_, List.getElem?_eq_getElem (by omega)⟩
  have huo := hu _ (List.mem_of_getElem? hx)
  have hus := zCK huo
  refine zAA rfl (.run [] [] rfl (zAm rfl rfl rfl Tryd.underlying49 Tryd.sizeOf9 rfl (by omega) (zB3 hx)) (.run [] [] rfl (zA2 rfl rfl Tryd.isAgg9 rfl) (.run [] [] rfl (zAD rfl) .nil))) ?_
  refine zAA rfl (.run [] [] rfl (zAB rfl) (.run [] [] rfl (zAB rfl) (.run [1900] [] rfl (zDM (.inr rfl) rfl 1900 (X := []) en72 rfl (.val nod) (.cons (.one (.bor .v)) (.cons (.one (.bor .v)) .nil)) (by decide) all_nil .nil (zIP ht (hllN us i) (zDo us i) x huo) rfl rfl (nle rfl)) (.run [] [] rfl (zAD rfl) .nil)))) ?_
  refine zAA rfl (.run [] [] rfl (zAX rfl rfl rfl (by omega)) (.run [] [] rfl (zAB rfl) .nil)) ?_
  refine nxt (Q := fun _ _ => False) (z := i) (i + 1) ?_ ?_ ?_
  ·
   show (i + 1) ≤ us.length
   omega
  ·
   show us.length - (i + 1) < us.length - i
   omega
  · exact zAK ⟨(zAz (by rw [zGY hx])), ⟨rfl, ⟨rfl, ⟨(zAH (by omega)), trivial⟩⟩⟩⟩ trivial trivial rfl
 ·
  replace h1 := of_decide_eq_false h1
  refine zAk ?_
  refine zAC ?_
  refine zAA rfl (.run [] [] rfl (zAB rfl) (.run [] [] rfl (zAD rfl) .nil)) ?_
  refine zAL ?_
  exact ends [_] [] (.cons (.tmp (zAz (by rw [show i = us.length by omega]; rfl))) .nil) (.cons (.one .v (.v _)) .nil) (by decide) trivial
set_option maxRecDepth 1000000 in
set_option maxHeartbeats 2000000 in
theorem zIJ (us : List ByteArray) (hu : ∀ u ∈ us, zBI u = true) (hn : us.length ≤ 400) : Con Tryd.prog 20 [.one (PV.sl false 1 (pvT us))] [] [.one (.v (.string (hllF us)))] := by
 refine zAP Tryd.func20 rfl rfl rfl rfl ?_
 have hle := zAg us
 refine zAC ?_
 refine zAA rfl (.run [] [] rfl (zAD rfl) .nil) ?_
 refine zAC ?_
 refine zAC ?_
 refine zAA rfl (.run [] [] rfl (zAB rfl) (.run [600] [] rfl (zAG rfl 600 (X := []) en35 rfl (.val nod) (.cons (.one (.bor (.sl nod))) .nil) (by decide) all_nil .nil (zCh us (by assumption) (by omega)) rfl rfl (nle rfl)) (.run [] [] rfl (zA1 (b := true) rfl rfl) .nil))) ?_
 refine zAW (t := false) rfl (fun h => nomatch h) (fun _ => ?_)
 refine zAJ ?_
 refine zAC ?_
 refine zAA rfl (.run [800] [] rfl (zCl rfl 800 (l := 64) (c := 64) rfl rfl Tryd.underlying67 inf5 rfl rfl (by decide) rfl (by decide) (by omega) (by omega) (by simp only [maxLen]; omega)) (.run [] [] rfl (zB2 (ints (List.replicate 64 0)) rfl rfl (.give (len := 64) (xs := List.replicate 64 [PV.v (.int .u8 0)]) rfl rfl) rfl zHv Tryd.underlying67 Tryd.underlying9 Tryd.underlying5) (.run [] [] rfl (zAD rfl) .nil))) ?_
 refine zAC ?_
 refine zAC ?_
 refine zAA rfl (.run [] [] rfl (zAD rfl) .nil) ?_
 refine zAM ?_
 refine zAj (σ := Nat) (fun i => mk [(0, .p none (.sl false 1 (pvT us))), (3, .p none (.v (.string (hllN us i)))), (4, .p none (.v (.int .i64 (i:Int))))] [] []) (fun i => i ≤ us.length) (fun i => us.length - i) 0 (by simp) (zAK ⟨rfl, ⟨(zAz (by rfl)), ⟨(zAH (by omega)), trivial⟩⟩⟩ trivial trivial rfl) ?_
 rintro i hG
 replace hG : i ≤ us.length := hG
 refine zAC ?_
 refine zAC ?_
 refine zAA rfl (.run [] [] rfl (zAB rfl) (.run [] [] rfl (zAB rfl) (.run [] [] rfl (zAa rfl rfl Tryd.underlying49) (.run [] [] rfl (zAu rfl rfl rfl) .nil)))) ?_
 refine zAW (t := decide ((i:Int) < ((pvT us).length : Int))) rfl (fun h1 => ?_) (fun h1 => ?_)
 ·
  replace h1 := of_decide_eq_true h1
  refine zAJ ?_
  refine zAC ?_
  refine zAM ?_
  obtain ⟨x, hx⟩ : ∃ x, us[i]? = some x := ⟨_, List.getElem?_eq_getElem (by omega)⟩
  have huo := hu _ (List.mem_of_getElem? hx)
  have hus := zCK huo
  refine zAA rfl (.run [] [] rfl (zAB rfl) (.run [] [] rfl (zAB rfl) (.run [] [] rfl (zAB rfl) (.run [] [] rfl (zAm rfl rfl rfl Tryd.underlying49 Tryd.sizeOf9 rfl (by omega) (zB3 hx)) (.run [] [] rfl (zA2 rfl rfl Tryd.isAgg9 rfl) (.run [2100] [] rfl (zAG rfl 2100 (X := []) en38 rfl (.val nod) (.cons (.one (.bor .v)) (.cons (.one (.bor .v)) .nil)) (by decide) all_nil .nil (zG9 (hllN us i) (zDo us i) x huo) rfl rfl (nle rfl)) (.run [] [] rfl (zAD rfl) .nil))))))) ?_
  refine zAA rfl (.run [] [] rfl (zAB rfl) (.run [] [] rfl (zAX rfl rfl rfl (by omega)) (.run [] [] rfl (zAD rfl) .nil))) ?_
  refine nxt (Q := fun _ _ => False) (z := i) (i + 1) ?_ ?_ ?_
  ·
   show (i + 1) ≤ us.length
   omega
  ·
   show us.length - (i + 1) < us.length - i
   omega
  · exact zAK ⟨rfl, ⟨(zAz (by rw [zGY hx])), ⟨(zAH (by omega)), trivial⟩⟩⟩ trivial trivial rfl
 ·
  replace h1 := of_decide_eq_false h1
  refine zAk ?_
  refine zAC ?_
  refine zAA rfl (.run [] [] rfl (zAB rfl) (.run [] [] rfl (zAD rfl) .nil)) ?_
  refine zAL ?_
  exact ends [_] [] (.cons (.tmp (zAz (by rw [show i = us.length by omega]; rfl))) .nil) (.cons (.one .v (.v _)) .nil) (by decide) trivial
end Go.Rl
namespace Go.Rl
open Go.Proofs
theorem en44 : ∀ vs w, (callFunc 44 vs).run Tryd.prog w = .ok (.enter 44 vs) w := zAn Tryd.func44 (by decide) rfl
theorem en48 : ∀ vs w, (callFunc 48 vs).run Tryd.prog w = .ok (.enter 48 vs) w := zAn Tryd.func48 (by decide) rfl
theorem en49 : ∀ vs w, (callFunc 49 vs).run Tryd.prog w = .ok (.enter 49 vs) w := zAn Tryd.func49 (by decide) rfl
theorem en50 : ∀ vs w, (callFunc 50 vs).run Tryd.prog w = .ok (.enter 50 vs) w := zAn Tryd.func50 (by decide) rfl
theorem en51 : ∀ vs w, (callFunc 51 vs).run Tryd.prog w = .ok (.enter 51 vs) w := zAn Tryd.func51 (by decide) rfl
theorem en52 : ∀ vs w, (callFunc 52 vs).run Tryd.prog w = .ok (.enter 52 vs) w := zAn Tryd.func52 (by decide) rfl
theorem zI0 (l : List Ent) (x : Ent) : pvE l ++ [[PV.v (.string x.user), PV.v (.int .i64 x.seq), PV.v (.int .i64 x.kind), PV.v (.string x.value)]] = pvE (l ++ [x]) := by simp [pvE, Ent.pv]
theorem zCp {s : ByteArray} (h : s.size ≤ 4000000000000000000) : (secF s).size ≤ s.size + 14 := by
 have := zBB (s := s) (by omega)
 simp only [secF, zAY, zAQ]; omega
set_option maxRecDepth 1000000 in
set_option maxHeartbeats 2000000 in
theorem zIh {γ : Gho} (ht : TabG γ) (l : List Ent) (ev sz kd : Nat) (hok : zBD l = true) (h0 : 0 < l.length) (hev : 1 ≤ ev ∧ ev ≤ 16) (hsz : sz ≤ 4000) (hkd : kd ≤ 2) : ConG γ Tryd.prog 26 [.one (PV.sl false 4 (pvE l)), .agg [PV.v (.int .i64 (ev:Int)), PV.v (.int .i64 (sz:Int)), PV.v (.int .i64 (kd:Int))]] [] [.one (.v (.string (zDB l ev sz kd)))] := by
 refine zAP Tryd.func26 rfl rfl rfl rfl ?_
 have hle := zAc l
 have hl : ∀ e ∈ l, zBV e = true := fun e he => zC2 hok he
 have hn := zC3 hok
 have hu := zF7 hok
 have hul := zE8 hok
 refine zAC ?_
 refine zAA rfl (.run [] [3] rfl (zBa rfl 3 rfl rfl (by decide) rfl (by decide)) (.run [] [] rfl (zAD rfl) .nil)) ?_
 refine zAC ?_
 refine zAA rfl (.run [1700] [] rfl (zAv rfl 1700 Tryd.underlying28 zE5 (nle rfl) (by decide) rfl rfl rfl .nil (by decide) rfl (by decide) rfl (by decide) rfl) (.run [] [] rfl (zAD rfl) (.run [] [] rfl (zAD rfl) (.run [] [] rfl (zAD rfl) .nil)))) ?_
 refine zAC ?_
 refine zAC ?_
 refine zAA rfl (.run [] [] rfl (zAB rfl) (.run [] [] rfl (zAa rfl rfl Tryd.underlying28) (.run [] [] rfl (zAB rfl) .nil))) ?_
 refine zAM ?_
 refine zAU (zCe 1700 1 rfl rfl (by decide)) ?_
 refine zAj (σ := Nat) (fun i => mk [(0, .p none (.sl false 4 (pvE l))), (3, .ptr 3 0), (5, .p none (.v (.string ((tabN l ev sz i).out)))), (6, .p none (.v (.string ((tabN l ev sz i).index)))), (7, .sl 1 0 ((pvE (curT l (tabN l ev sz i).start i)).length)), (18, .p none (.sl false 4 (pvE l))), (19, .p none (.v (.int .i64 ((pvE l).length : Int)))), (20, .p none (.v (.int .i64 (i:Int))))] [(3, [.p none (.v (.int .i64 (ev:Int))), .p none (.v (.int .i64 (sz:Int))), .p none (.v (.int .i64 (kd:Int)))])] [(1, 4, pvE (curT l (tabN l ev sz i).start i))]) (fun i => i ≤ l.length) (fun i => l.length - i) 0 (by simp) (zAK ⟨rfl, ⟨rfl, ⟨(zAz (by rfl)), ⟨(zAz (by rfl)), ⟨rfl, ⟨rfl, ⟨rfl, ⟨(zAH (by omega)), trivial⟩⟩⟩⟩⟩⟩⟩⟩ ⟨rfl, trivial⟩ ⟨(congrArg (fun x => some (4, x)) (by rfl)), trivial⟩ rfl) ?_
 rintro i hG
 replace hG : i ≤ l.length := hG
 have hT := zFY hl (ev := ev) (sz := sz) i (by omega)
 have hTs := zCy (ev := ev) hl hn hsz i (by omega)
 refine zAC ?_
 refine zAA rfl (.run [] [] rfl (zAu rfl rfl rfl) .nil) ?_
 refine zAC ?_
 refine zAW (t := decide ((i:Int) < ((pvE l).length : Int))) rfl (fun h1 => ?_) (fun h1 => ?_)
 ·
  replace h1 := of_decide_eq_true h1
  refine zAJ ?_
  refine zAC ?_
  refine zAM ?_
  refine zAC ?_
  obtain ⟨e, he⟩ : ∃ e, l[i]? = some e := ⟨_, List.getElem?_eq_getElem (by omega)⟩
  have hen := zC2 hok (List.mem_of_getElem? he)
  have hnn := zC5 hen
  have hbk := zG2 (ev := ev) (sz := sz) hl (show i < l.length by omega)
  have hcl := zF1 (l := l) (show (tabN l ev sz i).start ≤ i + 1 by omega) (show i + 1 ≤ l.length by omega)
  have hcv := zAc (curT l (tabN l ev sz i).start i)
  have hcl0 := zF1 (l := l) hT.1 (show i ≤ l.length by omega)
  have hps1 := zAl (n := (tabN l ev sz i).out.size) (by omega)
  have hps2 := zBB (s := keyT e) (by omega)
  have hps3 := zCp (s := blkF (curT l (tabN l ev sz i).start (i + 1)) ev) (by omega)
  refine zAA rfl (.run [] [] rfl (zAB rfl) (.run [] [] rfl (zAm rfl rfl rfl Tryd.underlying28 Tryd.sizeOf48 rfl (by omega) (zBW he)) (.run [] [] rfl (zBA rfl rfl Tryd.isAgg48 Tryd.sizeOf48 (nle rfl)) (.run [] [9] rfl (zA7 rfl 9 zE5 rfl (by decide) rfl (by decide)) (.run [] [] rfl (zAD rfl) (.run [] [] rfl (zAS rfl rfl rfl rfl rfl Tryd.sizeOf48 rfl (nle rfl)) .nil)))))) ?_
  refine zAC ?_
  refine zAA rfl (.run [] [] rfl (zAB rfl) (.run [] [] rfl (zAV rfl rfl rfl Tryd.isAgg48 Tryd.sizeOf48 (nle rfl)) (.run [2700] [] rfl (zAv rfl 2700 Tryd.underlying28 zE5 (nle rfl) (by decide) rfl rfl rfl (.cons .v (.cons .v (.cons .v (.cons .v .nil)))) (by decide) rfl (by decide) rfl (by decide) rfl) (.run [1] [] rfl (zB8 rfl 1 (ib := 1) (len := ((pvE (curT l (tabN l ev sz i).start i)) ++ [[PV.v (.string e.user), PV.v (.int .i64 e.seq), PV.v (.int .i64 e.kind), PV.v (.string e.value)]]).length) rfl rfl (.row (len := (pvE (curT l (tabN l ev sz i).start i)).length) (xs := pvE (curT l (tabN l ev sz i).start i)) rfl rfl (.inl rfl)) (.give (len := 1) (xs := [[PV.v (.string e.user), PV.v (.int .i64 e.seq), PV.v (.int .i64 e.kind), PV.v (.string e.value)]]) rfl rfl) Tryd.underlying28 (sk Tryd.underlying28 rfl) zE5 rfl (by decide) (by decide) (by decide) List.length_append (by simp only [maxLen, List.length_append, List.length_map, List.length_cons, List.length_nil, List.length_take, List.length_drop, zAc, zBG, zAg, zBH, zAt, zBN, zCU]; omega) (by simp only [maxLen, List.length_append, List.length_map, List.length_cons, List.length_nil, List.length_take, List.length_drop, zAc, zBG, zAg, zBH, zAt, zBN, zCU]; omega)) (.run [] [] rfl (zAD rfl) .nil))))) ?_
  have hr2 : (pvE (curT l (tabN l ev sz i).start i)) ++ [[PV.v (.string e.user), PV.v (.int .i64 e.seq), PV.v (.int .i64 e.kind), PV.v (.string e.value)]] = pvE (curT l (tabN l ev sz i).start (i + 1)) := by exact (zI0 _ _).trans (congrArg pvE (zKV he hT.1))
  have hp3 : (.sl 1 0 (((pvE (curT l (tabN l ev sz i).start i)) ++ [[PV.v (.string e.user), PV.v (.int .i64 e.seq), PV.v (.int .i64 e.kind), PV.v (.string e.value)]]).length) : AV) = .sl 1 0 ((pvE (curT l (tabN l ev sz i).start (i + 1))).length) := by simp only [hr2]
  refine zAU (s' := mk [(0, .p none (.sl false 4 (pvE l))), (3, .ptr 3 0), (5, .p none (.v (.string ((tabN l ev sz i).out)))), (6, .p none (.v (.string ((tabN l ev sz i).index)))), (7, .sl 1 0 ((pvE (curT l (tabN l ev sz i).start (i + 1))).length)), (8, .p none (.v (.int .i64 (i:Int)))), (9, .ptr 9 0), (18, .p none (.sl false 4 (pvE l))), (19, .p none (.v (.int .i64 ((pvE l).length : Int)))), (20, .p none (.v (.int .i64 (i:Int))))] [(3, [.p none (.v (.int .i64 (ev:Int))), .p none (.v (.int .i64 (sz:Int))), .p none (.v (.int .i64 (kd:Int)))]), (9, [.p none (.v (.string e.user)), .p none (.v (.int .i64 e.seq)), .p none (.v (.int .i64 e.kind)), .p none (.v (.string e.value))])] [(1, 4, pvE (curT l (tabN l ev sz i).start (i + 1)))]) ?_ ?_
  · exact zAK ⟨rfl, ⟨rfl, ⟨rfl, ⟨rfl, ⟨hp3, ⟨rfl, ⟨rfl, ⟨rfl, ⟨rfl, ⟨rfl, trivial⟩⟩⟩⟩⟩⟩⟩⟩⟩⟩ ⟨rfl, ⟨rfl, trivial⟩⟩ ⟨(congrArg (fun x => some (4, x)) hr2), trivial⟩ rfl
  refine zAC ?_
  refine zAA rfl (.run [] [] rfl (zAB rfl) (.run [] [] rfl (zAE rfl rfl Tryd.underlying30 rfl Tryd.sizeOf2 (by decide)) (.run [] [] rfl (zAF rfl rfl rfl Tryd.isAgg2 rfl) (.run [1, 3200] [] rfl (zAG rfl 3200 (X := []) en44 rfl (.val nod) (.cons (.one (.bor (.all (len := (pvE (curT l (tabN l ev sz i).start (i + 1))).length) (xs := pvE (curT l (tabN l ev sz i).start (i + 1))) rfl rfl (by decide)))) (.cons (.one (.bor .v)) .nil)) (by decide) all_nil .nil (zJe (curT l (tabN l ev sz i).start (i + 1)) ev (fun x hx => hl x (cur_mem hx)) (by omega) hev) rfl rfl (nle rfl)) (.run [] [] rfl (zAD rfl) .nil))))) ?_
  refine zAC ?_
  refine zAC ?_
  refine zAU (s' := mk [(0, .p none (.sl false 4 (pvE l))), (3, .ptr 3 0), (5, .p none (.v (.string ((tabN l ev sz i).out)))), (6, .p none (.v (.string ((tabN l ev sz i).index)))), (7, .sl 1 0 ((pvE (curT l (tabN l ev sz i).start (i + 1))).length)), (8, .p none (.v (.int .i64 (i:Int)))), (9, .ptr 9 0), (10, .p none (.v (.string (blkF (curT l (tabN l ev sz i).start (i + 1)) ev)))), (18, .p none (.sl false 4 (pvE l))), (19, .p none (.v (.int .i64 ((pvE l).length : Int)))), (20, .p none (.v (.int .i64 (i:Int))))] [(3, [.p none (.v (.int .i64 (ev:Int))), .p none (.v (.int .i64 (sz:Int))), .p none (.v (.int .i64 (kd:Int)))]), (9, [.p none (.v (.string e.user)), .p none (.v (.int .i64 e.seq)), .p none (.v (.int .i64 e.kind)), .p none (.v (.string e.value))])] [(1, 4, pvE (curT l (tabN l ev sz i).start (i + 1)))]) ?_ ?_
  · exact zAK ⟨rfl, ⟨rfl, ⟨rfl, ⟨rfl, ⟨rfl, ⟨rfl, ⟨rfl, ⟨rfl, ⟨rfl, ⟨rfl, ⟨rfl, trivial⟩⟩⟩⟩⟩⟩⟩⟩⟩⟩⟩ ⟨rfl, ⟨rfl, trivial⟩⟩ ⟨rfl, trivial⟩ rfl
  rcases bfc (decide (((blkF (curT l (tabN l ev sz i).start (i + 1)) ev).size : Int) < (sz:Int))) with h4 | h4
  ·
   have h4' := h4
   replace h4' := of_decide_eq_false h4'
   refine zAA rfl (.run [] [] rfl (zAB rfl) (.run [] [] rfl (zAR rfl rfl Tryd.underlying9) (.run [] [] rfl (zAE rfl rfl Tryd.underlying30 rfl Tryd.sizeOf2 (by decide)) (.run [] [] rfl (zAF rfl rfl rfl Tryd.isAgg2 rfl) (.run [] [] rfl (zAO (zAu rfl rfl rfl) (zAI h4)) (.run [] [] rfl (zAB rfl) (.not rfl (.not rfl (.not rfl (.not rfl (.not rfl (.run [] [] rfl (zBR rfl rfl) .nil)))))))))))) ?_
   refine zAW (t := false) rfl (fun h => nomatch h) (fun _ => ?_)
   refine zAJ ?_
   refine zAC ?_
   refine zAU (s' := mk [(0, .p none (.sl false 4 (pvE l))), (3, .ptr 3 0), (5, .p none (.v (.string ((tabN l ev sz i).out)))), (6, .p none (.v (.string ((tabN l ev sz i).index)))), (7, .sl 1 0 ((pvE (curT l (tabN l ev sz i).start (i + 1))).length)), (9, .ptr 9 0), (10, .p none (.v (.string (blkF (curT l (tabN l ev sz i).start (i + 1)) ev)))), (18, .p none (.sl false 4 (pvE l))), (19, .p none (.v (.int .i64 ((pvE l).length : Int)))), (20, .p none (.v (.int .i64 (i:Int))))] [(3, [.p none (.v (.int .i64 (ev:Int))), .p none (.v (.int .i64 (sz:Int))), .p none (.v (.int .i64 (kd:Int)))]), (9, [.p none (.v (.string e.user)), .p none (.v (.int .i64 e.seq)), .p none (.v (.int .i64 e.kind)), .p none (.v (.string e.value))])] [(1, 4, pvE (curT l (tabN l ev sz i).start (i + 1)))]) ?_ ?_
   · exact zAK ⟨rfl, ⟨rfl, ⟨rfl, ⟨rfl, ⟨rfl, ⟨rfl, ⟨rfl, ⟨rfl, ⟨rfl, ⟨rfl, trivial⟩⟩⟩⟩⟩⟩⟩⟩⟩⟩ ⟨rfl, ⟨rfl, trivial⟩⟩ ⟨rfl, trivial⟩ rfl
   refine zAf zBj rfl (.run [] [] rfl (zAB rfl) (.run [] [] rfl (zAB rfl) (.run [] [] rfl (zAR rfl rfl Tryd.underlying9) (.run [4800] [] rfl (zAO (zAG rfl 4800 (X := []) en45 rfl (.val nod) (.cons (.one (.bor .v)) .nil) (by decide) all_nil .nil (zBf (((tabN l ev sz i).out).size : Int) (by omega) (by omega)) rfl rfl (nle rfl)) ((zAz (show putV (((tabN l ev sz i).out.size : Nat) : Int).toNat = putV (tabN l ev sz i).out.size from rfl)))) (.run [] [] rfl (zAE rfl rfl Tryd.underlying48 rfl Tryd.sizeOf46 (by decide)) (.run [] [] rfl (zAV rfl rfl rfl Tryd.isAgg46 Tryd.sizeOf46 (nle rfl)) (.run [5100] [] rfl (zAG rfl 5100 (X := []) en47 rfl (.val nod) (.cons (.agg (.cons (.bor .v) (.cons (.bor .v) (.cons (.bor .v) .nil)))) .nil) (by decide) all_nil .nil (zDn e (zCE hen)) rfl rfl (nle rfl)) (.run [5200] [] rfl (zAG rfl 5200 (X := []) en46 rfl (.val nod) (.cons (.one (.bor .v)) .nil) (by decide) all_nil .nil (zBq (keyT e) (by omega)) rfl rfl (nle rfl)) (.run [] [] rfl (zAi rfl rfl rfl (by first | omega | (simp only [zAY, zAQ]; omega))) (.run [] [] rfl (zAi rfl rfl rfl (by first | omega | (simp only [zAY, zAQ]; omega))) (.run [] [] rfl (zAD rfl) .nil))))))))))) (by kernel_rfl) ?_
   refine zAC ?_
   refine zAA rfl (.run [] [] rfl (zAB rfl) (.run [] [] rfl (zAB rfl) (.run [5700] [] rfl (zAG rfl 5700 (X := []) en48 rfl (.val nod) (.cons (.one (.bor .v)) .nil) (by decide) all_nil .nil (zDi (blkF (curT l (tabN l ev sz i).start (i + 1)) ev) (by omega)) rfl rfl (nle rfl)) (.run [] [] rfl (zAi rfl rfl rfl (by first | omega | (simp only [zAY, zAQ]; omega))) (.run [] [] rfl (zAD rfl) .nil))))) ?_
   refine zAU (s' := mk [(0, .p none (.sl false 4 (pvE l))), (3, .ptr 3 0), (5, .p none (.v (.string (((tabN l ev sz i).out) ++ (secF (blkF (curT l (tabN l ev sz i).start (i + 1)) ev)))))), (6, .p none (.v (.string (((tabN l ev sz i).index) ++ ((putV (tabN l ev sz i).out.size) ++ (putX (keyT e))))))), (7, .sl 1 0 ((pvE (curT l (tabN l ev sz i).start (i + 1))).length)), (18, .p none (.sl false 4 (pvE l))), (19, .p none (.v (.int .i64 ((pvE l).length : Int)))), (20, .p none (.v (.int .i64 (i:Int))))] [(3, [.p none (.v (.int .i64 (ev:Int))), .p none (.v (.int .i64 (sz:Int))), .p none (.v (.int .i64 (kd:Int)))])] [(1, 4, pvE (curT l (tabN l ev sz i).start (i + 1)))]) ?_ ?_
   · exact zAK ⟨rfl, ⟨rfl, ⟨rfl, ⟨rfl, ⟨rfl, ⟨rfl, ⟨rfl, ⟨rfl, trivial⟩⟩⟩⟩⟩⟩⟩⟩ ⟨rfl, trivial⟩ ⟨rfl, trivial⟩ rfl
   refine zAA rfl (.run [] [] rfl (zAB rfl) (.run [1] [] rfl (zFD (h := 0) rfl rfl rfl Tryd.underlying28 Tryd.sizeOf48 (.at_ rfl (show (0 : Int) = ((0 : Nat) : Int) from rfl)) (by omega) (by decide)) (.run [] [] rfl (zAD rfl) .nil))) ?_
   have hr5 : (pvE (curT l (tabN l ev sz i).start (i + 1))).take 0 = pvE [] := by rfl
   have hp6 : (.sl 1 0 (((pvE (curT l (tabN l ev sz i).start (i + 1))).take 0).length) : AV) = .sl 1 0 ((pvE []).length) := by simp only [hr5]
   refine zAU (s' := mk [(0, .p none (.sl false 4 (pvE l))), (3, .ptr 3 0), (5, .p none (.v (.string (((tabN l ev sz i).out) ++ (secF (blkF (curT l (tabN l ev sz i).start (i + 1)) ev)))))), (6, .p none (.v (.string (((tabN l ev sz i).index) ++ ((putV (tabN l ev sz i).out.size) ++ (putX (keyT e))))))), (7, .sl 1 0 ((pvE []).length)), (18, .p none (.sl false 4 (pvE l))), (19, .p none (.v (.int .i64 ((pvE l).length : Int)))), (20, .p none (.v (.int .i64 (i:Int))))] [(3, [.p none (.v (.int .i64 (ev:Int))), .p none (.v (.int .i64 (sz:Int))), .p none (.v (.int .i64 (kd:Int)))])] [(1, 4, pvE [])]) ?_ ?_
   · exact zAK ⟨rfl, ⟨rfl, ⟨rfl, ⟨rfl, ⟨hp6, ⟨rfl, ⟨rfl, ⟨rfl, trivial⟩⟩⟩⟩⟩⟩⟩⟩ ⟨rfl, trivial⟩ ⟨(congrArg (fun x => some (4, x)) hr5), trivial⟩ rfl
   refine zAA rfl (.run [] [] rfl (zAX rfl rfl rfl (by omega)) (.run [] [] rfl (zAB rfl) .nil)) ?_
   have hF := zCo (ev := ev) (sz := sz) he (fun q => by omega)
   refine nxt (Q := fun _ _ => False) (z := i) (i + 1) ?_ ?_ ?_
   ·
    show (i + 1) ≤ l.length
    omega
   ·
    show l.length - (i + 1) < l.length - i
    omega
   · exact zAK ⟨rfl, ⟨rfl, ⟨(zAz (by rw [hF])), ⟨(zAz (by rw [hF])), ⟨(congrArg (fun z => AV.sl 1 0 (pvE z).length) (by rw [hF]; exact (zDU l (i + 1)).symm)), ⟨rfl, ⟨rfl, ⟨(zAH (by omega)), trivial⟩⟩⟩⟩⟩⟩⟩⟩ ⟨rfl, trivial⟩ ⟨(congrArg (fun x => some (4, x)) (by rw [hF]; exact congrArg pvE (zDU l (i + 1)).symm)), trivial⟩ rfl
  ·
   have h4' := h4
   replace h4' := of_decide_eq_true h4'
   refine zAA rfl (.run [] [] rfl (zAB rfl) (.run [] [] rfl (zAR rfl rfl Tryd.underlying9) (.run [] [] rfl (zAE rfl rfl Tryd.underlying30 rfl Tryd.sizeOf2 (by decide)) (.run [] [] rfl (zAF rfl rfl rfl Tryd.isAgg2 rfl) (.run [] [] rfl (zAO (zAu rfl rfl rfl) (zAI h4)) (.run [] [] rfl (zAB rfl) (.run [] [] rfl (zAB rfl) (.run [] [] rfl (zAB rfl) (.run [] [] rfl (zAa rfl rfl Tryd.underlying28) (.run [] [] rfl (zBw rfl rfl rfl (by omega)) (.run [] [] rfl (zAu rfl rfl rfl) (.run [] [] rfl (zBZ rfl rfl) .nil)))))))))))) ?_
   refine zAW (t := decide ((i:Int) < (((pvE l).length : Int) - 1))) rfl (fun h7 => ?_) (fun h7 => ?_)
   ·
    replace h7 := of_decide_eq_true h7
    refine zAk ?_
    refine zAA rfl (.run [] [] rfl (zAX rfl rfl rfl (by omega)) (.run [] [] rfl (zAB rfl) .nil)) ?_
    have hF := zEQ (ev := ev) (sz := sz) he (by omega) (by omega)
    refine nxt (Q := fun _ _ => False) (z := i) (i + 1) ?_ ?_ ?_
    ·
     show (i + 1) ≤ l.length
     omega
    ·
     show l.length - (i + 1) < l.length - i
     omega
    · exact zAK ⟨rfl, ⟨rfl, ⟨(zAz (by rw [hF])), ⟨(zAz (by rw [hF])), ⟨(congrArg (fun z => AV.sl 1 0 (pvE z).length) (by rw [hF])), ⟨rfl, ⟨rfl, ⟨(zAH (by omega)), trivial⟩⟩⟩⟩⟩⟩⟩⟩ ⟨rfl, trivial⟩ ⟨(congrArg (fun x => some (4, x)) (by rw [hF])), trivial⟩ rfl
   ·
    replace h7 := of_decide_eq_false h7
    refine zAJ ?_
    refine zAC ?_
    refine zAU (s' := mk [(0, .p none (.sl false 4 (pvE l))), (3, .ptr 3 0), (5, .p none (.v (.string ((tabN l ev sz i).out)))), (6, .p none (.v (.string ((tabN l ev sz i).index)))), (7, .sl 1 0 ((pvE (curT l (tabN l ev sz i).start (i + 1))).length)), (9, .ptr 9 0), (10, .p none (.v (.string (blkF (curT l (tabN l ev sz i).start (i + 1)) ev)))), (18, .p none (.sl false 4 (pvE l))), (19, .p none (.v (.int .i64 ((pvE l).length : Int)))), (20, .p none (.v (.int .i64 (i:Int)))), (39, .p none (.v (.int .i64 (i:Int)))), (40, .p none (.sl false 4 (pvE l))), (41, .p none (.v (.int .i64 ((pvE l).length : Int)))), (42, .p none (.v (.int .i64 (((pvE l).length : Int) - 1)))), (43, .p none (.v (.bool (decide ((i:Int) < (((pvE l).length : Int) - 1))))))] [(3, [.p none (.v (.int .i64 (ev:Int))), .p none (.v (.int .i64 (sz:Int))), .p none (.v (.int .i64 (kd:Int)))]), (9, [.p none (.v (.string e.user)), .p none (.v (.int .i64 e.seq)), .p none (.v (.int .i64 e.kind)), .p none (.v (.string e.value))])] [(1, 4, pvE (curT l (tabN l ev sz i).start (i + 1)))]) ?_ ?_
    · exact zAK ⟨rfl, ⟨rfl, ⟨rfl, ⟨rfl, ⟨rfl, ⟨rfl, ⟨rfl, ⟨rfl, ⟨rfl, ⟨rfl, ⟨rfl, ⟨rfl, ⟨rfl, ⟨rfl, ⟨rfl, trivial⟩⟩⟩⟩⟩⟩⟩⟩⟩⟩⟩⟩⟩⟩⟩ ⟨rfl, ⟨rfl, trivial⟩⟩ ⟨rfl, trivial⟩ rfl
    refine zAf zBj rfl (.run [] [] rfl (zAB rfl) (.run [] [] rfl (zAB rfl) (.run [] [] rfl (zAR rfl rfl Tryd.underlying9) (.run [4800] [] rfl (zAO (zAG rfl 4800 (X := []) en45 rfl (.val nod) (.cons (.one (.bor .v)) .nil) (by decide) all_nil .nil (zBf (((tabN l ev sz i).out).size : Int) (by omega) (by omega)) rfl rfl (nle rfl)) ((zAz (show putV (((tabN l ev sz i).out.size : Nat) : Int).toNat = putV (tabN l ev sz i).out.size from rfl)))) (.run [] [] rfl (zAE rfl rfl Tryd.underlying48 rfl Tryd.sizeOf46 (by decide)) (.run [] [] rfl (zAV rfl rfl rfl Tryd.isAgg46 Tryd.sizeOf46 (nle rfl)) (.run [5100] [] rfl (zAG rfl 5100 (X := []) en47 rfl (.val nod) (.cons (.agg (.cons (.bor .v) (.cons (.bor .v) (.cons (.bor .v) .nil)))) .nil) (by decide) all_nil .nil (zDn e (zCE hen)) rfl rfl (nle rfl)) (.run [5200] [] rfl (zAG rfl 5200 (X := []) en46 rfl (.val nod) (.cons (.one (.bor .v)) .nil) (by decide) all_nil .nil (zBq (keyT e) (by omega)) rfl rfl (nle rfl)) (.run [] [] rfl (zAi rfl rfl rfl (by first | omega | (simp only [zAY, zAQ]; omega))) (.run [] [] rfl (zAi rfl rfl rfl (by first | omega | (simp only [zAY, zAQ]; omega))) (.run [] [] rfl (zAD rfl) .nil))))))))))) (by kernel_rfl) ?_
    refine zAC ?_
    refine zAA rfl (.run [] [] rfl (zAB rfl) (.run [] [] rfl (zAB rfl) (.run [5700] [] rfl (zAG rfl 5700 (X := []) en48 rfl (.val nod) (.cons (.one (.bor .v)) .nil) (by decide) all_nil .nil (zDi (blkF (curT l (tabN l ev sz i).start (i + 1)) ev) (by omega)) rfl rfl (nle rfl)) (.run [] [] rfl (zAi rfl rfl rfl (by first | omega | (simp only [zAY, zAQ]; omega))) (.run [] [] rfl (zAD rfl) .nil))))) ?_
    refine zAU (s' := mk [(0, .p none (.sl false 4 (pvE l))), (3, .ptr 3 0), (5, .p none (.v (.string (((tabN l ev sz i).out) ++ (secF (blkF (curT l (tabN l ev sz i).start (i + 1)) ev)))))), (6, .p none (.v (.string (((tabN l ev sz i).index) ++ ((putV (tabN l ev sz i).out.size) ++ (putX (keyT e))))))), (7, .sl 1 0 ((pvE (curT l (tabN l ev sz i).start (i + 1))).length)), (18, .p none (.sl false 4 (pvE l))), (19, .p none (.v (.int .i64 ((pvE l).length : Int)))), (20, .p none (.v (.int .i64 (i:Int)))), (39, .p none (.v (.int .i64 (i:Int)))), (40, .p none (.sl false 4 (pvE l))), (41, .p none (.v (.int .i64 ((pvE l).length : Int)))), (42, .p none (.v (.int .i64 (((pvE l).length : Int) - 1)))), (43, .p none (.v (.bool (decide ((i:Int) < (((pvE l).length : Int) - 1))))))] [(3, [.p none (.v (.int .i64 (ev:Int))), .p none (.v (.int .i64 (sz:Int))), .p none (.v (.int .i64 (kd:Int)))])] [(1, 4, pvE (curT l (tabN l ev sz i).start (i + 1)))]) ?_ ?_
    · exact zAK ⟨rfl, ⟨rfl, ⟨rfl, ⟨rfl, ⟨rfl, ⟨rfl, ⟨rfl, ⟨rfl, ⟨rfl, ⟨rfl, ⟨rfl, ⟨rfl, ⟨rfl, trivial⟩⟩⟩⟩⟩⟩⟩⟩⟩⟩⟩⟩⟩ ⟨rfl, trivial⟩ ⟨rfl, trivial⟩ rfl
    refine zAA rfl (.run [] [] rfl (zAB rfl) (.run [1] [] rfl (zFD (h := 0) rfl rfl rfl Tryd.underlying28 Tryd.sizeOf48 (.at_ rfl (show (0 : Int) = ((0 : Nat) : Int) from rfl)) (by omega) (by decide)) (.run [] [] rfl (zAD rfl) .nil))) ?_
    have hr8 : (pvE (curT l (tabN l ev sz i).start (i + 1))).take 0 = pvE [] := by rfl
    have hp9 : (.sl 1 0 (((pvE (curT l (tabN l ev sz i).start (i + 1))).take 0).length) : AV) = .sl 1 0 ((pvE []).length) := by simp only [hr8]
    refine zAU (s' := mk [(0, .p none (.sl false 4 (pvE l))), (3, .ptr 3 0), (5, .p none (.v (.string (((tabN l ev sz i).out) ++ (secF (blkF (curT l (tabN l ev sz i).start (i + 1)) ev)))))), (6, .p none (.v (.string (((tabN l ev sz i).index) ++ ((putV (tabN l ev sz i).out.size) ++ (putX (keyT e))))))), (7, .sl 1 0 ((pvE []).length)), (18, .p none (.sl false 4 (pvE l))), (19, .p none (.v (.int .i64 ((pvE l).length : Int)))), (20, .p none (.v (.int .i64 (i:Int)))), (39, .p none (.v (.int .i64 (i:Int)))), (40, .p none (.sl false 4 (pvE l))), (41, .p none (.v (.int .i64 ((pvE l).length : Int)))), (42, .p none (.v (.int .i64 (((pvE l).length : Int) - 1)))), (43, .p none (.v (.bool (decide ((i:Int) < (((pvE l).length : Int) - 1))))))] [(3, [.p none (.v (.int .i64 (ev:Int))), .p none (.v (.int .i64 (sz:Int))), .p none (.v (.int .i64 (kd:Int)))])] [(1, 4, pvE [])]) ?_ ?_
    · exact zAK ⟨rfl, ⟨rfl, ⟨rfl, ⟨rfl, ⟨hp9, ⟨rfl, ⟨rfl, ⟨rfl, ⟨rfl, ⟨rfl, ⟨rfl, ⟨rfl, ⟨rfl, trivial⟩⟩⟩⟩⟩⟩⟩⟩⟩⟩⟩⟩⟩ ⟨rfl, trivial⟩ ⟨(congrArg (fun x => some (4, x)) hr8), trivial⟩ rfl
    refine zAA rfl (.run [] [] rfl (zAX rfl rfl rfl (by omega)) (.run [] [] rfl (zAB rfl) .nil)) ?_
    have hF := zCo (ev := ev) (sz := sz) he (fun q => by omega)
    refine nxt (Q := fun _ _ => False) (z := i) (i + 1) ?_ ?_ ?_
    ·
     show (i + 1) ≤ l.length
     omega
    ·
     show l.length - (i + 1) < l.length - i
     omega
    · exact zAK ⟨rfl, ⟨rfl, ⟨(zAz (by rw [hF])), ⟨(zAz (by rw [hF])), ⟨(congrArg (fun z => AV.sl 1 0 (pvE z).length) (by rw [hF]; exact (zDU l (i + 1)).symm)), ⟨rfl, ⟨rfl, ⟨(zAH (by omega)), trivial⟩⟩⟩⟩⟩⟩⟩⟩ ⟨rfl, trivial⟩ ⟨(congrArg (fun x => some (4, x)) (by rw [hF]; exact congrArg pvE (zDU l (i + 1)).symm)), trivial⟩ rfl
 ·
  replace h1 := of_decide_eq_false h1
  refine zAk ?_
  refine zAC ?_
  rw [show i = l.length by omega]
  have hTe := zCy (ev := ev) hl hn hsz l.length (Nat.le_refl _)
  refine zAA rfl (.run [] [] rfl (zAB rfl) (.run [6300] [] rfl (zAG rfl 6300 (X := []) en49 rfl (.val nod) (.cons (.one (.bor (.sl nod))) .nil) (by decide) all_nil .nil (zIb l (by omega)) rfl rfl (nle rfl)) (.run [] [] rfl (zAD rfl) .nil))) ?_
  refine zAC ?_
  refine zAA rfl (.run [] [] rfl (zAB rfl) (.run [] [] rfl (zAE rfl rfl Tryd.underlying30 rfl Tryd.sizeOf2 (by decide)) (.run [] [] rfl (zAF rfl rfl rfl Tryd.isAgg2 rfl) (.run [6300, 6800, 6801, 6802, 6803, 6804] [] rfl (zAG rfl 6800 (X := []) en50 rfl (.val nod) (.cons (.one (.bor (.all (len := (pvT (zAs l)).length) (xs := pvT (zAs l)) rfl rfl (by decide)))) (.cons (.one (.bor .v)) .nil)) (by decide) all_nil .nil (zGd (zAs l) kd (by omega) (by assumption) (by omega)) rfl rfl (nle rfl)) (.run [] [] rfl (zAB rfl) (.run [] [] rfl (zAx rfl rfl rfl) (.run [] [] rfl (zAx rfl rfl rfl) (.run [] [12] rfl (zA7 rfl 12 zCd rfl (by decide) rfl (by decide)) (.run [] [] rfl (zAS rfl rfl rfl rfl rfl Tryd.sizeOf52 rfl (nle rfl)) (.run [] [] rfl (zAD rfl) .nil)))))))))) ?_
  refine zAC ?_
  refine zAA rfl (.run [] [] rfl (zAD rfl) .nil) ?_
  refine zAC ?_
  refine zAC ?_
  have hfb := zEJ (us := zAs l) (kd : Int) hul
  have hfs := zDH (zAr (zAs l) (kd : Int))
  have hhs : (hllF (zAs l)).size = 64 := zEC (zDo _ _)
  have hq0 := zAl (n := l.length) (by omega)
  have hq1 := zAl (n := ev) (by omega)
  have hq2 := zAl (n := sz) (by omega)
  have hq3 := zAl (n := kd) (by omega)
  refine zAU (s' := mk [(0, .p none (.sl false 4 (pvE l))), (3, .ptr 3 0), (5, .p none (.v (.string ((tabN l ev sz l.length).out)))), (6, .p none (.v (.string ((tabN l ev sz l.length).index)))), (11, .sl 6300 0 ((pvT (zAs l)).length)), (12, .ptr 12 0), (14, .p none (.v (.string ⟨#[]⟩)))] [(3, [.p none (.v (.int .i64 (ev:Int))), .p none (.v (.int .i64 (sz:Int))), .p none (.v (.int .i64 (kd:Int)))]), (12, [.p none (.v (.int .i64 ((zAr (zAs l) (kd : Int)).kind))), .p none (.v (.int .i64 ((zAr (zAs l) (kd : Int)).seed))), .p none (.v (.int .i64 ((zAr (zAs l) (kd : Int)).probes))), .p none (.v (.string ((zAr (zAs l) (kd : Int)).bits)))])] [(6300, 1, pvT (zAs l))]) ?_ ?_
  · exact zAK ⟨rfl, ⟨rfl, ⟨rfl, ⟨rfl, ⟨rfl, ⟨rfl, ⟨rfl, trivial⟩⟩⟩⟩⟩⟩⟩ ⟨rfl, ⟨rfl, trivial⟩⟩ ⟨rfl, trivial⟩ rfl
  refine zAf zBj rfl (.run [] [] rfl (zAB rfl) (.run [] [] rfl (zAV rfl rfl rfl Tryd.isAgg52 Tryd.sizeOf52 (nle rfl)) (.run [7300] [] rfl (zAG rfl 7300 (X := []) en51 rfl (.val nod) (.cons (.agg (.cons (.bor .v) (.cons (.bor .v) (.cons (.bor .v) (.cons (.bor .v) .nil))))) .nil) (by decide) all_nil .nil (zE6 (zAr (zAs l) (kd : Int)) (by omega)) rfl rfl (nle rfl)) (.run [] [] rfl (zAB rfl) (.run [] [] rfl (zAO (zAa rfl rfl Tryd.underlying28) ((zAH (by omega)))) (.run [7600] [] rfl (zAO (zAG rfl 7600 (X := []) en45 rfl (.val nod) (.cons (.one (.bor .v)) .nil) (by decide) all_nil .nil (zBf ((l.length : Nat) : Int) (by omega) (by omega)) rfl rfl (nle rfl)) ((zAz (show putV ((l.length : Nat) : Int).toNat = putV l.length from rfl)))) (.run [] [] rfl (zAB rfl) (.run [6300, 7800] [] rfl (zDM (.inr rfl) rfl 7800 (X := []) en52 rfl (.val nod) (.cons (.one (.bor (.all (len := (pvT (zAs l)).length) (xs := pvT (zAs l)) rfl rfl (by decide)))) .nil) (by decide) all_nil .nil (zJK ht (zAs l) (by assumption) (by omega)) rfl rfl (nle rfl)) (.run [] [] rfl (zAi rfl rfl rfl (by first | omega | (simp only [zAY, zAQ]; omega))) (.run [] [] rfl (zAE rfl rfl Tryd.underlying30 rfl Tryd.sizeOf2 (by decide)) (.run [] [] rfl (zAF rfl rfl rfl Tryd.isAgg2 rfl) (.run [8200] [] rfl (zAO (zAG rfl 8200 (X := []) en45 rfl (.val nod) (.cons (.one (.bor .v)) .nil) (by decide) all_nil .nil (zBf (ev:Int) (by omega) (by omega)) rfl rfl (nle rfl)) ((zAz (show putV ((ev : Nat) : Int).toNat = putV ev from rfl)))) (.run [] [] rfl (zAi rfl rfl rfl (by first | omega | (simp only [zAY, zAQ]; omega))) (.run [] [] rfl (zAE rfl rfl Tryd.underlying30 rfl Tryd.sizeOf2 (by decide)) (.run [] [] rfl (zAF rfl rfl rfl Tryd.isAgg2 rfl) (.run [8600] [] rfl (zAO (zAG rfl 8600 (X := []) en45 rfl (.val nod) (.cons (.one (.bor .v)) .nil) (by decide) all_nil .nil (zBf (sz:Int) (by omega) (by omega)) rfl rfl (nle rfl)) ((zAz (show putV ((sz : Nat) : Int).toNat = putV sz from rfl)))) (.run [] [] rfl (zAi rfl rfl rfl (by first | omega | (simp only [zAY, zAQ]; omega))) (.run [] [] rfl (zAE rfl rfl Tryd.underlying30 rfl Tryd.sizeOf2 (by decide)) (.run [] [] rfl (zAF rfl rfl rfl Tryd.isAgg2 rfl) (.run [9000] [] rfl (zAO (zAG rfl 9000 (X := []) en45 rfl (.val nod) (.cons (.one (.bor .v)) .nil) (by decide) all_nil .nil (zBf (kd:Int) (by omega) (by omega)) rfl rfl (nle rfl)) ((zAz (show putV ((kd : Nat) : Int).toNat = putV kd from rfl)))) (.run [] [] rfl (zAi rfl rfl rfl (by first | omega | (simp only [zAY, zAQ]; omega))) (.run [9200] [] rfl (zAv rfl 9200 Tryd.underlying49 inf9 (nle rfl) (by decide) rfl rfl rfl (.cons .v (.cons .v (.cons .v .nil))) (by decide) rfl (by decide) rfl (by decide) rfl) (.run [] [] rfl (zCT rfl rfl Tryd.underlying49) (.run [] [] rfl (zAB rfl) .nil)))))))))))))))))))))))) (by kernel_rfl) ?_
  have hr10 : [[PV.v (.string ((tabN l ev sz l.length).index))], [PV.v (.string (zBs (zAr (zAs l) (kd : Int))))], [PV.v (.string (((((putV l.length) ++ (hllF (zAs l))) ++ (putV ev)) ++ (putV sz)) ++ (putV kd)))]] = pvT (secL l ev sz kd) := by rfl
  have hl11 : 3 = (pvT (secL l ev sz kd)).length := by first | (rw [← hr10, List.length_set]; done) | simp [zAg, secL]
  have hp12 : (.sl 9200 0 3 : AV) = .sl 9200 0 ((pvT (secL l ev sz kd)).length) := by first | exact congrArg (AV.sl 9200 0) hl11 | simp only [hr10, hl11]
  refine zAU (s' := mk [(5, .p none (.v (.string ((tabN l ev sz l.length).out)))), (14, .p none (.v (.string ⟨#[]⟩))), (92, .sl 9200 0 ((pvT (secL l ev sz kd)).length)), (93, .p none (.v (.int .i64 (3 : Int)))), (94, .p none (.v (.int .i64 0)))] [] [(9200, 1, pvT (secL l ev sz kd))]) ?_ ?_
  · exact zAK ⟨rfl, ⟨rfl, ⟨hp12, ⟨rfl, ⟨rfl, trivial⟩⟩⟩⟩⟩ trivial ⟨(congrArg (fun x => some (1, x)) hr10), trivial⟩ rfl
  refine zAM ?_
  refine zAj (σ := Nat) (fun j => mk [(5, .p none (.v (.string (tabJ l ev sz kd j)))), (14, .p none (.v (.string (plJ l ev sz kd j)))), (92, .sl 9200 0 ((pvT (secL l ev sz kd)).length)), (93, .p none (.v (.int .i64 (3 : Int)))), (94, .p none (.v (.int .i64 (j:Int))))] [] [(9200, 1, pvT (secL l ev sz kd))]) (fun j => j ≤ 3) (fun j => 3 - j) 0 (by simp) (zAK ⟨(zAz (by rfl)), ⟨(zAz (by rfl)), ⟨rfl, ⟨rfl, ⟨(zAH (by omega)), trivial⟩⟩⟩⟩⟩ trivial ⟨rfl, trivial⟩ rfl) ?_
  rintro j hG
  replace hG : j ≤ 3 := hG
  have hsl : (secL l ev sz kd).length = 3 := rfl
  have hsv := zAg (secL l ev sz kd)
  have hjs := zGA hl hn hev.2 hsz hkd j
  have hps := zHk l ev sz kd j
  refine zAC ?_
  refine zAA rfl (.run [] [] rfl (zAu rfl rfl rfl) .nil) ?_
  refine zAC ?_
  refine zAW (t := decide ((j:Int) < (3 : Int))) rfl (fun h13 => ?_) (fun h13 => ?_)
  ·
   replace h13 := of_decide_eq_true h13
   refine zAJ ?_
   refine zAC ?_
   refine zAM ?_
   refine zAC ?_
   obtain ⟨x, hx⟩ : ∃ x, (secL l ev sz kd)[j]? = some x := ⟨_, List.getElem?_eq_getElem (by omega)⟩
   have hxs := zHd hl hn hev.2 hsz hkd hx
   have hps3 := zCp (s := x) (by omega)
   refine zAA rfl (.run [] [] rfl (zAq j rfl rfl rfl rfl Tryd.underlying49 Tryd.sizeOf9 rfl rfl (by omega)) (.run [] [] rfl (zAy rfl rfl rfl (zB3 hx) Tryd.isAgg9 rfl) (.run [] [] rfl (zAD rfl) .nil))) ?_
   refine zAC ?_
   refine zAA rfl (.run [] [] rfl (zAB rfl) (.run [] [] rfl (zAB rfl) (.run [] [] rfl (zAR rfl rfl Tryd.underlying9) (.run [] [] rfl (zAe (k' := .u32) 4294967296 rfl ((tabJ l ev sz kd j).size) rfl rfl rfl Tryd.underlying3 Tryd.underlying57) (.run [10200] [] rfl (zAG rfl 10200 (X := []) en53 rfl (.val nod) (.cons (.one (.bor .v)) .nil) (by decide) all_nil .nil (zBh (((tabJ l ev sz kd j).size) % 4294967296)) rfl rfl (nle rfl)) (.run [] [] rfl (zAi rfl rfl rfl (by first | omega | (simp only [zAY, zAQ]; omega))) (.run [] [] rfl (zAD rfl) .nil))))))) ?_
   refine zAA rfl (.run [] [] rfl (zAB rfl) (.run [] [] rfl (zAB rfl) (.run [10600] [] rfl (zAG rfl 10600 (X := []) en48 rfl (.val nod) (.cons (.one (.bor .v)) .nil) (by decide) all_nil .nil (zDi x (by omega)) rfl rfl (nle rfl)) (.run [] [] rfl (zAi rfl rfl rfl (by first | omega | (simp only [zAY, zAQ]; omega))) (.run [] [] rfl (zAD rfl) .nil))))) ?_
   refine zAU (s' := mk [(5, .p none (.v (.string ((tabJ l ev sz kd j) ++ (secF x))))), (14, .p none (.v (.string ((plJ l ev sz kd j) ++ (fixV (((tabJ l ev sz kd j).size) % 4294967296)))))), (92, .sl 9200 0 ((pvT (secL l ev sz kd)).length)), (93, .p none (.v (.int .i64 (3 : Int)))), (94, .p none (.v (.int .i64 (j:Int))))] [] [(9200, 1, pvT (secL l ev sz kd))]) ?_ ?_
   · exact zAK ⟨rfl, ⟨rfl, ⟨rfl, ⟨rfl, ⟨rfl, trivial⟩⟩⟩⟩⟩ trivial ⟨rfl, trivial⟩ rfl
   refine zAA rfl (.run [] [] rfl (zAX rfl rfl rfl (by omega)) (.run [] [] rfl (zAB rfl) .nil)) ?_
   refine nxt (Q := fun _ _ => False) (z := j) (j + 1) ?_ ?_ ?_
   ·
    show (j + 1) ≤ 3
    omega
   ·
    show 3 - (j + 1) < 3 - j
    omega
   · exact zAK ⟨(zAz (by exact (zF9 hx).symm)), ⟨(zAz (by rfl)), ⟨rfl, ⟨rfl, ⟨(zAH (by omega)), trivial⟩⟩⟩⟩⟩ trivial ⟨rfl, trivial⟩ rfl
  ·
   replace h13 := of_decide_eq_false h13
   refine zAk ?_
   refine zAC ?_
   have hj3 : j = 3 := by omega
   subst hj3
   refine zAA rfl (.run [] [] rfl (zAB rfl) (.run [] [] rfl (zAB rfl) (.run [] [] rfl (zAi rfl rfl rfl (by first | omega | (simp only [zAY, zAQ]; omega))) (.run [11200] [] rfl (zAG rfl 11200 (X := []) en53 rfl (.val nod) (.cons (.one (.bor .v)) .nil) (by decide) all_nil .nil (zBh 1279478321) rfl rfl (nle rfl)) (.run [] [] rfl (zAi rfl rfl rfl (by first | omega | (simp only [zAY, zAQ]; omega))) (.run [] [] rfl (zAD rfl) .nil)))))) ?_
   refine zAL ?_
   exact ends [_] [] (.cons (.tmp (zAz (by rw [plJ_3]; rfl))) .nil) (.cons (.one .v (.v _)) .nil) (by decide) trivial
end Go.Rl

/- Promises of functions, proved by walks over their operations; no conditions beyond those that each theorem states. -/
import Derived.Test.YtamebecmgdbmnaaGreatDoorRtTq
set_option linter.unusedSimpArgs false
set_option linter.unusedVariables false
namespace Go.Rl
theorem zJ8 {m : Nat} : ∀ (n a r s : Nat) (K K' : List Eqn), 2 * (m - a) + r % 2 ≤ n → RI m a r s → KOk m K → ribE m a r s K = some K' → KOk m K'
 | n, a, r, s, K, K', hn, hi, hK, h => by
  by_cases h0 : r = 0
  ·
   subst h0
   rw [zDe] at h
   split at h
   · cases h; exact hK
   · cases h
  have ha := hi.in_ h0
  obtain ⟨k, rfl⟩ : ∃ k, n = k + 1 := ⟨n - 1, by omega⟩
  by_cases h1 : r % 2 = 0
  ·
   obtain ⟨e1, i1⟩ := zFE (K := K) hi h1 h0
   exact zJ8 k _ _ _ _ _ (by omega) i1 hK (e1.trans h)
  ·
   have h1' : r % 2 = 1 := by omega
   have hlen : a < K.length := by rw [hK.len]; exact ha
   have he : K[a]? = some K[a] := List.getElem?_eq_getElem hlen
   by_cases h2 : K[a].row = 0
   ·
    obtain ⟨e1, k1⟩ := zH8 hi hK h1' he h2
    rw [e1] at h
    cases h
    exact k1
   ·
    obtain ⟨e1, i1, o1⟩ := zJ7 hi hK h1' he h2
    exact zJ8 k _ _ _ _ _ (by omega) i1 hK (e1.trans h)
theorem zI1 {us : List ByteArray} {sd m : Nat} (hm : 20 ≤ m) : ∀ {i : Nat} {K : List Eqn}, zB6 us sd m i = some K → KOk m K
 | 0, K, h => by rw [zB6] at h; cases h; exact zIM m
 | i + 1, K, h => by
  cases q : zB6 us sd m i with
  | none => rw [zB6, q] at h; cases h
  | some K0 =>
   have ih := zI1 hm q
   cases hu : us[i]? with
   | none => rw [zB6, q, hu] at h; cases h; exact ih
   | some u =>
    rw [zCJ q hu] at h
    exact zJ8 _ _ _ _ _ _ (Nat.le_refl _) (zF7 _ m hm) ih h
theorem zJa {us : List ByteArray} (h : us.length ≤ 400) : zAY (zCf us) = true := by
 have hb := zGD h
 have hs := zHm us
 rw [zIS (f := zCf us) rfl, hs]
 have h1 : (zCf us).seed = 0 := rfl
 have h2 : (zCf us).probes = 6 := rfl
 rw [h1, h2]
 simp only [zAi, Bool.and_eq_true, decide_eq_true_eq]
 refine ⟨trivial, ⟨by omega, by omega⟩, by omega, by omega⟩
theorem zLT {us : List ByteArray} {sd : Nat} {f : Flt} (h : us.length ≤ 400) (hsd : sd ≤ 3) (hf : zBO us sd = some f) : zAY f = true := by
 have hs := zGV hf
 have hm : 20 ≤ ribM us ∧ ribM us ≤ 600 := by rw [ribM]; omega
 rw [zBO] at hf
 split at hf
 · cases hf
 ·
  next K hK =>
  have hk := zI1 hm.1 hK
  have hb := zIe hk (ribM us)
  cases hf
  rw [zFh rfl, hs]
  simp only [zAi, Bool.and_eq_true, decide_eq_true_eq]
  refine ⟨trivial, ⟨by omega, by omega⟩, ⟨by omega, by omega⟩, ?_⟩
  rw [zEj, zFw (fun x hx => Nat.lt_trans (hb x hx) (by decide))]
  exact fun x hx => Nat.le_of_lt_succ (hb x hx)
theorem zLh {us : List ByteArray} (kd : Int) (h : us.length ≤ 400) : zAY (zAr us kd) = true := by
 rw [zAr]
 split
 · rw [← zOJ (f := .zero) rfl]; rfl
 ·
  split
  ·
   cases q : zCV us 4 with
   | none => exact zJa h
   | some f =>
    obtain ⟨k, hk, hf⟩ := zEw q
    exact zLT h (by omega) hf
  · exact zJa h
structure FRd (s : ByteArray) (f : Flt) (a b c : ByteArray) : Prop where
 ok : zAY f = true
 ra : zAP s = some (f.kind.toNat, a)
 rb : zAP a = some (f.seed.toNat, b)
 rc : zAP b = some (f.probes.toNat, c)
 rd : zAX c = some (f.bits, ⟨#[]⟩)
theorem zJP {f : Flt} (h : zAY f = true) : ∃ a b c, FRd (zBf f) f a b c := by
 have hn := zDK h
 have h4 := zE7 (s := f.bits) (by omega) ⟨#[]⟩
 rw [show putX f.bits ++ (⟨#[]⟩ : ByteArray) = putX f.bits from ByteArray.append_empty] at h4
 refine ⟨_, _, _, h, ?_, zCt (n := f.seed.toNat) (by omega) _, zCt (n := f.probes.toNat) (by omega) _, h4⟩
 rw [← zD8 h, ByteArray.append_assoc, ByteArray.append_assoc]
 exact zCt (n := f.kind.toNat) (by omega) _
theorem FRd.read {s : ByteArray} {f : Flt} {a b c : ByteArray} (h : FRd s f a b c) : zBL s = some f := by
 have hn := zDK h.ok
 have h1 := zJE (b := false) h.ra (by omega)
 have e1 : q1 s = (a, false) := h1.2
 have h2 := zJE (b := false) h.rb (by omega)
 have e2 : q2 s = (b, false) := by rw [q2, e1]; exact h2.2
 have h3 := zJE (b := false) h.rc (by omega)
 have e3 : q3 s = (c, false) := by rw [q3, e2]; exact h3.2
 have h4 := zNQ (b := false) h.rd
 have e4 : q4 s = (⟨#[]⟩, false) := by rw [q4, e3]; exact h4.2
 have hr : zIA s = f := by
  rw [zIA, e1, e2, e3, h1.1, h2.1, h3.1, h4.1]
  cases f
  simp only [Flt.mk.injEq, and_true]
  simp only at hn
  omega
 rw [zKi (by rw [e4]; rfl) (by rw [hr]; exact h.ok), hr]
theorem IsTab.flt {s : ByteArray} {L : List Ent} {ev sz kd : Nat} (h : IsTab s L ev sz kd) : (∃ a b c, FRd (txX (zBA s (tAt1 s))) (zAr (zAm L) (kd : Int)) a b c) ∧ oF s = zAr (zAm L) (kd : Int) := by
 obtain ⟨⟨r, h1⟩, ⟨r', h2⟩⟩ := h.filter_at
 have hok := zLh (kd : Int) (zFU h.ok)
 obtain ⟨a, b, c, hr⟩ := zJP hok
 have hf := h.foot
 have hle : tAt1 s ≤ s.size := by
  have h1 := hf.at1
  have h2 := hf.size
  have h3 := hf.le12
  have h4 := hf.le23
  omega
 have hs : txX (zBA s (tAt1 s)) = zBf (zAr (zAm L) (kd : Int)) := by rw [zBA, if_pos hle, h1]; rfl
 refine ⟨⟨a, b, c, by rw [hs]; exact hr⟩, ?_⟩
 rw [oF, oN, (sS_of h2).1, hr.read]
 rfl
theorem zGc {s : ByteArray} (h : (zCz s).isSome = true) : ∃ L ev sz kd, IsTab s L ev sz kd := by
 by_cases q : ∃ L ev sz kd, IsTab s L ev sz kd
 · exact q
 · rw [zFF fun L ev sz kd hL => q ⟨L, ev, sz, kd, hL⟩] at h; cases h
theorem zMM {s : ByteArray} (h : (zCz s).isSome = true) : ∃ a b c, FRd (txX (zBA s (tAt1 s))) (oF s) a b c := by
 obtain ⟨L, ev, sz, kd, hL⟩ := zGc h
 rw [hL.flt.2]
 exact hL.flt.1
end Go.Rl
namespace Go.Rl
open Go.Proofs Go.Proofs.Tryz
set_option maxRecDepth 1000000
set_option maxHeartbeats 2000000
theorem en20 : En Tryz.prog 20 := zAl func20 (by decide) rfl
theorem en47 : En Tryz.prog 47 := zAl func47 (by decide) rfl
theorem en48 : En Tryz.prog 48 := zAl func48 (by decide) rfl
theorem en41 : En Tryz.prog 41 := zAl func41 (by decide) rfl
theorem en43 : En Tryz.prog 43 := zAl func43 (by decide) rfl
theorem en18 : En Tryz.prog 18 := zAl func18 (by decide) rfl
theorem en14 : En Tryz.prog 14 := zAl func14 (by decide) rfl
theorem zLZ (s : ByteArray) : (zCL s).flt.bits.size ≤ 1000 := by
 have h0 : ∀ x : ByteArray, ((zBL x).getD .zero).bits.size ≤ 1000 := fun x => by
  cases q : zBL x with
  | none => exact Nat.zero_le _
  | some f =>
   rw [zBL] at q
   split at q
   · next w => cases q; exact (zDK w.2).2.2.2.2.2.2
   · cases q
 have hO : (oF s).bits.size ≤ 1000 := by rw [oF]; exact h0 (xV (s.extract (tAt1 s) (oN s)))
 cases q : zEJ s with
 | none => rw [zCL, q]; exact Nat.zero_le 1000
 | some o =>
  have e : zCL s = o := by rw [zCL, q, Option.getD_some]
  rw [e]
  rw [zEJ] at q
  split at q
  ·
   cases p : pT ((s.extract 0 (tAt0 s)).size + 1) (s.extract 0 (tAt0 s)) [] with
   | none => rw [p, Option.map_none] at q; cases q
   | some l =>
    rw [p, Option.map_some] at q
    rw [← Option.some.inj q]
    exact hO
  · cases q
theorem opn_flt (l : List Ent) (p : Shp) (f : Flt) (r : ByteArray) : (⟨l, p, f, r⟩ : Opn).flt = f := rfl
theorem zN1 {s : ByteArray} (h : zEB s = true) : (zCz s).isSome = true ∧ (zCL s).flt = oF s := by
 have h1 := (zMc h).2.1
 obtain ⟨L, ev, sz, kd, hL⟩ := zGc h1
 exact ⟨h1, (congrArg Opn.flt (zIJ hL).1).trans (opn_flt L (shpN ev sz kd) (oF s) (hllF (zAm L)))⟩
theorem zLV {s : ByteArray} (h : (zCz s).isSome = true) : footB s = true := by
 obtain ⟨L, ev, sz, kd, hL⟩ := zGc h
 exact hL.footB
theorem zI8 {ps : List PV} (h : Fits [.str] ps) : ∃ b : ByteArray, ps = [.v (.string b)] ∧ b.size ≤ 9223372036854775807 := by
 obtain ⟨p0, e0, rfl, f0, h⟩ := zJO h
 obtain rfl := zOK h
 obtain ⟨b, rfl, hb⟩ := fit_str f0
 exact ⟨b, rfl, Nat.le_trans hb zMQ⟩
theorem zH3 (f : Flt) (h : zAY f = true) : Con Tryz.prog 79 [.agg [.v (.int .i64 f.kind), .v (.int .i64 f.seed), .v (.int .i64 f.probes), .v (.string f.bits)]] [] [.one (.v (.bool true))] := by
 have := zDI f (by have := zDK h; omega)
 rwa [h] at this
theorem zGO (s : ByteArray) (f : Flt) (a b c : ByteArray) (hr : FRd s f a b c) (hs : s.size ≤ 9000000000000000000) : Con Tryz.prog 47 [.one (PV.v (.string s))] [] [.agg [.v (.int .i64 f.kind), .v (.int .i64 f.seed), .v (.int .i64 f.probes), .v (.string f.bits)], .one (.v (.bool true))] := by
 refine zAR func47 rfl rfl rfl rfl ?_
 have hn := zDK hr.ok
 have hza := (zDZ hr.ra).2
 have hzb := (zDZ hr.rb).2
 have hzc := (zDZ hr.rc).2
 refine zAB (zAA rfl (.run [] [2] rfl (zA7 rfl 2 zCm rfl (by decide) rfl (by decide)) (.a rfl rfl .nil)) ?_)
 refine zAB (zAA rfl (.m rfl rfl (.run [1900, 1901, 1902] [] rfl (zAF rfl 1900 (X := []) en91 rfl (.val nod) (.cons (.one (.bor .v)) .nil) (by decide) all_nil .nil (zB3 s (by omega)) rfl rfl (nle rfl)) (.m rfl rfl (.r rfl (zAH rfl rfl rfl) (.r rfl (zAH rfl rfl rfl) (.r rfl (zAH rfl rfl rfl) (.a rfl rfl (.a rfl rfl (.a rfl rfl .nil))))))))) ?_)
 refine zAB ?_
 refine zAQ (s' := mk [(2, .ptr 2 0), (4, .p none (.v (.int .u64 ((f.kind.toNat : Nat) : Int)))), (5, .vs a), (6, .vb true)] [(2, [.vi 0, .vi 0, .vi 0, .vs ⟨#[]⟩])] []) ?_ ?_
 · exact zAJ ⟨rfl, (zAG (congrArg (fun o => ((tvN o : Nat) : Int)) hr.ra)), (zA5 (congrArg tvR hr.ra)), (zAE (congrArg Option.isSome hr.ra)), trivial⟩ ⟨rfl, trivial⟩ trivial rfl
 refine zAA rfl (.m rfl rfl (.run [2500, 2501, 2502] [] rfl (zAF rfl 2500 (X := []) en91 rfl (.val nod) (.cons (.one (.bor .v)) .nil) (by decide) all_nil .nil (zB3 a (by omega)) rfl rfl (nle rfl)) (.m rfl rfl (.r rfl (zAH rfl rfl rfl) (.r rfl (zAH rfl rfl rfl) (.r rfl (zAH rfl rfl rfl) (.a rfl rfl (.a rfl rfl (.a rfl rfl .nil))))))))) ?_
 refine zAB ?_
 refine zAQ (s' := mk [(2, .ptr 2 0), (4, .p none (.v (.int .u64 ((f.kind.toNat : Nat) : Int)))), (6, .vb true), (7, .p none (.v (.int .u64 ((f.seed.toNat : Nat) : Int)))), (8, .vs b), (9, .vb true)] [(2, [.vi 0, .vi 0, .vi 0, .vs ⟨#[]⟩])] []) ?_ ?_
 · exact zAJ ⟨rfl, rfl, rfl, (zAG (congrArg (fun o => ((tvN o : Nat) : Int)) hr.rb)), (zA5 (congrArg tvR hr.rb)), (zAE (congrArg Option.isSome hr.rb)), trivial⟩ ⟨rfl, trivial⟩ trivial rfl
 refine zAA rfl (.m rfl rfl (.run [3100, 3101, 3102] [] rfl (zAF rfl 3100 (X := []) en91 rfl (.val nod) (.cons (.one (.bor .v)) .nil) (by decide) all_nil .nil (zB3 b (by omega)) rfl rfl (nle rfl)) (.m rfl rfl (.r rfl (zAH rfl rfl rfl) (.r rfl (zAH rfl rfl rfl) (.r rfl (zAH rfl rfl rfl) (.a rfl rfl (.a rfl rfl (.a rfl rfl .nil))))))))) ?_
 refine zAB ?_
 refine zAQ (s' := mk [(2, .ptr 2 0), (4, .p none (.v (.int .u64 ((f.kind.toNat : Nat) : Int)))), (6, .vb true), (7, .p none (.v (.int .u64 ((f.seed.toNat : Nat) : Int)))), (9, .vb true), (10, .p none (.v (.int .u64 ((f.probes.toNat : Nat) : Int)))), (11, .vs c), (12, .vb true)] [(2, [.vi 0, .vi 0, .vi 0, .vs ⟨#[]⟩])] []) ?_ ?_
 · exact zAJ ⟨rfl, rfl, rfl, rfl, rfl, (zAG (congrArg (fun o => ((tvN o : Nat) : Int)) hr.rc)), (zA5 (congrArg tvR hr.rc)), (zAE (congrArg Option.isSome hr.rc)), trivial⟩ ⟨rfl, trivial⟩ trivial rfl
 refine zAA rfl (.m rfl rfl (.run [3700, 3701, 3702] [] rfl (zAF rfl 3700 (X := []) en90 rfl (.val nod) (.cons (.one (.bor .v)) .nil) (by decide) all_nil .nil (zDH c (by omega)) rfl rfl (nle rfl)) (.m rfl rfl (.r rfl (zAH rfl rfl rfl) (.r rfl (zAH rfl rfl rfl) (.r rfl (zAH rfl rfl rfl) (.a rfl rfl (.a rfl rfl (.a rfl rfl .nil))))))))) ?_
 refine zAB ?_
 refine zAB ?_
 refine zAQ (s' := mk [(2, .ptr 2 0), (4, .p none (.v (.int .u64 ((f.kind.toNat : Nat) : Int)))), (6, .vb true), (7, .p none (.v (.int .u64 ((f.seed.toNat : Nat) : Int)))), (9, .vb true), (10, .p none (.v (.int .u64 ((f.probes.toNat : Nat) : Int)))), (12, .vb true), (13, .vs f.bits), (14, .vs (⟨#[]⟩ : ByteArray)), (15, .vb true)] [(2, [.vi 0, .vi 0, .vi 0, .vs ⟨#[]⟩])] []) ?_ ?_
 · exact zAJ ⟨rfl, rfl, rfl, rfl, rfl, rfl, rfl, (zA5 (congrArg txX hr.rd)), (zA5 (congrArg txR hr.rd)), (zAE (congrArg Option.isSome hr.rd)), trivial⟩ ⟨rfl, trivial⟩ trivial rfl
 refine zAA rfl (.m rfl rfl (.r rfl (zAa (b := true) rfl rfl) (.m rfl rfl (.m rfl rfl (.r rfl (zAa (b := true) rfl rfl) (.r rfl (zAg rfl rfl) (.m rfl rfl (.m rfl rfl (.r rfl (zAa (b := true) rfl rfl) (.r rfl (zAg rfl rfl) (.m rfl rfl (.m rfl rfl (.r rfl (zAa (b := true) rfl rfl) (.r rfl (zAg rfl rfl) (.m rfl rfl (.m rfl rfl (.r rfl (zAI (zCv rfl rfl rfl) ((zAE (show (!decide ((⟨#[]⟩ : ByteArray) = ⟨#[]⟩)) = false from rfl)))) (.r rfl (zAg rfl rfl) (.m rfl rfl (.m rfl rfl (.r rfl (zAI (zBH rfl rfl rfl) ((zAE (decide_eq_false (show ¬ (((f.kind.toNat : Nat) : Int) > 2) by omega))))) (.r rfl (zAg rfl rfl) (.m rfl rfl (.m rfl rfl (.r rfl (zAI (zBH rfl rfl rfl) ((zAE (decide_eq_false (show ¬ (((f.seed.toNat : Nat) : Int) > 100) by omega))))) (.r rfl (zAg rfl rfl) (.m rfl rfl (.m rfl rfl (.r rfl (zAI (zBH rfl rfl rfl) ((zAE (decide_eq_false (show ¬ (((f.probes.toNat : Nat) : Int) > 100) by omega))))) (.r rfl (zAg rfl rfl) .nil)))))))))))))))))))))))))))))) ?_
 refine zAT (t := false) rfl (fun h => nomatch h) (fun _ => ?_)
 refine zAM ?_
 refine zAB ?_
 refine zAQ (s' := mk [(2, .ptr 2 0), (4, .p none (.v (.int .u64 ((f.kind.toNat : Nat) : Int)))), (7, .p none (.v (.int .u64 ((f.seed.toNat : Nat) : Int)))), (10, .p none (.v (.int .u64 ((f.probes.toNat : Nat) : Int)))), (13, .vs f.bits)] [(2, [.vi 0, .vi 0, .vi 0, .vs ⟨#[]⟩])] []) ?_ ?_
 · exact zAJ ⟨rfl, rfl, rfl, rfl, rfl, trivial⟩ ⟨rfl, trivial⟩ trivial rfl
 refine zAA rfl (.m rfl rfl (.r rfl (zAI (zBe rfl rfl underlying58 underlying2 (by omega)) ((zAG (show ((f.kind.toNat : Nat) : Int) = f.kind by omega)))) (.m rfl rfl (.r rfl (zAI (zBe rfl rfl underlying58 underlying2 (by omega)) ((zAG (show ((f.seed.toNat : Nat) : Int) = f.seed by omega)))) (.m rfl rfl (.r rfl (zAI (zBe rfl rfl underlying58 underlying2 (by omega)) ((zAG (show ((f.probes.toNat : Nat) : Int) = f.probes by omega)))) (.m rfl rfl (.r rfl (zAt (pl := [(0, 1), (1, 1), (2, 1), (3, 1)]) rfl underlying64 zCm (by kernel_rfl) rfl rfl) (.run [] [16] rfl (zA7 rfl 16 zCm rfl (by decide) rfl (by decide)) (.r rfl (zAN rfl rfl rfl rfl rfl sizeOf64 rfl (nle rfl)) .nil)))))))))) ?_
 refine zAB ?_
 refine zAB (zAA rfl (.r rfl (zAW rfl rfl rfl isAgg64 sizeOf64 (nle rfl)) (.run [8100] [] rfl (zAF rfl 8100 (X := []) en79 rfl (.val nod) (.cons (.agg (.cons (.bor .v) (.cons (.bor .v) (.cons (.bor .v) (.cons (.bor .v) .nil))))) .nil) (by decide) all_nil .nil (zH3 f hr.ok) rfl rfl (nle rfl)) (.r rfl (zAa (b := true) rfl rfl) .nil))) ?_)
 refine zAT (t := false) rfl (fun h => nomatch h) (fun _ => ?_)
 refine zAM ?_
 refine zAB (zAA rfl (.r rfl (zAW rfl rfl rfl isAgg64 sizeOf64 (nle rfl)) (.r rfl (zAN rfl rfl rfl rfl rfl sizeOf64 rfl (nle rfl)) (.a rfl rfl .nil))) ?_)
 refine zAK ?_
 exact ends [_, _] [] (.cons (.cell rfl rfl isAgg64 sizeOf64 (nle rfl)) (.cons (.tmp rfl) .nil)) (.cons (.agg (.cons .v (.cons .v (.cons .v (.cons .v .nil)))) (zAL (.v _) (zAL (.v _) (zAL (.v _) (zAL (.v _) zBR))))) (.cons (.one .v (.v _)) .nil)) (by decide) trivial
theorem zH0 (s u : ByteArray) (hs : s.size ≤ 9000000000000000000) (hu : u.size ≤ 9000000000000000000) : Con Tryz.prog 18 [.one (PV.v (.string s)), .one (PV.v (.string u))] [] [.one (.v (.bool (tmF s u)))] := by
 refine zAR func18 rfl rfl rfl rfl ?_
 refine zAB (zAA rfl (.a rfl rfl .nil) ?_)
 refine zAB (zAA rfl (.m rfl rfl (.run [1500, 1501] [] rfl (zAF rfl 1500 (X := []) en20 rfl (.val nod) (.cons (.one (.bor .v)) .nil) (by decide) all_nil .nil (zG8 s (by omega)) rfl rfl (nle rfl)) (.m rfl rfl (.r rfl (zAH rfl rfl rfl) (.r rfl (zAH rfl rfl rfl) (.a rfl rfl (.a rfl rfl .nil))))))) ?_)
 refine zAB ?_
 refine zAB (zAA rfl (.m rfl rfl (.r rfl (zAa (b := (zCz s).isSome) rfl rfl) .nil)) ?_)
 refine zAT (t := (!((zCz s).isSome))) rfl (fun h1 => ?_) (fun h1 => ?_)
 ·
  replace h1 : ((zCz s).isSome) = false := zAp h1
  refine zAB (zAA rfl (.a rfl rfl .nil) ?_)
  refine zAK ?_
  exact ends [_] [] (.cons (.tmp (zAE (tm_no h1).symm)) .nil) (.cons (.one .v (.v _)) .nil) (by decide) trivial
 ·
  replace h1 : ((zCz s).isSome) = true := zAq h1
  refine zAM ?_
  refine zAB ?_
  refine zAQ (s' := mk [(0, .vs s), (1, .vs u)] [] []) ?_ ?_
  · exact zAJ ⟨rfl, rfl, trivial⟩ trivial trivial rfl
  refine zAA rfl (.m rfl rfl (.run [2200, 2201] [] rfl (zAF rfl 2200 (X := []) en45 rfl (.val nod) (.cons (.one (.bor .v)) .nil) (by decide) all_nil .nil (zE1 s (by omega)) rfl rfl (nle rfl)) (.m rfl rfl (.r rfl (zAH rfl rfl rfl) (.r rfl (zAH rfl rfl rfl) (.a rfl rfl (.a rfl rfl .nil))))))) ?_
  refine zAB ?_
  have hfo := zLV h1
  have hfg := zIR hfo
  have hfl := hfg.2.2.2
  have hat := zOc s
  refine zAQ (s' := mk [(0, .vs s), (1, .vs u), (7, .sl 2200 0 ((pvI (zDJ s)).length))] [] [(2200, 1, pvI (zDJ s))]) ?_ ?_
  · exact zAJ ⟨rfl, rfl, rfl, trivial⟩ trivial ⟨rfl, trivial⟩ rfl
  refine zAA rfl (.m rfl rfl (.m rfl rfl (.r rfl (zA0 1 rfl rfl rfl rfl underlying77 sizeOf2 rfl rfl (by omega)) (.r rfl (zBb (.int .i64 ((tAt1 s : Nat) : Int)) rfl rfl rfl hfg.2.1 isAgg2 rfl) (.run [3000, 3001] [] rfl (zAF rfl 3000 (X := []) en46 rfl (.val nod) (.cons (.one (.bor .v)) (.cons (.one (.bor .v)) .nil)) (by decide) all_nil .nil (zE0 s (tAt1 s) (by omega) (by omega)) rfl rfl (nle rfl)) (.m rfl rfl (.r rfl (zAH rfl rfl rfl) (.r rfl (zAH rfl rfl rfl) (.a rfl rfl (.a rfl rfl .nil)))))))))) ?_
  refine zAB ?_
  refine zAQ (s' := mk [(1, .vs u), (9, .vs (txX (zBA s (tAt1 s))))] [] []) ?_ ?_
  · exact zAJ ⟨rfl, rfl, trivial⟩ trivial trivial rfl
  obtain ⟨a, b, c, hfr⟩ := zMM h1
  have hxs := zJ1 s (tAt1 s)
  have hob := zDK hfr.ok
  refine zAA rfl (.m rfl rfl (.run [3500, 3501, 3502, 3503, 3504] [] rfl (zAF rfl 3500 (X := []) en47 rfl (.val nod) (.cons (.one (.bor .v)) .nil) (by decide) all_nil .nil (zGO _ (oF s) a b c hfr (by omega)) rfl rfl (nle rfl)) (.m rfl rfl (.r rfl (zAH rfl rfl rfl) (.r rfl (zAH rfl rfl rfl) (.run [] [11] rfl (zA7 rfl 11 zCm rfl (by decide) rfl (by decide)) (.r rfl (zAN rfl rfl rfl rfl rfl sizeOf64 rfl (nle rfl)) (.a rfl rfl .nil)))))))) ?_
  refine zAB (zAA rfl (.r rfl (zAW rfl rfl rfl isAgg64 sizeOf64 (nle rfl)) (.m rfl rfl (.run [4000] [] rfl (zAF rfl 4000 (X := []) en48 rfl (.val nod) (.cons (.agg (.cons (.bor .v) (.cons (.bor .v) (.cons (.bor .v) (.cons (.bor .v) .nil))))) (.cons (.one (.bor .v)) .nil)) (by decide) all_nil .nil (zHA (oF s) u (by omega) (by omega)) rfl rfl (nle rfl)) (.a rfl rfl .nil)))) ?_)
  refine zAK ?_
  exact ends [_] [] (.cons (.tmp (zAE (zOh h1).symm)) .nil) (.cons (.one .v (.v _)) .nil) (by decide) trivial
theorem zIm {γ : Gho} (ht : TabG γ) (s u : ByteArray) (hs : s.size ≤ 9000000000000000000) (hu : u.size ≤ 9000000000000000000) : ConG γ Tryz.prog 14 [.one (PV.v (.string s)), .one (PV.v (.string u))] [] [.one (.v (.bool (tmF s u)))] := by
 refine zAR func14 rfl rfl rfl rfl ?_
 refine zAB (zAA rfl (.a rfl rfl .nil) ?_)
 refine zAB (zAA rfl (.m rfl rfl (.run [900, 901, 902, 903, 904, 905, 906, 907, 908, 909] [] rfl (zDa (.inr rfl) rfl 900 (X := []) en41 rfl (.val nod) (.cons (.one (.bor .v)) .nil) (by decide) all_nil .nil (zN2 ht s _ _ _ _ _ _ _ _ _ (show zCL s = ⟨(zCL s).list, ⟨(zCL s).shp.every, (zCL s).shp.size, (zCL s).shp.kind⟩, ⟨(zCL s).flt.kind, (zCL s).flt.seed, (zCL s).flt.probes, (zCL s).flt.bits⟩, (zCL s).regs⟩ from rfl) (by omega)) rfl rfl (nle rfl)) (.m rfl rfl (.r rfl (zAH rfl rfl rfl) (.r rfl (zAH rfl rfl rfl) (.run [] [5] rfl (zA7 rfl 5 zHC rfl (by decide) rfl (by decide)) (.r rfl (zAN rfl rfl rfl rfl rfl sizeOf72 rfl (nle rfl)) (.a rfl rfl .nil)))))))) ?_)
 refine zAB ?_
 refine zAQ (s' := mk [(1, .vs u), (5, .ptr 5 0), (6, .vb (zEB s))] [(5, [.sl 900 0 ((pvE ((zCL s).list)).length), .vi ((zCL s).shp.every), .vi ((zCL s).shp.size), .vi ((zCL s).shp.kind), .vi ((zCL s).flt.kind), .vi ((zCL s).flt.seed), .vi ((zCL s).flt.probes), .vs ((zCL s).flt.bits), .vs ((zCL s).regs)])] [(900, 4, pvE ((zCL s).list))]) ?_ ?_
 · exact zAJ ⟨rfl, rfl, rfl, trivial⟩ ⟨rfl, trivial⟩ ⟨rfl, trivial⟩ rfl
 have hob := zLZ s
 rcases bfc (!(zEB s)) with h1 | h1
 ·
  have h1' := h1
  replace h1' : (zEB s) = true := zAq h1'
  refine zAA rfl (.m rfl rfl (.r rfl (zAI (zAa (b := zEB s) rfl rfl) (zAE h1)) (.m rfl rfl (.r rfl (zAC rfl rfl underlying72 rfl sizeOf64 (by decide)) (.r rfl (zAW rfl rfl rfl isAgg64 sizeOf64 (nle rfl)) (.m rfl rfl (.run [1800] [] rfl (zAF rfl 1800 (X := []) en43 rfl (.val nod) (.cons (.agg (.cons (.bor .v) (.cons (.bor .v) (.cons (.bor .v) (.cons (.bor .v) .nil))))) (.cons (.one (.bor .v)) .nil)) (by decide) all_nil .nil (zIW (zCL s).flt u (by omega) (by omega)) rfl rfl (nle rfl)) (.r rfl (zAg rfl rfl) (.a rfl rfl .nil))))))))) ?_
  refine zAK ?_
  exact ends [_] [] (.cons (.tmp (zAE (by have hz := zN1 h1'; rw [zOh hz.1, hz.2]))) .nil) (.cons (.one .v (.v _)) .nil) (by decide) trivial
 ·
  have h1' := h1
  replace h1' : (zEB s) = false := zAp h1'
  refine zAA rfl (.m rfl rfl (.r rfl (zAI (zAa (b := zEB s) rfl rfl) (zAE h1)) (.m rfl rfl (.not rfl (.not rfl (.not rfl (.not rfl (.r rfl (zAh rfl rfl) (.a rfl rfl .nil))))))))) ?_
  refine zAK ?_
  exact ends [_] [] (.cons (.tmp (zAE (tm_no (by rw [zN4 h1']; rfl)).symm)) .nil) (.cons (.one .v (.v _)) .nil) (by decide) trivial
theorem zF1 {γ : Gho} (ht : TabG γ) (s u : ByteArray) (hs : s.size ≤ 9223372036854775807) (hu : u.size ≤ 9223372036854775807) : ConG γ Tryz.prog 5 [.one (PV.v (.string s)), .one (PV.v (.string u))] [] [.one (.v (.bool true))] := by
 refine zAR func5 rfl rfl rfl rfl ?_
 refine zAB (zAA rfl (.a rfl rfl .nil) ?_)
 refine zAB ?_
 refine zAB (zAA rfl (.m rfl rfl (.r rfl (zAO rfl rfl underlying9) (.r rfl (zBH rfl rfl rfl) .nil))) ?_)
 refine zAT (t := decide (1048576 < (s.size : Int))) rfl (fun h1 => ?_) (fun h1 => ?_)
 ·
  replace h1 := of_decide_eq_true h1
  refine zAB (zAA rfl (.a rfl rfl .nil) ?_)
  refine zAK ?_
  exact ends [_] [] (.cons (.tmp rfl) .nil) (.cons (.one .v (.v _)) .nil) (by decide) trivial
 ·
  replace h1 := of_decide_eq_false h1
  refine zAM ?_
  refine zAB ?_
  refine zAB (zAA rfl (.m rfl rfl (.r rfl (zAO rfl rfl underlying9) (.r rfl (zBH rfl rfl rfl) .nil))) ?_)
  refine zAT (t := decide (1048576 < (u.size : Int))) rfl (fun h2 => ?_) (fun h2 => ?_)
  ·
   replace h2 := of_decide_eq_true h2
   refine zAB (zAA rfl (.a rfl rfl .nil) ?_)
   refine zAK ?_
   exact ends [_] [] (.cons (.tmp rfl) .nil) (.cons (.one .v (.v _)) .nil) (by decide) trivial
  ·
   replace h2 := of_decide_eq_false h2
   refine zAM ?_
   refine zAB (zAA rfl (.m rfl rfl (.m rfl rfl (.run [1500] [] rfl (zAF rfl 1500 (X := []) en18 rfl (.val nod) (.cons (.one (.bor .v)) (.cons (.one (.bor .v)) .nil)) (by decide) all_nil .nil (zH0 s u (by omega) (by omega)) rfl rfl (nle rfl)) (.a rfl rfl .nil)))) ?_)
   refine zAB (zAA rfl (.m rfl rfl (.m rfl rfl (.run [1800] [] rfl (zDa (.inr rfl) rfl 1800 (X := []) en14 rfl (.val nod) (.cons (.one (.bor .v)) (.cons (.one (.bor .v)) .nil)) (by decide) all_nil .nil (zIm ht s u (by omega) (by omega)) rfl rfl (nle rfl)) (.a rfl rfl .nil)))) ?_)
   refine zAB ?_
   refine zAB ?_
   refine zAQ (s' := mk [(5, .vb (tmF s u)), (6, .vb (tmF s u))] [] []) ?_ ?_
   · exact zAJ ⟨rfl, rfl, trivial⟩ trivial trivial rfl
   refine zAA rfl (.m rfl rfl (.m rfl rfl (.r rfl (zAI (st_bneq rfl rfl rfl underlying4) (zAE (show (!((tmF s u) == (tmF s u))) = false from by simp))) .nil))) ?_
   refine zAT (t := false) rfl (fun h => nomatch h) (fun _ => ?_)
   refine zAM ?_
   refine zAB (zAA rfl (.a rfl rfl .nil) ?_)
   refine zAK ?_
   exact ends [_] [] (.cons (.tmp rfl) .nil) (.cons (.one .v (.v _)) .nil) (by decide) trivial
end Go.Rl

/- Promises of functions, proved by walks over their operations; no conditions beyond those that each theorem states. -/
import Derived.Test.YtamebecmgdbmnaaGreatDoorRtSo
import Derived.Test.YtamebecmgdbmnaaGreatDoorRmB
set_option linter.unusedSimpArgs false
set_option linter.unusedVariables false
namespace Go.Rl
open Go.RowKit
section
variable {γ : Gho} {P : Program} {n : Nat} {o : Oper} {M B : List Nat} {s : St}
theorem st_max3 {x y z : Operand} {ats : Array TypeId} (ho : o.op = .call { callee := .builtin .max, args := #[x, y, z], argTypes := ats }) {d d' d'' : Option Nat} {k : IntKind} {a b c : Int} (hx : s.ev x = .p d (.v (.int k a))) (hy : s.ev y = .p d' (.v (.int k b))) (hz : s.ev z = .p d'' (.v (.int k c))) :
  StepD γ P n o M B s { put := .p none (.v (.int k (max (max a b) c))) } :=
 zA6 fun s' ag w0 I L ac w hr => by
  have h1 := hr.evv ((ag.ev1 ho (by simp [Op.operands, Call.operands])).trans hx)
  have h2 := hr.evv ((ag.ev1 ho (by simp [Op.operands, Call.operands])).trans hy)
  have h3 := hr.evv ((ag.ev1 ho (by simp [Op.operands, Call.operands])).trans hz)
  have key : ∀ p q : Int, (Builtin.max2 (.int k p) (.int k q)).run P w = .ok (.int k (max p q)) w := fun p q => by
   by_cases hlt : p < q
   ·
    have : max p q = q := by omega
    simp [Builtin.max2, hlt, this]
   ·
    have : max p q = p := by omega
    simp [Builtin.max2, hlt, this]
  refine ⟨_, ?_, zCO L w s' rfl⟩
  simp [execOp, ho, resolve, invoke, builtin, Builtin.max_, h1, h2, h3, key]
end
theorem foot3 {s : ByteArray} (h : 16 ≤ s.size) : fV (zCS s) = tAt0 s ∧ fV (fS (zCS s) false).1 = tAt1 s ∧ fV (fS (fS (zCS s) false).1 (fS (zCS s) false).2).1 = tAt2 s := by
 have h0 := zFP h (show 0 < 4 by decide)
 have h1 := zFP h (show 1 < 4 by decide)
 have h2 := zFP h (show 2 < 4 by decide)
 obtain ⟨a1, a2⟩ := zM2 (b := false) h0
 obtain ⟨b1, b2⟩ := zM2 (b := false) h1
 obtain ⟨c1, c2⟩ := zM2 (b := false) h2
 have a2' : fS (zCS s) false = (cutN s 1, false) := a2
 rw [a2']
 have b2' : fS (cutN s 1, false).1 (cutN s 1, false).2 = (cutN s 2, false) := b2
 rw [b2']
 exact ⟨a1, b1, c1⟩
theorem zLa {s : ByteArray} {l : List Ent} (h : OOk s) (hp : pT ((s.extract 0 (tAt0 s)).size + 1) (s.extract 0 (tAt0 s)) [] = some l) : zEJ s = some ⟨l, ⟨nV (oR s), nV (nS (oR s) (oA s).2).1, nV (nS (nS (oR s) (oA s).2).1 (nS (oR s) (oA s).2).2).1⟩, (zBL (xV (s.extract (tAt1 s) (s.size - 16)))).getD .zero, (oA s).1.extract 0 64⟩ := by
 rw [zI9 h hp, oS, oF, oB2, oB1, oN]
theorem open_v {s : ByteArray} {l : List Ent} {p : Shp} {f : Flt} {r : ByteArray} (h : zEJ s = some ⟨l, p, f, r⟩) : zCL s = ⟨l, p, f, r⟩ := (zFK h).1
theorem zN3 {s : ByteArray} {l : List Ent} {p : Shp} {f : Flt} {r : ByteArray} (h : zEJ s = some ⟨l, p, f, r⟩) (hb : (zBW l p).isSome = false) : zEB s = false := by
 rw [(zFK h).2]
 refine decide_eq_false fun q => ?_
 have q2 : zBW l p = some s := q
 rw [q2] at hb
 cases hb
theorem zMd {s : ByteArray} {l : List Ent} {p : Shp} {f : Flt} {r : ByteArray} (h : zEJ s = some ⟨l, p, f, r⟩) (hb : (zBW l p).isSome = true) : zEB s = decide ((zBW l p).getD ⟨#[]⟩ = s) := by
 rw [(zFK h).2]
 refine decide_eq_decide.2 ⟨fun q => ?_, fun e => zHy hb e⟩
 have q2 : zBW l p = some s := q
 rw [q2]
 rfl
theorem opn_inj {l out : List Ent} {pe ps pk fk fs fp a b c : Int} {fb rg r : ByteArray} {F : Flt} (h : (⟨l, ⟨pe, ps, pk⟩, ⟨fk, fs, fp, fb⟩, rg⟩ : Opn) = ⟨out, ⟨a, b, c⟩, F, r⟩) : out = l ∧ a = pe ∧ b = ps ∧ c = pk ∧ F.kind = fk ∧ F.seed = fs ∧ F.probes = fp ∧ F.bits = fb ∧ r = rg := by
 cases h
 exact ⟨rfl, rfl, rfl, rfl, rfl, rfl, rfl, rfl, rfl⟩
theorem zEb {l : List Ent} {pe ps pk fk fs fp : Int} {fb rg : ByteArray} (h : (⟨l, ⟨pe, ps, pk⟩, ⟨fk, fs, fp, fb⟩, rg⟩ : Opn) = .zero) : [] = l ∧ 0 = pe ∧ 0 = ps ∧ 0 = pk ∧ 0 = fk ∧ 0 = fs ∧ 0 = fp ∧ ⟨#[]⟩ = fb ∧ ⟨#[]⟩ = rg := by
 cases h
 exact ⟨rfl, rfl, rfl, rfl, rfl, rfl, rfl, rfl, rfl⟩
theorem zKf {L : List Ent} {ev : Nat} : ∀ k i, i + k = L.length → k ≤ (zEI L ev i k).size
 | 0, _, _ => Nat.zero_le _
 | k + 1, i, h => by
  obtain ⟨e, he⟩ : ∃ e, L[i]? = some e := ⟨_, List.getElem?_eq_getElem (by omega)⟩
  have ih := zKf (L := L) (ev := ev) k (i + 1) (by omega)
  have hp := zGB ev i (blkN L ev i).ahead e
  rw [zC9 he, zAZ]
  omega
theorem zMP (x : ByteArray) : ((zBI x).getD []).length ≤ x.size := by
 cases h : zBI x with
 | none => exact Nat.zero_le _
 | some m =>
  obtain ⟨ev, hb⟩ := zHT h
  have h1 := zKf (L := m) (ev := ev) m.length 0 (by omega)
  have h2 := hb.start.2.2.2
  have h3 := congrArg ByteArray.size h2
  rw [ByteArray.size_extract] at h3
  show m.length ≤ x.size
  omega
theorem sS_few {left : ByteArray} (h1 : (sS left false).2 = false) : (xV left).size + (sS left false).1.size ≤ left.size := by
 have := zF4 (zMG h1).2
 omega
theorem zN4 {s : ByteArray} (h : zEB s = false) : zCz s = none := zFF fun L ev sz kd hL => by
 rw [(zIJ hL).2] at h
 cases h
theorem zMe {s : ByteArray} (h : zEB s = true) : ∃ ev sz kd, IsTab s (zCL s).list ev sz kd ∧ (zCL s).shp = shpN ev sz kd ∧ (zCL s).regs = hllF (zAm (zCL s).list) := by
 cases q : zEJ s with
 | none => rw [(zEz q).2] at h; cases h
 | some o =>
  rw [(zFK q).2] at h
  have hT := isTab (of_decide_eq_true h)
  have hO := (zIJ hT.1).1
  refine ⟨o.shp.every.toNat, o.shp.size.toNat, o.shp.kind.toNat, ?_⟩
  rw [hO]
  exact ⟨hT.1, rfl, rfl⟩
theorem zMc {s : ByteArray} (h : zEB s = true) : tabL s = (zCL s).list ∧ (zCz s).isSome = true ∧ (zCL s).list.length ≤ 400 := by
 obtain ⟨ev, sz, kd, hI, _, _⟩ := zMe h
 exact ⟨(zHx hI).1, (zHx hI).2, zBm hI.ok⟩
end Go.Rl
namespace Go.Rl
open Go.Proofs Go.Proofs.Tryz
set_option maxRecDepth 1000000
set_option maxHeartbeats 2000000
theorem zHC : (Tryz.prog.info? 72).map (fun i => (i.zero, i.size, i.bytes)) = some (some (.agg #[.slice none 0 0, .int .i64 0, .int .i64 0, .int .i64 0, .int .i64 0, .int .i64 0, .int .i64 0, .string ⟨#[]⟩, .string ⟨#[]⟩]), 9, 104) := by kernel_rfl
theorem en120 : En Tryz.prog 120 := zAl func120 (by decide) rfl
theorem en82 : En Tryz.prog 82 := zAl func82 (by decide) rfl
theorem en81 : En Tryz.prog 81 := zAl func81 (by decide) rfl
theorem en84 : En Tryz.prog 84 := zAl func84 (by decide) rfl
theorem en10 : En Tryz.prog 10 := zAl func10 (by decide) rfl
theorem zHB (s : ByteArray) (hs : s.size ≤ 9000000000000000000) : Con Tryz.prog 81 [.one (PV.v (.string s))] [] [.agg [.v (.int .i64 ((zBL s).getD .zero).kind), .v (.int .i64 ((zBL s).getD .zero).seed), .v (.int .i64 ((zBL s).getD .zero).probes), .v (.string ((zBL s).getD .zero).bits)], .one (.v (.bool ((zBL s).isSome)))] := by
 refine zAR func81 rfl rfl rfl rfl ?_
 refine zAB (zAA rfl (.run [] [2] rfl (zA7 rfl 2 zCm rfl (by decide) rfl (by decide)) (.a rfl rfl .nil)) ?_)
 refine zAB (zAA rfl (.m rfl rfl (.r rfl (zAt (pl := [(0, 1), (1, 1)]) rfl underlying104 zFs (by kernel_rfl) rfl rfl) (.run [800] [] rfl (zCo rfl 800 rfl rfl rfl (by decide) rfl (by decide)) (.a rfl rfl .nil)))) ?_)
 refine zAB ?_
 have hn1 := zGn s false
 have hn2 := zGn (nS s false).1 (nS s false).2
 have hn3 := zGn (nS (nS s false).1 (nS s false).2).1 (nS (nS s false).1 (nS s false).2).2
 have hn4 := zJp (nS (nS (nS s false).1 (nS s false).2).1 (nS (nS s false).1 (nS s false).2).2).1 (nS (nS (nS s false).1 (nS s false).2).1 (nS (nS s false).1 (nS s false).2).2).2
 refine zAQ (s' := mk [(2, .ptr 2 0), (4, .ea 800 0 0)] [(2, [.vi 0, .vi 0, .vi 0, .vs ⟨#[]⟩])] [(800, 2, pvTk (s, false))]) ?_ ?_
 · exact zAJ ⟨rfl, rfl, trivial⟩ ⟨rfl, trivial⟩ ⟨rfl, trivial⟩ rfl
 refine zAA rfl (.m rfl rfl (.run [800, 1000] [] rfl (zAF rfl 1000 (X := [800]) en83 rfl (.val nod) (.cons (.rptr rfl) .nil) (by decide) (all_cons rfl all_nil) (.keep (xs := pvTk (s, false)) rfl (FlatP.nf (zAs _)) .nil) (zCE s false (by omega)) rfl rfl (nle rfl)) (.m rfl rfl (.run [800, 1200] [] rfl (zAF rfl 1200 (X := [800]) en83 rfl (.val nod) (.cons (.rptr rfl) .nil) (by decide) (all_cons rfl all_nil) (.keep (xs := pvTk (nS s false)) rfl (FlatP.nf (zAs _)) .nil) (zCE ((nS s false).1) ((nS s false).2) (by omega)) rfl rfl (nle rfl)) (.m rfl rfl (.run [800, 1400] [] rfl (zAF rfl 1400 (X := [800]) en83 rfl (.val nod) (.cons (.rptr rfl) .nil) (by decide) (all_cons rfl all_nil) (.keep (xs := pvTk (nS ((nS s false).1) ((nS s false).2))) rfl (FlatP.nf (zAs _)) .nil) (zCE ((nS ((nS s false).1) ((nS s false).2)).1) ((nS ((nS s false).1) ((nS s false).2)).2) (by omega)) rfl rfl (nle rfl)) (.m rfl rfl (.run [800, 1600] [] rfl (zAF rfl 1600 (X := [800]) zON rfl (.val nod) (.cons (.rptr rfl) .nil) (by decide) (all_cons rfl all_nil) (.keep (xs := pvTk (nS ((nS ((nS s false).1) ((nS s false).2)).1) ((nS ((nS s false).1) ((nS s false).2)).2))) rfl (FlatP.nf (zAs _)) .nil) (zER ((nS ((nS ((nS s false).1) ((nS s false).2)).1) ((nS ((nS s false).1) ((nS s false).2)).2)).1) ((nS ((nS ((nS s false).1) ((nS s false).2)).1) ((nS ((nS s false).1) ((nS s false).2)).2)).2) (by omega)) rfl rfl (nle rfl)) (.r rfl (zAt (pl := [(0, 1), (1, 1), (2, 1), (3, 1)]) rfl underlying64 zCm (by kernel_rfl) rfl rfl) (.run [] [5] rfl (zA7 rfl 5 zCm rfl (by decide) rfl (by decide)) (.r rfl (zAN rfl rfl rfl rfl rfl sizeOf64 rfl (nle rfl)) .nil))))))))))) ?_
 have hr1 : pvTk (xS ((nS ((nS ((nS s false).1) ((nS s false).2)).1) ((nS ((nS s false).1) ((nS s false).2)).2)).1) ((nS ((nS ((nS s false).1) ((nS s false).2)).1) ((nS ((nS s false).1) ((nS s false).2)).2)).2)) = pvTk (q4 s) := by rfl
 refine zAQ (s' := mk [(2, .ptr 2 0), (4, .ea 800 0 0), (5, .ptr 5 0)] [(2, [.vi 0, .vi 0, .vi 0, .vs ⟨#[]⟩]), (5, [.vi (nV s), .vi (nV ((nS s false).1)), .vi (nV ((nS ((nS s false).1) ((nS s false).2)).1)), .vs (xV ((nS ((nS ((nS s false).1) ((nS s false).2)).1) ((nS ((nS s false).1) ((nS s false).2)).2)).1))])] [(800, 2, pvTk (q4 s))]) ?_ ?_
 · exact zAJ ⟨rfl, rfl, rfl, trivial⟩ ⟨rfl, rfl, trivial⟩ ⟨(congrArg (fun x => some (2, x)) hr1), trivial⟩ rfl
 refine zAB ?_
 refine zAB ?_
 have hq4 : (q4 s).1.size ≤ s.size := Nat.le_trans (zJp _ _) (Nat.le_trans (zGn _ _) (Nat.le_trans (zGn _ _) (zGn _ _)))
 have hxv := zLK (q3 s).1
 have hxw : (xV (nS (nS (nS s false).1 (nS s false).2).1 (nS (nS s false).1 (nS s false).2).2).1).size ≤ 60000 := hxv
 rcases bfc (!(!((q4 s).2) && decide (((q4 s).1) = ⟨#[]⟩))) with h2 | h2
 ·
  have h2' := h2
  replace h2' : (!((q4 s).2) && decide (((q4 s).1) = ⟨#[]⟩)) = true := zAq h2'
  refine zAA rfl (.m rfl rfl (.run [800, 1900] [] rfl (zAF rfl 1900 (X := [800]) en120 rfl (.val nod) (.cons (.rptr rfl) .nil) (by decide) (all_cons rfl all_nil) (.keep (xs := pvTk (q4 s)) rfl (FlatP.nf (zAs _)) .nil) (zGH ((q4 s).1) ((q4 s).2) (by omega)) rfl rfl (nle rfl)) (.r rfl (zAI (zAa (b := (!((q4 s).2) && decide (((q4 s).1) = ⟨#[]⟩))) rfl rfl) (zAE h2)) (.m rfl rfl (.r rfl (zAW rfl rfl rfl isAgg64 sizeOf64 (nle rfl)) (.run [2300] [] rfl (zAF rfl 2300 (X := []) zM6 rfl (.val nod) (.cons (.agg (.cons (.bor .v) (.cons (.bor .v) (.cons (.bor .v) (.cons (.bor .v) .nil))))) .nil) (by decide) all_nil .nil (zDA (⟨nV s, nV ((nS s false).1), nV ((nS ((nS s false).1) ((nS s false).2)).1), xV ((nS ((nS ((nS s false).1) ((nS s false).2)).1) ((nS ((nS s false).1) ((nS s false).2)).2)).1)⟩ : Flt) (Nat.le_trans (show _ ≤ 60000 from hxw) (by decide))) rfl rfl (nle rfl)) (.r rfl (zAa (b := zAY (⟨nV s, nV ((nS s false).1), nV ((nS ((nS s false).1) ((nS s false).2)).1), xV ((nS ((nS ((nS s false).1) ((nS s false).2)).1) ((nS ((nS s false).1) ((nS s false).2)).2)).1)⟩ : Flt)) rfl rfl) (.r rfl (zAg rfl rfl) .nil)))))))) ?_
  refine zAT (t := (!(zAY (⟨nV s, nV ((nS s false).1), nV ((nS ((nS s false).1) ((nS s false).2)).1), xV ((nS ((nS ((nS s false).1) ((nS s false).2)).1) ((nS ((nS s false).1) ((nS s false).2)).2)).1)⟩ : Flt)))) rfl (fun h3 => ?_) (fun h3 => ?_)
  ·
   replace h3 : (zAY (⟨nV s, nV ((nS s false).1), nV ((nS ((nS s false).1) ((nS s false).2)).1), xV ((nS ((nS ((nS s false).1) ((nS s false).2)).1) ((nS ((nS s false).1) ((nS s false).2)).2)).1)⟩ : Flt)) = false := zAp h3
   refine zAB ?_
   rw [zNn (s := s) (show zAY (zIA s) = false from h3)]
   refine zAA rfl (.r rfl (zAt (pl := [(0, 1), (1, 1), (2, 1), (3, 1)]) rfl underlying64 zCm (by kernel_rfl) rfl rfl) (.r rfl (zAN rfl rfl rfl rfl rfl sizeOf64 rfl (nle rfl)) (.a rfl rfl .nil))) ?_
   refine zAK ?_
   exact ends [_, _] [] (.cons (.cell rfl rfl isAgg64 sizeOf64 (nle rfl)) (.cons (.tmp rfl) .nil)) (.cons (.agg (.cons .v (.cons .v (.cons .v (.cons .v .nil)))) (zAL (.v _) (zAL (.v _) (zAL (.v _) (zAL (.v _) zBR))))) (.cons (.one .v (.v _)) .nil)) (by decide) trivial
  ·
   replace h3 : (zAY (⟨nV s, nV ((nS s false).1), nV ((nS ((nS s false).1) ((nS s false).2)).1), xV ((nS ((nS ((nS s false).1) ((nS s false).2)).1) ((nS ((nS s false).1) ((nS s false).2)).2)).1)⟩ : Flt)) = true := zAq h3
   refine zAM ?_
   refine zAB ?_
   rw [zKi (s := s) h2' (show zAY (zIA s) = true from h3)]
   refine zAA rfl (.r rfl (zAW rfl rfl rfl isAgg64 sizeOf64 (nle rfl)) (.r rfl (zAN rfl rfl rfl rfl rfl sizeOf64 rfl (nle rfl)) (.a rfl rfl .nil))) ?_
   refine zAK ?_
   exact ends [_, _] [] (.cons (.cell rfl rfl isAgg64 sizeOf64 (nle rfl)) (.cons (.tmp rfl) .nil)) (.cons (.agg (.cons .v (.cons .v (.cons .v (.cons .v .nil)))) (zAL (.v _) (zAL (.v _) (zAL (.v _) (zAL (.v _) zBR))))) (.cons (.one .v (.v _)) .nil)) (by decide) trivial
 ·
  have h2' := h2
  replace h2' : (!((q4 s).2) && decide (((q4 s).1) = ⟨#[]⟩)) = false := zAp h2'
  refine zAA rfl (.m rfl rfl (.run [800, 1900] [] rfl (zAF rfl 1900 (X := [800]) en120 rfl (.val nod) (.cons (.rptr rfl) .nil) (by decide) (all_cons rfl all_nil) (.keep (xs := pvTk (q4 s)) rfl (FlatP.nf (zAs _)) .nil) (zGH ((q4 s).1) ((q4 s).2) (by omega)) rfl rfl (nle rfl)) (.r rfl (zAI (zAa (b := (!((q4 s).2) && decide (((q4 s).1) = ⟨#[]⟩))) rfl rfl) (zAE h2)) (.m rfl rfl (.not rfl (.not rfl (.not rfl (.r rfl (zAh rfl rfl) .nil)))))))) ?_
  refine zAT (t := true) rfl (fun _ => ?_) (fun h => nomatch h)
  refine zAB ?_
  rw [zNo (s := s) h2']
  refine zAA rfl (.r rfl (zAt (pl := [(0, 1), (1, 1), (2, 1), (3, 1)]) rfl underlying64 zCm (by kernel_rfl) rfl rfl) (.r rfl (zAN rfl rfl rfl rfl rfl sizeOf64 rfl (nle rfl)) (.a rfl rfl .nil))) ?_
  refine zAK ?_
  exact ends [_, _] [] (.cons (.cell rfl rfl isAgg64 sizeOf64 (nle rfl)) (.cons (.tmp rfl) .nil)) (.cons (.agg (.cons .v (.cons .v (.cons .v (.cons .v .nil)))) (zAL (.v _) (zAL (.v _) (zAL (.v _) (zAL (.v _) zBR))))) (.cons (.one .v (.v _)) .nil)) (by decide) trivial
theorem zN2 {γ : Gho} (ht : TabG γ) (s : ByteArray) (l : List Ent) (pe ps pk fk fs fp : Int) (fb rg : ByteArray) (ho : zCL s = ⟨l, ⟨pe, ps, pk⟩, ⟨fk, fs, fp, fb⟩, rg⟩) (hs : s.size ≤ 9000000000000000000) : ConG γ Tryz.prog 41 [.one (PV.v (.string s))] [] [.agg [.sl true 4 (pvE l), .v (.int .i64 pe), .v (.int .i64 ps), .v (.int .i64 pk), .v (.int .i64 fk), .v (.int .i64 fs), .v (.int .i64 fp), .v (.string fb), .v (.string rg)], .one (.v (.bool (zEB s)))] := by
 refine zAR func41 rfl rfl rfl rfl ?_
 refine zAB (zAA rfl (.run [] [2] rfl (zA7 rfl 2 zHC rfl (by decide) rfl (by decide)) (.a rfl rfl .nil)) ?_)
 refine zAB (zAA rfl (.m rfl rfl (.r rfl (zAO rfl rfl underlying9) (.r rfl (zBt rfl rfl rfl (by omega)) (.a rfl rfl .nil)))) ?_)
 refine zAB ?_
 refine zAB ?_
 rcases bfc (decide (((s.size : Int) - 16) < 0)) with h1 | h1
 ·
  have h1' := h1
  replace h1' := of_decide_eq_false h1'
  refine zAA rfl (.m rfl rfl (.r rfl (zAI (zAz rfl rfl rfl) (zAE h1)) (.m rfl rfl (.m rfl rfl (.r rfl (zAO rfl rfl underlying9) (.r rfl (zBH rfl rfl rfl) (.r rfl (zAg rfl rfl) .nil))))))) ?_
  refine zAT (t := decide (60000 < (s.size : Int))) rfl (fun h2 => ?_) (fun h2 => ?_)
  ·
   replace h2 := of_decide_eq_true h2
   refine zAB ?_
   refine zAQ (s' := mk [(2, .ptr 2 0)] [(2, [.nils, .vi 0, .vi 0, .vi 0, .vi 0, .vi 0, .vi 0, .vs ⟨#[]⟩, .vs ⟨#[]⟩])] []) ?_ ?_
   · exact zAJ ⟨rfl, trivial⟩ ⟨rfl, trivial⟩ trivial rfl
   have hz := zEz (zF8 (s := s) (fun q => by have q1 := q.big; have q2 := q.small; omega))
   obtain ⟨rfl, rfl, rfl, rfl, rfl, rfl, rfl, rfl, rfl⟩ := zEb (ho.symm.trans hz.1)
   rw [hz.2]
   refine zAA rfl (.r rfl (zAt (pl := [(0, 1), (1, 3), (4, 4), (8, 1)]) rfl underlying72 zHC (by kernel_rfl) rfl rfl) (.r rfl (zAN rfl rfl rfl rfl rfl sizeOf72 rfl (nle rfl)) (.a rfl rfl .nil))) ?_
   refine zAK ?_
   exact ends [_, _] [] (.cons (.cell rfl rfl isAgg72 sizeOf72 (nle rfl)) (.cons (.tmp rfl) .nil)) (.cons (.agg (.cons (.nil _) (.cons .v (.cons .v (.cons .v (.cons .v (.cons .v (.cons .v (.cons .v (.cons .v .nil))))))))) (zAL (.sl _ _ (fun _ h => nomatch h)) (zAL (.v _) (zAL (.v _) (zAL (.v _) (zAL (.v _) (zAL (.v _) (zAL (.v _) (zAL (.v _) (zAL (.v _) zBR)))))))))) (.cons (.one .v (.v _)) .nil)) (by decide) trivial
  ·
   replace h2 := of_decide_eq_false h2
   refine zAM ?_
   refine zAB ?_
   refine zAQ (s' := mk [(0, .vs s), (2, .ptr 2 0), (4, .vi ((s.size : Int) - 16))] [(2, [.nils, .vi 0, .vi 0, .vi 0, .vi 0, .vi 0, .vi 0, .vs ⟨#[]⟩, .vs ⟨#[]⟩])] []) ?_ ?_
   · exact zAJ ⟨rfl, rfl, rfl, trivial⟩ ⟨rfl, trivial⟩ trivial rfl
   have htl := zFY (s := s) (by omega)
   have hat := zOc s
   refine zAQ (s' := mk [(0, .vs s), (2, .ptr 2 0), (4, .vi ((s.size - 16 : Nat) : Int))] [(2, [.nils, .vi 0, .vi 0, .vi 0, .vi 0, .vi 0, .vi 0, .vs ⟨#[]⟩, .vs ⟨#[]⟩])] []) ?_ ?_
   · exact zAJ ⟨rfl, rfl, (zAG (by omega)), trivial⟩ ⟨rfl, trivial⟩ trivial rfl
   refine zAA rfl (.m rfl rfl (.m rfl rfl (.r rfl (zAI (zAv rfl rfl underlying9 (.at_ rfl rfl) .no (by omega) (Nat.le_refl _)) ((zA5 (show s.extract (s.size - 16) s.size = zCS s from rfl)))) (.r rfl (zAt (pl := [(0, 1), (1, 1)]) rfl underlying104 zFs (by kernel_rfl) rfl rfl) (.run [3100] [] rfl (zCo rfl 3100 rfl rfl rfl (by decide) rfl (by decide)) (.a rfl rfl .nil)))))) ?_
   refine zAB ?_
   have hf1 := zOM (zCS s) false
   have hf2 := zOM (fS (zCS s) false).1 (fS (zCS s) false).2
   have hf3 := foot3 (s := s) (by omega)
   refine zAA rfl (.m rfl rfl (.run [3100, 3300] [] rfl (zAF rfl 3300 (X := [3100]) en80 rfl (.val nod) (.cons (.rptr rfl) .nil) (by decide) (all_cons rfl all_nil) (.keep (xs := pvTk (zCS s, false)) rfl (FlatP.nf (zAs _)) .nil) (zCh (zCS s) false (by omega)) rfl rfl (nle rfl)) (.m rfl rfl (.run [3100, 3500] [] rfl (zAF rfl 3500 (X := [3100]) en80 rfl (.val nod) (.cons (.rptr rfl) .nil) (by decide) (all_cons rfl all_nil) (.keep (xs := pvTk (fS (zCS s) false)) rfl (FlatP.nf (zAs _)) .nil) (zCh ((fS (zCS s) false).1) ((fS (zCS s) false).2) (by omega)) rfl rfl (nle rfl)) (.m rfl rfl (.run [3100, 3700] [] rfl (zAF rfl 3700 (X := [3100]) en80 rfl (.val nod) (.cons (.rptr rfl) .nil) (by decide) (all_cons rfl all_nil) (.keep (xs := pvTk (fS ((fS (zCS s) false).1) ((fS (zCS s) false).2))) rfl (FlatP.nf (zAs _)) .nil) (zCh ((fS ((fS (zCS s) false).1) ((fS (zCS s) false).2)).1) ((fS ((fS (zCS s) false).1) ((fS (zCS s) false).2)).2) (by omega)) rfl rfl (nle rfl)) (.a rfl rfl (.a rfl rfl (.a rfl rfl .nil))))))))) ?_
   refine zAB ?_
   refine zAB ?_
   refine zAQ (s' := mk [(0, .vs s), (2, .ptr 2 0), (4, .vi ((s.size - 16 : Nat) : Int)), (6, .vi ((fV (zCS s) : Nat) : Int)), (7, .vi ((fV ((fS (zCS s) false).1) : Nat) : Int)), (8, .vi ((fV ((fS ((fS (zCS s) false).1) ((fS (zCS s) false).2)).1) : Nat) : Int))] [(2, [.nils, .vi 0, .vi 0, .vi 0, .vi 0, .vi 0, .vi 0, .vs ⟨#[]⟩, .vs ⟨#[]⟩])] []) ?_ ?_
   · exact zAJ ⟨rfl, rfl, rfl, rfl, rfl, rfl, trivial⟩ ⟨rfl, trivial⟩ trivial rfl
   clear hf1 hf2
   refine zAQ (s' := mk [(0, .vs s), (2, .ptr 2 0), (4, .vi ((s.size - 16 : Nat) : Int)), (6, .vi ((tAt0 s : Nat) : Int)), (7, .vi ((tAt1 s : Nat) : Int)), (8, .vi ((tAt2 s : Nat) : Int))] [(2, [.nils, .vi 0, .vi 0, .vi 0, .vi 0, .vi 0, .vi 0, .vs ⟨#[]⟩, .vs ⟨#[]⟩])] []) ?_ ?_
   · exact zAJ ⟨rfl, rfl, rfl, (zAG (congrArg Nat.cast hf3.1)), (zAG (congrArg Nat.cast hf3.2.1)), (zAG (congrArg Nat.cast hf3.2.2)), trivial⟩ ⟨rfl, trivial⟩ trivial rfl
   refine zAA rfl (.m rfl rfl (.m rfl rfl (.m rfl rfl (.r rfl (zAI (st_max3 rfl rfl rfl rfl) ((zAG (max3 _ _ _)))) (.m rfl rfl (.r rfl (zBH rfl rfl rfl) .nil)))))) ?_
   refine zAT (t := decide (((s.size - 16 : Nat) : Int) < ((max (max (tAt0 s) (tAt1 s)) (tAt2 s) : Nat) : Int))) rfl (fun h3 => ?_) (fun h3 => ?_)
   ·
    replace h3 := of_decide_eq_true h3
    refine zAB ?_
    have hz := zEz (zF8 (s := s) (fun q => by have q1 := q.in_; rw [oN] at q1; omega))
    obtain ⟨rfl, rfl, rfl, rfl, rfl, rfl, rfl, rfl, rfl⟩ := zEb (ho.symm.trans hz.1)
    rw [hz.2]
    refine zAA rfl (.r rfl (zAt (pl := [(0, 1), (1, 3), (4, 4), (8, 1)]) rfl underlying72 zHC (by kernel_rfl) rfl rfl) (.r rfl (zAN rfl rfl rfl rfl rfl sizeOf72 rfl (nle rfl)) (.a rfl rfl .nil))) ?_
    refine zAK ?_
    exact ends [_, _] [] (.cons (.cell rfl rfl isAgg72 sizeOf72 (nle rfl)) (.cons (.tmp rfl) .nil)) (.cons (.agg (.cons (.nil _) (.cons .v (.cons .v (.cons .v (.cons .v (.cons .v (.cons .v (.cons .v (.cons .v .nil))))))))) (zAL (.sl _ _ (fun _ h => nomatch h)) (zAL (.v _) (zAL (.v _) (zAL (.v _) (zAL (.v _) (zAL (.v _) (zAL (.v _) (zAL (.v _) (zAL (.v _) zBR)))))))))) (.cons (.one .v (.v _)) .nil)) (by decide) trivial
   ·
    replace h3 := of_decide_eq_false h3
    refine zAM ?_
    refine zAB (zAA rfl (.r rfl (zAt (pl := [(0, 1), (1, 3), (4, 4), (8, 1)]) rfl underlying72 zHC (by kernel_rfl) rfl rfl) (.run [] [9] rfl (zA7 rfl 9 zHC rfl (by decide) rfl (by decide)) (.r rfl (zAN rfl rfl rfl rfl rfl sizeOf72 rfl (nle rfl)) .nil))) ?_)
    refine zAB ?_
    refine zAQ (s' := mk [(0, .vs s), (2, .ptr 2 0), (4, .vi ((s.size - 16 : Nat) : Int)), (6, .vi ((tAt0 s : Nat) : Int)), (7, .vi ((tAt1 s : Nat) : Int)), (8, .vi ((tAt2 s : Nat) : Int)), (9, .ptr 9 0)] [(2, [.nils, .vi 0, .vi 0, .vi 0, .vi 0, .vi 0, .vi 0, .vs ⟨#[]⟩, .vs ⟨#[]⟩]), (9, [.nils, .vi 0, .vi 0, .vi 0, .vi 0, .vi 0, .vi 0, .vs ⟨#[]⟩, .vs ⟨#[]⟩])] []) ?_ ?_
    · exact zAJ ⟨rfl, rfl, rfl, rfl, rfl, rfl, rfl, trivial⟩ ⟨rfl, rfl, trivial⟩ trivial rfl
    have hxa : (s.extract (tAt1 s) (s.size - 16)).size ≤ s.size := by rw [ByteArray.size_extract]; omega
    have hxb := zLK (s.extract (tAt1 s) (s.size - 16))
    refine zAA rfl (.m rfl rfl (.m rfl rfl (.m rfl rfl (.r rfl (zAv rfl rfl underlying9 (.at_ rfl rfl) (.at_ rfl rfl) (by omega) (by omega)) (.r rfl (zAt (pl := [(0, 1), (1, 1)]) rfl underlying104 zFs (by kernel_rfl) rfl rfl) (.run [5200] [] rfl (zCo rfl 5200 rfl rfl rfl (by decide) rfl (by decide)) (.run [5200, 5300] [] rfl (zAF rfl 5300 (X := [5200]) en82 rfl (.val nod) (.cons (.rptr rfl) .nil) (by decide) (all_cons rfl all_nil) (.keep (xs := pvTk (s.extract (tAt1 s) (s.size - 16), false)) rfl (FlatP.nf (zAs _)) .nil) (zDy (s.extract (tAt1 s) (s.size - 16)) false (by omega)) rfl rfl (nle rfl)) (.run [5400, 5401, 5402, 5403, 5404] [] rfl (zAF rfl 5400 (X := []) en81 rfl (.val nod) (.cons (.one (.bor .v)) .nil) (by decide) all_nil .nil (zHB (xV (s.extract (tAt1 s) (s.size - 16))) (by omega)) rfl rfl (nle rfl)) (.m rfl rfl (.r rfl (zAH rfl rfl rfl) (.r rfl (zAH rfl rfl rfl) (.r rfl (zAC rfl rfl underlying72 rfl sizeOf64 (by decide)) (.r rfl (zAN rfl rfl rfl rfl rfl sizeOf64 rfl (nle rfl)) .nil))))))))))))) ?_
    refine zAB ?_
    refine zAQ (s' := mk [(0, .vs s), (2, .ptr 2 0), (4, .vi ((s.size - 16 : Nat) : Int)), (6, .vi ((tAt0 s : Nat) : Int)), (8, .vi ((tAt2 s : Nat) : Int)), (9, .ptr 9 0)] [(2, [.nils, .vi 0, .vi 0, .vi 0, .vi 0, .vi 0, .vi 0, .vs ⟨#[]⟩, .vs ⟨#[]⟩]), (9, [.nils, .vi 0, .vi 0, .vi 0, .vi (((zBL (xV (s.extract (tAt1 s) (s.size - 16)))).getD .zero).kind), .vi (((zBL (xV (s.extract (tAt1 s) (s.size - 16)))).getD .zero).seed), .vi (((zBL (xV (s.extract (tAt1 s) (s.size - 16)))).getD .zero).probes), .vs (((zBL (xV (s.extract (tAt1 s) (s.size - 16)))).getD .zero).bits), .vs ⟨#[]⟩])] []) ?_ ?_
    · exact zAJ ⟨rfl, rfl, rfl, rfl, rfl, rfl, trivial⟩ ⟨rfl, rfl, trivial⟩ trivial rfl
    have hxc : (s.extract (tAt2 s) (s.size - 16)).size ≤ s.size := by rw [ByteArray.size_extract]; omega
    have hop : (oP s).size ≤ 60000 := zLK _
    refine zAA rfl (.m rfl rfl (.m rfl rfl (.m rfl rfl (.r rfl (zAv rfl rfl underlying9 (.at_ rfl rfl) (.at_ rfl rfl) (by omega) (by omega)) (.r rfl (zAt (pl := [(0, 1), (1, 1)]) rfl underlying104 zFs (by kernel_rfl) rfl rfl) (.run [6300] [] rfl (zCo rfl 6300 rfl rfl rfl (by decide) rfl (by decide)) (.run [6300, 6400] [] rfl (zAF rfl 6400 (X := [6300]) en82 rfl (.val nod) (.cons (.rptr rfl) .nil) (by decide) (all_cons rfl all_nil) (.keep (xs := pvTk (s.extract (tAt2 s) (s.size - 16), false)) rfl (FlatP.nf (zAs _)) .nil) (zDy (s.extract (tAt2 s) (s.size - 16)) false (by omega)) rfl rfl (nle rfl)) (.r rfl (zAt (pl := [(0, 1), (1, 1)]) rfl underlying104 zFs (by kernel_rfl) rfl rfl) (.run [6600] [] rfl (zCo rfl 6600 rfl rfl rfl (by decide) rfl (by decide)) (.a rfl rfl .nil)))))))))) ?_
    refine zAB (zAA rfl (.m rfl rfl (.run [6600, 6800] [] rfl (zAF rfl 6800 (X := [6600]) en83 rfl (.val nod) (.cons (.rptr rfl) .nil) (by decide) (all_cons rfl all_nil) (.keep (xs := pvTk (oP s, false)) rfl (FlatP.nf (zAs _)) .nil) (zCE (oP s) false (by omega)) rfl rfl (nle rfl)) .nil)) ?_)
    have hr4 : pvTk (nS (oP s) false) = pvTk (oA s) := by rfl
    refine zAQ (s' := mk [(0, .vs s), (2, .ptr 2 0), (6, .vi ((tAt0 s : Nat) : Int)), (9, .ptr 9 0), (10, .ea 6600 0 0)] [(2, [.nils, .vi 0, .vi 0, .vi 0, .vi 0, .vi 0, .vi 0, .vs ⟨#[]⟩, .vs ⟨#[]⟩]), (9, [.nils, .vi 0, .vi 0, .vi 0, .vi (((zBL (xV (s.extract (tAt1 s) (s.size - 16)))).getD .zero).kind), .vi (((zBL (xV (s.extract (tAt1 s) (s.size - 16)))).getD .zero).seed), .vi (((zBL (xV (s.extract (tAt1 s) (s.size - 16)))).getD .zero).probes), .vs (((zBL (xV (s.extract (tAt1 s) (s.size - 16)))).getD .zero).bits), .vs ⟨#[]⟩])] [(6600, 2, pvTk (oA s))]) ?_ ?_
    · exact zAJ ⟨rfl, rfl, rfl, rfl, rfl, trivial⟩ ⟨rfl, rfl, trivial⟩ ⟨(congrArg (fun x => some (2, x)) hr4), trivial⟩ rfl
    refine zAB ?_
    refine zAB ?_
    have hoa : (oA s).1.size ≤ 60000 := Nat.le_trans (zGn _ _) hop
    refine zAA rfl (.m rfl rfl (.r rfl (zAe rfl rfl) (.r rfl (zA1 rfl rfl underlying104 rfl sizeOf9 (by decide)) (.r rfl (zBb (.string ((oA s).1)) rfl rfl rfl rfl isAgg9 rfl) (.r rfl (zAO rfl rfl underlying9) (.r rfl (zAz rfl rfl rfl) .nil)))))) ?_
    refine zAT (t := decide ((((oA s).1).size : Int) < 64)) rfl (fun h5 => ?_) (fun h5 => ?_)
    ·
     replace h5 := of_decide_eq_true h5
     refine zAB ?_
     have hz := zEz (zF8 (s := s) (fun q => by have q1 := q.regs; omega))
     obtain ⟨rfl, rfl, rfl, rfl, rfl, rfl, rfl, rfl, rfl⟩ := zEb (ho.symm.trans hz.1)
     rw [hz.2]
     refine zAA rfl (.r rfl (zAt (pl := [(0, 1), (1, 3), (4, 4), (8, 1)]) rfl underlying72 zHC (by kernel_rfl) rfl rfl) (.r rfl (zAN rfl rfl rfl rfl rfl sizeOf72 rfl (nle rfl)) (.a rfl rfl .nil))) ?_
     refine zAK ?_
     exact ends [_, _] [] (.cons (.cell rfl rfl isAgg72 sizeOf72 (nle rfl)) (.cons (.tmp rfl) .nil)) (.cons (.agg (.cons (.nil _) (.cons .v (.cons .v (.cons .v (.cons .v (.cons .v (.cons .v (.cons .v (.cons .v .nil))))))))) (zAL (.sl _ _ (fun _ h => nomatch h)) (zAL (.v _) (zAL (.v _) (zAL (.v _) (zAL (.v _) (zAL (.v _) (zAL (.v _) (zAL (.v _) (zAL (.v _) zBR)))))))))) (.cons (.one .v (.v _)) .nil)) (by decide) trivial
    ·
     replace h5 := of_decide_eq_false h5
     refine zAM ?_
     refine zAB ?_
     refine zAQ (s' := mk [(0, .vs s), (2, .ptr 2 0), (6, .vi ((tAt0 s : Nat) : Int)), (9, .ptr 9 0), (10, .ea 6600 0 0)] [(2, [.nils, .vi 0, .vi 0, .vi 0, .vi 0, .vi 0, .vi 0, .vs ⟨#[]⟩, .vs ⟨#[]⟩]), (9, [.nils, .vi 0, .vi 0, .vi 0, .vi (((zBL (xV (s.extract (tAt1 s) (s.size - 16)))).getD .zero).kind), .vi (((zBL (xV (s.extract (tAt1 s) (s.size - 16)))).getD .zero).seed), .vi (((zBL (xV (s.extract (tAt1 s) (s.size - 16)))).getD .zero).probes), .vs (((zBL (xV (s.extract (tAt1 s) (s.size - 16)))).getD .zero).bits), .vs ⟨#[]⟩])] [(6600, 2, pvTk (oA s))]) ?_ ?_
     · exact zAJ ⟨rfl, rfl, rfl, rfl, rfl, trivial⟩ ⟨rfl, rfl, trivial⟩ ⟨rfl, trivial⟩ rfl
     refine zAf zBo rfl (.m rfl rfl (.m rfl rfl (.r rfl (zAe rfl rfl) (.r rfl (zA1 rfl rfl underlying104 rfl sizeOf9 (by decide)) (.r rfl (zBb (.string ((oA s).1)) rfl rfl rfl rfl isAgg9 rfl) (.r rfl (zAv rfl rfl underlying9 .no (.at_ rfl (show (64 : Int) = ((64 : Nat) : Int) from rfl)) (Nat.zero_le _) (by omega)) (.m rfl rfl (.r rfl (zAe rfl rfl) (.r rfl (zA1 rfl rfl underlying104 rfl sizeOf9 (by decide)) (.r rfl (zBb (.string ((oA s).1)) rfl rfl rfl rfl isAgg9 rfl) (.r rfl (zAv rfl rfl underlying9 (.at_ rfl (show (64 : Int) = ((64 : Nat) : Int) from rfl)) .no (by omega) (Nat.le_refl _)) (.r rfl (zAC rfl rfl underlying72 rfl sizeOf9 (by decide)) (.r rfl (zAN rfl rfl rfl rfl rfl sizeOf9 rfl (nle rfl)) (.r rfl (zAe rfl rfl) (.r rfl (zA1 rfl rfl underlying104 rfl sizeOf9 (by decide)) (.r rfl (zBC rfl rfl rfl (FlatP.nf (zAs _)) rfl rfl rfl (.cons .v .nil) sizeOf9 rfl (nle rfl)) .nil)))))))))))))))) (by kernel_rfl) ?_
     have hr6 : (pvTk (oA s)).set 0 [PV.v (.string (((oA s).1).extract 64 (((oA s).1).size))), PV.v (.bool ((oA s).2))] = pvTk (oR s, (oA s).2) := by rfl
     refine zAQ (s' := mk [(0, .vs s), (2, .ptr 2 0), (6, .vi ((tAt0 s : Nat) : Int)), (9, .ptr 9 0), (10, .ea 6600 0 0)] [(2, [.nils, .vi 0, .vi 0, .vi 0, .vi 0, .vi 0, .vi 0, .vs ⟨#[]⟩, .vs ⟨#[]⟩]), (9, [.nils, .vi 0, .vi 0, .vi 0, .vi (((zBL (xV (s.extract (tAt1 s) (s.size - 16)))).getD .zero).kind), .vi (((zBL (xV (s.extract (tAt1 s) (s.size - 16)))).getD .zero).seed), .vi (((zBL (xV (s.extract (tAt1 s) (s.size - 16)))).getD .zero).probes), .vs (((zBL (xV (s.extract (tAt1 s) (s.size - 16)))).getD .zero).bits), .vs (((oA s).1).extract 0 64)])] [(6600, 2, pvTk (oR s, (oA s).2))]) ?_ ?_
     · exact zAJ ⟨rfl, rfl, rfl, rfl, rfl, trivial⟩ ⟨rfl, rfl, trivial⟩ ⟨(congrArg (fun x => some (2, x)) hr6), trivial⟩ rfl
     refine zAB ?_
     have hor : (oR s).size ≤ 60000 := Nat.le_trans (zC6 _ _) hoa
     have hn1 := zGn (oR s) (oA s).2
     have hn2 := zGn (nS (oR s) (oA s).2).1 (nS (oR s) (oA s).2).2
     refine zAA rfl (.m rfl rfl (.run [6600, 9100] [] rfl (zAF rfl 9100 (X := [6600]) en83 rfl (.val nod) (.cons (.rptr rfl) .nil) (by decide) (all_cons rfl all_nil) (.keep (xs := pvTk (oR s, (oA s).2)) rfl (FlatP.nf (zAs _)) .nil) (zCE (oR s) ((oA s).2) (by omega)) rfl rfl (nle rfl)) (.m rfl rfl (.run [6600, 9300] [] rfl (zAF rfl 9300 (X := [6600]) en83 rfl (.val nod) (.cons (.rptr rfl) .nil) (by decide) (all_cons rfl all_nil) (.keep (xs := pvTk (nS (oR s) ((oA s).2))) rfl (FlatP.nf (zAs _)) .nil) (zCE ((nS (oR s) ((oA s).2)).1) ((nS (oR s) ((oA s).2)).2) (by omega)) rfl rfl (nle rfl)) (.m rfl rfl (.run [6600, 9500] [] rfl (zAF rfl 9500 (X := [6600]) en83 rfl (.val nod) (.cons (.rptr rfl) .nil) (by decide) (all_cons rfl all_nil) (.keep (xs := pvTk (nS ((nS (oR s) ((oA s).2)).1) ((nS (oR s) ((oA s).2)).2))) rfl (FlatP.nf (zAs _)) .nil) (zCE ((nS ((nS (oR s) ((oA s).2)).1) ((nS (oR s) ((oA s).2)).2)).1) ((nS ((nS (oR s) ((oA s).2)).1) ((nS (oR s) ((oA s).2)).2)).2) (by omega)) rfl rfl (nle rfl)) (.r rfl (zAt (pl := [(0, 1), (1, 1), (2, 1)]) rfl underlying26 zEm (by kernel_rfl) rfl rfl) (.r rfl (zAC rfl rfl underlying72 rfl sizeOf26 (by decide)) (.r rfl (zAN rfl rfl rfl rfl rfl sizeOf26 rfl (nle rfl)) .nil))))))))) ?_
     refine zAB ?_
     refine zAB ?_
     refine zAQ (s' := mk [(0, .vs s), (2, .ptr 2 0), (6, .vi ((tAt0 s : Nat) : Int)), (9, .ptr 9 0)] [(2, [.nils, .vi 0, .vi 0, .vi 0, .vi 0, .vi 0, .vi 0, .vs ⟨#[]⟩, .vs ⟨#[]⟩]), (9, [.nils, .vi (nV (oR s)), .vi (nV ((nS (oR s) ((oA s).2)).1)), .vi (nV ((nS ((nS (oR s) ((oA s).2)).1) ((nS (oR s) ((oA s).2)).2)).1)), .vi (((zBL (xV (s.extract (tAt1 s) (s.size - 16)))).getD .zero).kind), .vi (((zBL (xV (s.extract (tAt1 s) (s.size - 16)))).getD .zero).seed), .vi (((zBL (xV (s.extract (tAt1 s) (s.size - 16)))).getD .zero).probes), .vs (((zBL (xV (s.extract (tAt1 s) (s.size - 16)))).getD .zero).bits), .vs (((oA s).1).extract 0 64)])] []) ?_ ?_
     · exact zAJ ⟨rfl, rfl, rfl, rfl, trivial⟩ ⟨rfl, rfl, trivial⟩ trivial rfl
     have hx0 : (s.extract 0 (tAt0 s)).size ≤ s.size := by rw [ByteArray.size_extract]; omega
     clear hn1 hn2
     refine zAA rfl (.m rfl rfl (.m rfl rfl (.r rfl (zAv rfl rfl underlying9 .no (.at_ rfl rfl) (Nat.zero_le _) (by omega)) (.r rfl (zAt (pl := [(0, 1), (1, 1)]) rfl underlying104 zFs (by kernel_rfl) rfl rfl) (.run [10200] [] rfl (zCo rfl 10200 rfl rfl rfl (by decide) rfl (by decide)) (.a rfl rfl .nil)))))) ?_
     refine zAS ?_
     refine zAQ (wk_nil 9 0 3 4 rfl rfl rfl (by decide)) ?_
     refine zAQ (zCc 10200 1 rfl rfl (by decide)) ?_
     refine zAo (σ := ByteArray × List Ent) (fun (left, out) => mk [(0, .vs s), (2, .ptr 2 0), (9, .ptr 9 0), (11, .ea 1 0 0)] [(2, [.nils, .vi 0, .vi 0, .vi 0, .vi 0, .vi 0, .vi 0, .vs ⟨#[]⟩, .vs ⟨#[]⟩]), (9, [.sl 3 0 ((pvE out).length), .vi (nV (oR s)), .vi (nV (nS (oR s) (oA s).2).1), .vi (nV (nS (nS (oR s) (oA s).2).1 (nS (oR s) (oA s).2).2).1), .vi (((zBL (xV (s.extract (tAt1 s) (s.size - 16)))).getD .zero).kind), .vi (((zBL (xV (s.extract (tAt1 s) (s.size - 16)))).getD .zero).seed), .vi (((zBL (xV (s.extract (tAt1 s) (s.size - 16)))).getD .zero).probes), .vs (((zBL (xV (s.extract (tAt1 s) (s.size - 16)))).getD .zero).bits), .vs ((oA s).1.extract 0 64)])] [(1, 2, pvTk (left, false)), (3, 4, pvE out)]) (fun (left, out) => (left.size ≤ s.size ∧ out.length + left.size ≤ s.size) ∧ pT (left.size + 1) left out = pT ((s.extract 0 (tAt0 s)).size + 1) (s.extract 0 (tAt0 s)) []) (fun (left, out) => left.size) (s.extract 0 (tAt0 s), []) ⟨⟨hx0, by rw [List.length_nil, Nat.zero_add]; exact hx0⟩, rfl⟩ (zAJ ⟨rfl, rfl, rfl, rfl, trivial⟩ ⟨rfl, rfl, trivial⟩ ⟨(congrArg (fun x => some (2, x)) (by rfl)), (congrArg (fun x => some (4, x)) (by rfl)), trivial⟩ rfl) ?_
     rintro ⟨left, out⟩ hG
     replace hG : (left.size ≤ s.size ∧ out.length + left.size ≤ s.size) ∧ pT (left.size + 1) left out = pT ((s.extract 0 (tAt0 s)).size + 1) (s.extract 0 (tAt0 s)) [] := hG
     obtain ⟨⟨hls, hlo⟩, hE⟩ := hG
     have hvo := zA2 out
     refine zAB ?_
     refine zAB (zAA rfl (.m rfl rfl (.r rfl (zAe rfl rfl) (.r rfl (zA1 rfl rfl underlying104 rfl sizeOf9 (by decide)) (.r rfl (zBb (.string left) rfl rfl rfl rfl isAgg9 rfl) (.r rfl (zCv rfl rfl rfl) .nil))))) ?_)
     refine zAT (t := (!(decide (left = ⟨#[]⟩)))) rfl (fun h7 => ?_) (fun h7 => ?_)
     ·
      replace h7 : ¬ (left = ⟨#[]⟩) := of_decide_eq_false (zAp h7)
      refine zAM ?_
      refine zAS ?_
      refine zAB ?_
      have hne := h7
      have hxv := zLK left
      refine zAA rfl (.m rfl rfl (.run [1, 11000] [] rfl (zAF rfl 11000 (X := [1]) en82 rfl (.val nod) (.cons (.rptr rfl) .nil) (by decide) (all_cons rfl all_nil) (.keep (xs := pvTk (left, false)) rfl (FlatP.nf (zAs _)) .nil) (zDy left false (by omega)) rfl rfl (nle rfl)) (.run [11100, 11101] [] rfl (zAF rfl 11100 (X := []) en84 rfl (.val nod) (.cons (.one (.bor .v)) .nil) (by decide) all_nil .nil (zH9 (xV left) (by omega)) rfl rfl (nle rfl)) (.m rfl rfl (.r rfl (zAH rfl rfl rfl) (.r rfl (zAH rfl rfl rfl) (.a rfl rfl (.a rfl rfl .nil)))))))) ?_
      refine zAB ?_
      refine zAB ?_
      refine zAQ (s' := mk [(0, .vs s), (2, .ptr 2 0), (9, .ptr 9 0), (11, .ea 1 0 0), (12, .sl 11100 0 ((pvE ((zBI (xV left)).getD [])).length)), (13, .vb ((zBI (xV left)).isSome))] [(2, [.nils, .vi 0, .vi 0, .vi 0, .vi 0, .vi 0, .vi 0, .vs ⟨#[]⟩, .vs ⟨#[]⟩]), (9, [.sl 3 0 ((pvE out).length), .vi (nV (oR s)), .vi (nV (nS (oR s) (oA s).2).1), .vi (nV (nS (nS (oR s) (oA s).2).1 (nS (oR s) (oA s).2).2).1), .vi (((zBL (xV (s.extract (tAt1 s) (s.size - 16)))).getD .zero).kind), .vi (((zBL (xV (s.extract (tAt1 s) (s.size - 16)))).getD .zero).seed), .vi (((zBL (xV (s.extract (tAt1 s) (s.size - 16)))).getD .zero).probes), .vs (((zBL (xV (s.extract (tAt1 s) (s.size - 16)))).getD .zero).bits), .vs ((oA s).1.extract 0 64)])] [(1, 2, pvTk (sS left false)), (3, 4, pvE out), (11100, 4, pvE ((zBI (xV left)).getD []))]) ?_ ?_
      · exact zAJ ⟨rfl, rfl, rfl, rfl, rfl, rfl, trivial⟩ ⟨rfl, rfl, trivial⟩ ⟨rfl, rfl, rfl, trivial⟩ rfl
      rcases bfc ((sS left false).2) with h8 | h8
      ·
       have h8' := h8
       refine zAA rfl (.m rfl rfl (.r rfl (zAe rfl rfl) (.r rfl (zA1 rfl rfl underlying104 rfl sizeOf4 (by decide)) (.r rfl (zAI (zBb (.bool ((sS left false).2)) rfl rfl rfl rfl isAgg4 rfl) (zAE h8)) (.m rfl rfl (.m rfl rfl (.r rfl (zAa (b := (zBI (xV left)).isSome) rfl rfl) (.r rfl (zAg rfl rfl) .nil)))))))) ?_
       refine zAT (t := (!((zBI (xV left)).isSome))) rfl (fun h9 => ?_) (fun h9 => ?_)
       ·
        replace h9 : ((zBI (xV left)).isSome) = false := zAp h9
        refine zAB ?_
        have hz := zEz (zJA (hE.symm.trans (zHa hne (.inr h9))))
        obtain ⟨rfl, rfl, rfl, rfl, rfl, rfl, rfl, rfl, rfl⟩ := zEb (ho.symm.trans hz.1)
        rw [hz.2]
        refine zAA rfl (.r rfl (zAt (pl := [(0, 1), (1, 3), (4, 4), (8, 1)]) rfl underlying72 zHC (by kernel_rfl) rfl rfl) (.r rfl (zAN rfl rfl rfl rfl rfl sizeOf72 rfl (nle rfl)) (.a rfl rfl .nil))) ?_
        refine zAK ?_
        exact ends [_, _] [] (.cons (.cell rfl rfl isAgg72 sizeOf72 (nle rfl)) (.cons (.tmp rfl) .nil)) (.cons (.agg (.cons (.nil _) (.cons .v (.cons .v (.cons .v (.cons .v (.cons .v (.cons .v (.cons .v (.cons .v .nil))))))))) (zAL (.sl _ _ (fun _ h => nomatch h)) (zAL (.v _) (zAL (.v _) (zAL (.v _) (zAL (.v _) (zAL (.v _) (zAL (.v _) (zAL (.v _) (zAL (.v _) zBR)))))))))) (.cons (.one .v (.v _)) .nil)) (by decide) trivial
       ·
        replace h9 : ((zBI (xV left)).isSome) = true := zAq h9
        refine zAM ?_
        have hbd := h8'
        have hrd := h9
        have hfw := zMP (xV left)
        have hsf := sS_few hbd
        have hsl := sS_lt hbd
        have hvr := zA2 ((zBI (xV left)).getD [])
        refine zAA rfl (.r rfl (zAC rfl rfl underlying72 rfl sizeOf24 (by decide)) (.r rfl (zAD rfl rfl rfl isAgg24 rfl) (.m rfl rfl (.run [3] [] rfl (zB2 rfl 3 (ib := 3) (len := ((pvE out) ++ (pvE ((zBI (xV left)).getD []))).length) rfl rfl (.row (len := (pvE out).length) (xs := pvE out) rfl rfl (.inl rfl)) (.give (len := (pvE ((zBI (xV left)).getD [])).length) (xs := pvE ((zBI (xV left)).getD [])) rfl rfl) underlying24 (sk underlying24 rfl) zEC rfl (by decide) (by decide) (by decide) List.length_append (by simp only [maxLen, List.length_append, List.length_cons, List.length_nil, zA2]; omega) (by simp only [maxLen, List.length_append, List.length_cons, List.length_nil, zA2]; omega)) (.r rfl (zAC rfl rfl underlying72 rfl sizeOf24 (by decide)) (.r rfl (zAN rfl rfl rfl rfl rfl sizeOf24 rfl (nle rfl)) .nil)))))) ?_
        have hr10 : (pvE out) ++ (pvE ((zBI (xV left)).getD [])) = pvE (out ++ (zBI (xV left)).getD []) := by exact zMT _ _
        have hp11 : (some [.sl 3 0 (((pvE out) ++ (pvE ((zBI (xV left)).getD []))).length), .vi (nV (oR s)), .vi (nV (nS (oR s) (oA s).2).1), .vi (nV (nS (nS (oR s) (oA s).2).1 (nS (oR s) (oA s).2).2).1), .vi (((zBL (xV (s.extract (tAt1 s) (s.size - 16)))).getD .zero).kind), .vi (((zBL (xV (s.extract (tAt1 s) (s.size - 16)))).getD .zero).seed), .vi (((zBL (xV (s.extract (tAt1 s) (s.size - 16)))).getD .zero).probes), .vs (((zBL (xV (s.extract (tAt1 s) (s.size - 16)))).getD .zero).bits), .vs ((oA s).1.extract 0 64)] : Option (List AV)) = some [.sl 3 0 ((pvE (out ++ (zBI (xV left)).getD [])).length), .vi (nV (oR s)), .vi (nV (nS (oR s) (oA s).2).1), .vi (nV (nS (nS (oR s) (oA s).2).1 (nS (oR s) (oA s).2).2).1), .vi (((zBL (xV (s.extract (tAt1 s) (s.size - 16)))).getD .zero).kind), .vi (((zBL (xV (s.extract (tAt1 s) (s.size - 16)))).getD .zero).seed), .vi (((zBL (xV (s.extract (tAt1 s) (s.size - 16)))).getD .zero).probes), .vs (((zBL (xV (s.extract (tAt1 s) (s.size - 16)))).getD .zero).bits), .vs ((oA s).1.extract 0 64)] := by rw [hr10]
        refine nxt (Q := fun _ _ => False) (z := (left, out)) ((sS left false).1, out ++ (zBI (xV left)).getD []) ?_ ?_ ?_
        ·
         show (((sS left false).1).size ≤ s.size ∧ (out ++ (zBI (xV left)).getD []).length + ((sS left false).1).size ≤ s.size) ∧ pT (((sS left false).1).size + 1) ((sS left false).1) (out ++ (zBI (xV left)).getD []) = pT ((s.extract 0 (tAt0 s)).size + 1) (s.extract 0 (tAt0 s)) []
         exact ⟨⟨by have := sS_le left false; omega, by rw [List.length_append]; omega⟩, (zMY (by omega) (by omega)).trans ((zNz hne hbd hrd).symm.trans hE)⟩
        ·
         show ((sS left false).1).size < left.size
         exact sS_lt hbd
        · exact zAJ ⟨rfl, rfl, rfl, rfl, trivial⟩ ⟨rfl, hp11, trivial⟩ ⟨(congrArg (fun x => some (2, x)) (by exact congrArg pvTk (Prod.ext rfl hbd))), (congrArg (fun x => some (4, x)) hr10), trivial⟩ rfl
      ·
       have h8' := h8
       refine zAA rfl (.m rfl rfl (.r rfl (zAe rfl rfl) (.r rfl (zA1 rfl rfl underlying104 rfl sizeOf4 (by decide)) (.r rfl (zAI (zBb (.bool ((sS left false).2)) rfl rfl rfl rfl isAgg4 rfl) (zAE h8)) (.m rfl rfl (.not rfl (.not rfl (.r rfl (zAh rfl rfl) .nil)))))))) ?_
       refine zAT (t := true) rfl (fun _ => ?_) (fun h => nomatch h)
       refine zAB ?_
       have hz := zEz (zJA (hE.symm.trans (zHa hne (.inl h8'))))
       obtain ⟨rfl, rfl, rfl, rfl, rfl, rfl, rfl, rfl, rfl⟩ := zEb (ho.symm.trans hz.1)
       rw [hz.2]
       refine zAA rfl (.r rfl (zAt (pl := [(0, 1), (1, 3), (4, 4), (8, 1)]) rfl underlying72 zHC (by kernel_rfl) rfl rfl) (.r rfl (zAN rfl rfl rfl rfl rfl sizeOf72 rfl (nle rfl)) (.a rfl rfl .nil))) ?_
       refine zAK ?_
       exact ends [_, _] [] (.cons (.cell rfl rfl isAgg72 sizeOf72 (nle rfl)) (.cons (.tmp rfl) .nil)) (.cons (.agg (.cons (.nil _) (.cons .v (.cons .v (.cons .v (.cons .v (.cons .v (.cons .v (.cons .v (.cons .v .nil))))))))) (zAL (.sl _ _ (fun _ h => nomatch h)) (zAL (.v _) (zAL (.v _) (zAL (.v _) (zAL (.v _) (zAL (.v _) (zAL (.v _) (zAL (.v _) (zAL (.v _) zBR)))))))))) (.cons (.one .v (.v _)) .nil)) (by decide) trivial
     ·
      replace h7 : left = ⟨#[]⟩ := of_decide_eq_true (zAq h7)
      refine zAn ?_
      refine zAB (zAA rfl (.r rfl (zAC rfl rfl underlying72 rfl sizeOf24 (by decide)) (.r rfl (zAD rfl rfl rfl isAgg24 rfl) (.r rfl (zAC rfl rfl underlying72 rfl sizeOf26 (by decide)) (.r rfl (zAW rfl rfl rfl isAgg26 sizeOf26 (nle rfl)) (.run [3, 13300, 13301] [] rfl (zDa (.inr rfl) rfl 13300 (X := []) en10 rfl (.val nod) (.cons (.one (.bor (.all (len := (pvE out).length) (xs := pvE out) rfl rfl (by decide)))) (.cons (.agg (.cons (.bor .v) (.cons (.bor .v) (.cons (.bor .v) .nil)))) .nil)) (by decide) all_nil .nil (zJu ht out (nV (oR s)) (nV (nS (oR s) (oA s).2).1) (nV (nS (nS (oR s) (oA s).2).1 (nS (oR s) (oA s).2).2).1) (by omega)) rfl rfl (nle rfl)) (.m rfl rfl (.r rfl (zAH rfl rfl rfl) (.r rfl (zAH rfl rfl rfl) (.a rfl rfl (.a rfl rfl .nil)))))))))) ?_)
      refine zAB ?_
      refine zAQ (s' := mk [(0, .vs s), (2, .ptr 2 0), (9, .ptr 9 0), (14, .vs ((zBW out ⟨nV (oR s), nV (nS (oR s) (oA s).2).1, nV (nS (nS (oR s) (oA s).2).1 (nS (oR s) (oA s).2).2).1⟩).getD ⟨#[]⟩)), (15, .vb ((zBW out ⟨nV (oR s), nV (nS (oR s) (oA s).2).1, nV (nS (nS (oR s) (oA s).2).1 (nS (oR s) (oA s).2).2).1⟩).isSome))] [(2, [.nils, .vi 0, .vi 0, .vi 0, .vi 0, .vi 0, .vi 0, .vs ⟨#[]⟩, .vs ⟨#[]⟩]), (9, [.sl 3 0 ((pvE out).length), .vi (nV (oR s)), .vi (nV (nS (oR s) (oA s).2).1), .vi (nV (nS (nS (oR s) (oA s).2).1 (nS (oR s) (oA s).2).2).1), .vi (((zBL (xV (s.extract (tAt1 s) (s.size - 16)))).getD .zero).kind), .vi (((zBL (xV (s.extract (tAt1 s) (s.size - 16)))).getD .zero).seed), .vi (((zBL (xV (s.extract (tAt1 s) (s.size - 16)))).getD .zero).probes), .vs (((zBL (xV (s.extract (tAt1 s) (s.size - 16)))).getD .zero).bits), .vs ((oA s).1.extract 0 64)])] [(3, 4, pvE out)]) ?_ ?_
      · exact zAJ ⟨rfl, rfl, rfl, rfl, rfl, trivial⟩ ⟨rfl, rfl, trivial⟩ ⟨rfl, trivial⟩ rfl
      have hp : pT ((s.extract 0 (tAt0 s)).size + 1) (s.extract 0 (tAt0 s)) [] = some out := hE.symm.trans (by rw [show left = ⟨#[]⟩ from h7]; exact zKr)
      have hok : OOk s := ⟨by omega, by omega, by rw [oN]; omega, by omega⟩
      have hz := zLa hok hp
      obtain ⟨rfl, rfl, rfl, rfl, rfl, rfl, rfl, rfl, rfl⟩ := opn_inj (ho.symm.trans (open_v hz))
      rcases bfc ((zBW out ⟨nV (oR s), nV (nS (oR s) (oA s).2).1, nV (nS (nS (oR s) (oA s).2).1 (nS (oR s) (oA s).2).2).1⟩).isSome) with h12 | h12
      ·
       have h12' := h12
       refine zAA rfl (.r rfl (zAW rfl rfl rfl isAgg72 sizeOf72 (nle rfl)) (.r rfl (zAI (zBF rfl) (zAE h12)) (.m rfl rfl (.not rfl (.not rfl (.not rfl (.r rfl (zAg rfl rfl) (.r rfl (zAN rfl rfl rfl rfl rfl sizeOf72 rfl (nle rfl)) (.a rfl rfl .nil))))))))) ?_
       refine zAK ?_
       exact ends [_, _] [3] (.cons (.cell rfl rfl isAgg72 sizeOf72 (nle rfl)) (.cons (.tmp (zAE (zN3 hz h12').symm)) .nil)) (.cons (.agg (.cons (.row (len := (pvE out).length) (xs := pvE out) rfl rfl) (.cons .v (.cons .v (.cons .v (.cons .v (.cons .v (.cons .v (.cons .v (.cons .v .nil))))))))) (zAL (.sl _ _ (FlatP.clean (zFI _))) (zAL (.v _) (zAL (.v _) (zAL (.v _) (zAL (.v _) (zAL (.v _) (zAL (.v _) (zAL (.v _) (zAL (.v _) zBR)))))))))) (.cons (.one .v (.v _)) .nil)) (by decide) trivial
      ·
       have h12' := h12
       refine zAA rfl (.r rfl (zAW rfl rfl rfl isAgg72 sizeOf72 (nle rfl)) (.r rfl (zAI (zBF rfl) (zAE h12)) (.m rfl rfl (.m rfl rfl (.m rfl rfl (.r rfl (zD2 rfl rfl rfl) (.r rfl (zAh rfl rfl) (.r rfl (zAN rfl rfl rfl rfl rfl sizeOf72 rfl (nle rfl)) (.a rfl rfl .nil))))))))) ?_
       refine zAK ?_
       exact ends [_, _] [3] (.cons (.cell rfl rfl isAgg72 sizeOf72 (nle rfl)) (.cons (.tmp (zAE (zMd hz h12').symm)) .nil)) (.cons (.agg (.cons (.row (len := (pvE out).length) (xs := pvE out) rfl rfl) (.cons .v (.cons .v (.cons .v (.cons .v (.cons .v (.cons .v (.cons .v (.cons .v .nil))))))))) (zAL (.sl _ _ (FlatP.clean (zFI _))) (zAL (.v _) (zAL (.v _) (zAL (.v _) (zAL (.v _) (zAL (.v _) (zAL (.v _) (zAL (.v _) (zAL (.v _) zBR)))))))))) (.cons (.one .v (.v _)) .nil)) (by decide) trivial
 ·
  have h1' := h1
  replace h1' := of_decide_eq_true h1'
  refine zAA rfl (.m rfl rfl (.r rfl (zAI (zAz rfl rfl rfl) (zAE h1)) (.m rfl rfl (.not rfl (.not rfl (.not rfl (.r rfl (zAh rfl rfl) .nil))))))) ?_
  refine zAT (t := true) rfl (fun _ => ?_) (fun h => nomatch h)
  refine zAB ?_
  refine zAQ (s' := mk [(2, .ptr 2 0)] [(2, [.nils, .vi 0, .vi 0, .vi 0, .vi 0, .vi 0, .vi 0, .vs ⟨#[]⟩, .vs ⟨#[]⟩])] []) ?_ ?_
  · exact zAJ ⟨rfl, trivial⟩ ⟨rfl, trivial⟩ trivial rfl
  have hz := zEz (zF8 (s := s) (fun q => by have q1 := q.big; have q2 := q.small; omega))
  obtain ⟨rfl, rfl, rfl, rfl, rfl, rfl, rfl, rfl, rfl⟩ := zEb (ho.symm.trans hz.1)
  rw [hz.2]
  refine zAA rfl (.r rfl (zAt (pl := [(0, 1), (1, 3), (4, 4), (8, 1)]) rfl underlying72 zHC (by kernel_rfl) rfl rfl) (.r rfl (zAN rfl rfl rfl rfl rfl sizeOf72 rfl (nle rfl)) (.a rfl rfl .nil))) ?_
  refine zAK ?_
  exact ends [_, _] [] (.cons (.cell rfl rfl isAgg72 sizeOf72 (nle rfl)) (.cons (.tmp rfl) .nil)) (.cons (.agg (.cons (.nil _) (.cons .v (.cons .v (.cons .v (.cons .v (.cons .v (.cons .v (.cons .v (.cons .v .nil))))))))) (zAL (.sl _ _ (fun _ h => nomatch h)) (zAL (.v _) (zAL (.v _) (zAL (.v _) (zAL (.v _) (zAL (.v _) (zAL (.v _) (zAL (.v _) (zAL (.v _) zBR)))))))))) (.cons (.one .v (.v _)) .nil)) (by decide) trivial
end Go.Rl
namespace Go.Rl
def bytA (s : ByteArray) (p : Nat) : Nat := (s[p / 8]?.getD 0).toNat / 2 ^ (p % 8)
def zEy (s u : ByteArray) : Nat → Bool
 | 0 => true
 | k + 1 => zEy s u k && decide (bytA s (plB u k (8 * s.size)) % 2 = 1)
theorem zII {s u : ByteArray} {k : Nat} (h : bytA s (plB u k (8 * s.size)) % 2 = 0) : ∀ {n}, k < n → zEy s u n = false
 | n + 1, hn => by
  rw [zEy]
  rcases Nat.lt_or_ge k n with q | q
  · rw [zII h q]; rfl
  ·
   obtain rfl : n = k := by omega
   rw [h]; simp
theorem zHZ {s u : ByteArray} {k : Nat} (hp : zEy s u k = true) (h : ¬ bytA s (plB u k (8 * s.size)) % 2 = 0) : zEy s u (k + 1) = true := by
 rw [zEy, hp, Bool.true_and]
 exact decide_eq_true (by omega)
def zBy (f : Flt) (u : ByteArray) : Bool := !decide (f.kind = 1) || (!zAY f || zEy f.bits u f.probes.toNat)
theorem zHo {f : Flt} {u : ByteArray} (h : ¬ f.kind = 1) : zBy f u = true := by rw [zBy, decide_eq_false h, Bool.not_false, Bool.true_or]
theorem zHn {f : Flt} {u : ByteArray} (h : zAY f = false) : zBy f u = true := by rw [zBy, h]; simp
theorem zFk {f : Flt} {u : ByteArray} (h : f.kind = 1) (h1 : zAY f = true) : zBy f u = zEy f.bits u f.probes.toNat := by rw [zBy, h1, decide_eq_true h, Bool.not_true, Bool.false_or, Bool.false_or]
theorem zJN {f : Flt} (h : f.kind = 1) (h1 : zAY f = true) : 1 ≤ f.probes ∧ f.probes ≤ 30 ∧ 1 ≤ f.bits.size ∧ f.bits.size ≤ 1000 := by
 rw [zIS h] at h1
 simp only [zAi, Bool.and_eq_true, decide_eq_true_eq] at h1
 omega
theorem zHl {f : Flt} (h : f.kind = 2) (h1 : zAY f = true) : 0 ≤ f.seed ∧ f.seed ≤ 3 ∧ 20 ≤ f.bits.size ∧ f.bits.size ≤ 600 ∧ (∀ b ∈ zAw f.bits, b < 128) := by
 rw [zFh h] at h1
 simp only [zAi, Bool.and_eq_true, decide_eq_true_eq] at h1
 have := zEj.1 h1.2.2.2
 exact ⟨by omega, by omega, by omega, by omega, fun b hb => by have := this b hb; omega⟩
def ribS (f : Flt) (u : ByteArray) (j : Nat) : Nat := solT (zAw f.bits) (atN (zAj f.seed.toNat u) f.bits.size) (rowN (zAj f.seed.toNat u)) j
def ribV (f : Flt) (u : ByteArray) : Bool := decide (ribS f u 16 = sumN (zAj f.seed.toNat u))
def zCZ (f : Flt) (u : ByteArray) : Bool := !decide (f.kind = 2) || (!zAY f || ribV f u)
theorem zGY {f : Flt} {u : ByteArray} (h : ¬ f.kind = 2) : zCZ f u = true := by rw [zCZ, decide_eq_false h, Bool.not_false, Bool.true_or]
theorem zGX {f : Flt} {u : ByteArray} (h : zAY f = false) : zCZ f u = true := by rw [zCZ, h]; simp
theorem zGW {f : Flt} {u : ByteArray} (h : f.kind = 2) (h1 : zAY f = true) : zCZ f u = ribV f u := by rw [zCZ, h1, decide_eq_true h, Bool.not_true, Bool.false_or, Bool.false_or]
def mayF (f : Flt) (u : ByteArray) : Bool := zBy f u && zCZ f u
theorem zLk {s : ByteArray} {i : Nat} {b : UInt8} (h : s[i]? = some b) : (zAw s)[i]? = some b.toNat := by
 rw [zAw, List.getElem?_map, zEQ h]; rfl
theorem at_in (h m : Nat) (hm : 20 ≤ m) : atN h m + 15 < m := by
 have := Nat.mod_lt (h / 2 ^ 32) (show 0 < m - 15 by omega)
 rw [atN]; omega
theorem zNg (h m : Nat) (hm : 20 ≤ m) : rowN h < 2 ^ (m - atN h m) := (zF7 h m hm).gap
theorem xor_zero {a b : Nat} : a ^^^ b = 0 ↔ b = a := by
 constructor
 ·
  intro h
  have : a ^^^ (a ^^^ b) = a ^^^ 0 := by rw [h]
  rw [← Nat.xor_assoc, Nat.xor_self, Nat.zero_xor, Nat.xor_zero] at this
  exact this
 · rintro rfl; exact Nat.xor_self _
theorem zNl {f : Flt} {u : ByteArray} : decide (((sumN (zAj f.seed.toNat u) ^^^ ribS f u 16 : Nat) : Int) = 0) = ribV f u := by
 rw [ribV]
 exact decide_eq_decide.2 ⟨fun h => xor_zero.1 (by omega), fun h => by rw [h, Nat.xor_self]; rfl⟩
noncomputable def tmF (s u : ByteArray) : Bool := !(zCz s).isSome || mayF (oF s) u
theorem tm_no {s u : ByteArray} (h : (zCz s).isSome = false) : tmF s u = true := by rw [tmF, h, Bool.not_false, Bool.true_or]
theorem zOh {s u : ByteArray} (h : (zCz s).isSome = true) : tmF s u = mayF (oF s) u := by rw [tmF, h, Bool.not_true, Bool.false_or]
end Go.Rl
namespace Go.Rl
open Go.Proofs Go.Proofs.Tryz
set_option maxRecDepth 1000000
set_option maxHeartbeats 2000000
theorem en126 : En Tryz.prog 126 := zAl func126 (by decide) rfl
theorem en86 : En Tryz.prog 86 := zAl func86 (by decide) rfl
theorem en87 : En Tryz.prog 87 := zAl func87 (by decide) rfl
theorem en92 : En Tryz.prog 92 := zAl func92 (by decide) rfl
theorem en93 : En Tryz.prog 93 := zAl func93 (by decide) rfl
theorem rib_y {a : Nat} (h : ((a % 2 : Nat) : Int) = 1) : a % 2 = 1 := by omega
theorem rib_n {a : Nat} (h : ¬ ((a % 2 : Nat) : Int) = 1) : ¬ a % 2 = 1 := by omega
theorem zNi {B : List Nat} {p r j b s : Nat} (hB : ∀ b ∈ B, b < 128) (hs : s < 128) (h : (r / 2 ^ j) % 2 = 1) (hb : B[p + j]? = some b) : ((s ^^^ solT B p r j) ^^^ b) % 18446744073709551616 = s ^^^ solT B p r (j + 1) := by
 have h1 : s ^^^ solT B p r j < 2 ^ 7 := Nat.xor_lt_two_pow (n := 7) hs (zEG hB _ _ _)
 have h2 : (s ^^^ solT B p r j) ^^^ b < 2 ^ 7 := Nat.xor_lt_two_pow (n := 7) h1 (hB _ (List.mem_of_getElem? hb))
 rw [zJz h hb, ← Nat.xor_assoc]
 omega
theorem zNk {f : Flt} {u : ByteArray} {h : Nat} (c : zAj f.seed.toNat u = h) : decide (((sumN h ^^^ solT (zAw f.bits) (atN h f.bits.size) (rowN h) 16 : Nat) : Int) = 0) = ribV f u := by subst c; exact zNl
theorem zNj {f : Flt} {u : ByteArray} : decide (((solT (zAw f.bits) (atN (zAj f.seed.toNat u) f.bits.size) (rowN (zAj f.seed.toNat u)) 16 : Nat) : Int) = ((sumN (zAj f.seed.toNat u) : Nat) : Int)) = ribV f u := decide_eq_decide.2 ⟨fun h => Int.ofNat.inj h, fun h => congrArg Nat.cast h⟩
theorem zId (f : Flt) (u : ByteArray) (hk : f.kind = 1) (hok : zAY f = true) (hu : u.size ≤ 9000000000000000000) : Con Tryz.prog 126 [.agg [PV.v (.int .i64 f.kind), PV.v (.int .i64 f.seed), PV.v (.int .i64 f.probes), PV.v (.string f.bits)], .one (PV.v (.string u))] [] [.one (.v (.bool (zEy f.bits u f.probes.toNat)))] := by
 refine zAR func126 rfl rfl rfl rfl ?_
 have hplv := zBj (zBG u (8 * f.bits.size) f.probes.toNat)
 have hpll := zCX u (8 * f.bits.size) f.probes.toNat
 refine zAB (zAA rfl (.run [] [2] rfl (zCF rfl 2 rfl rfl (by decide) rfl (by decide)) (.a rfl rfl .nil)) ?_)
 refine zAB ?_
 refine zAB ?_
 have hfb := zJN hk hok
 refine zAA rfl (.m rfl rfl (.r rfl (zAC rfl rfl underlying64 rfl sizeOf2 (by decide)) (.r rfl (zAI (zAD rfl rfl rfl isAgg2 rfl) ((zAG (show f.probes = ((f.probes.toNat : Nat) : Int) by omega)))) (.r rfl (zAC rfl rfl underlying64 rfl sizeOf9 (by decide)) (.r rfl (zAD rfl rfl rfl isAgg9 rfl) (.r rfl (zAO rfl rfl underlying9) (.run [1300] [] rfl (zAF rfl 1300 (X := []) en132 rfl (.val nod) (.cons (.one (.bor .v)) (.cons (.one (.bor .v)) (.cons (.one (.bor .v)) .nil))) (by decide) all_nil .nil (zHY u f.probes.toNat f.bits.size (by omega) (by omega) hu) rfl rfl (nle rfl)) (.r rfl (zB9 rfl rfl underlying124) (.m rfl rfl .nil))))))))) ?_
 refine zAS ?_
 refine zAo (σ := Nat) (fun k => mk [(2, .ptr 2 0), (13, .sl 1300 0 ((pvQ (zBG u (8 * f.bits.size) f.probes.toNat)).length)), (14, .vi ((pvQ (zBG u (8 * f.bits.size) f.probes.toNat)).length : Int)), (15, .vi (k:Int))] [(2, [.vi f.kind, .vi f.seed, .vi f.probes, .vs f.bits])] [(1300, 1, pvQ (zBG u (8 * f.bits.size) f.probes.toNat))]) (fun k => k ≤ f.probes.toNat ∧ zEy f.bits u k = true) (fun k => f.probes.toNat - k) 0 ⟨Nat.zero_le _, rfl⟩ (zAJ ⟨rfl, rfl, rfl, (zAG (by omega)), trivial⟩ ⟨rfl, trivial⟩ ⟨rfl, trivial⟩ rfl) ?_
 rintro k hG
 replace hG : k ≤ f.probes.toNat ∧ zEy f.bits u k = true := hG
 obtain ⟨hk0, hps⟩ := hG
 have hplv := zBj (zBG u (8 * f.bits.size) f.probes.toNat)
 have hpll := zCX u (8 * f.bits.size) f.probes.toNat
 refine zAB (zAA rfl (.r rfl (zAz rfl rfl rfl) .nil) ?_)
 refine zAB ?_
 refine zAT (t := decide ((k:Int) < ((pvQ (zBG u (8 * f.bits.size) f.probes.toNat)).length : Int))) rfl (fun h1 => ?_) (fun h1 => ?_)
 ·
  replace h1 := of_decide_eq_true h1
  refine zAM ?_
  refine zAB ?_
  refine zAS ?_
  refine zAB (zAA rfl (.r rfl (zA0 k rfl rfl rfl rfl underlying124 sizeOf58 rfl rfl (by omega)) (.r rfl (zBb (.int .u64 ((plB u k (8 * f.bits.size) : Nat) : Int)) rfl rfl rfl (zD6 (zGj (by omega))) isAgg58 rfl) (.a rfl rfl .nil))) ?_)
  refine zAB ?_
  obtain ⟨pl, c1⟩ : ∃ x, Is (plB u k (8 * f.bits.size)) x := ⟨_, ⟨rfl⟩⟩
  have hpl : pl < 8 * f.bits.size := by rw [← c1.h]; exact zKm (by omega)
  have hby := (f.bits[pl / 8]?.getD 0).toNat_lt
  refine zAQ (s' := mk [(2, .ptr 2 0), (6, .p none (.v (.int .u64 ((pl : Nat) : Int)))), (13, .sl 1300 0 ((pvQ (zBG u (8 * f.bits.size) f.probes.toNat)).length)), (14, .vi ((pvQ (zBG u (8 * f.bits.size) f.probes.toNat)).length : Int)), (15, .vi (k:Int))] [(2, [.vi f.kind, .vi f.seed, .vi f.probes, .vs f.bits])] [(1300, 1, pvQ (zBG u (8 * f.bits.size) f.probes.toNat))]) ?_ ?_
  · exact zAJ ⟨rfl, (zAG (congrArg Nat.cast c1.h)), rfl, rfl, rfl, trivial⟩ ⟨rfl, trivial⟩ ⟨rfl, trivial⟩ rfl
  refine zAA rfl (.r rfl (zAC rfl rfl underlying64 rfl sizeOf9 (by decide)) (.r rfl (zAD rfl rfl rfl isAgg9 rfl) (.m rfl rfl (.r rfl (zAI (zDP (k := .u64) 18446744073709551616 rfl pl 8 rfl rfl rfl rfl (by omega)) ((zAG (show (((pl / 8) % 18446744073709551616 : Nat) : Int) = ((pl / 8 : Nat) : Int) by omega)))) (.r rfl (zBY rfl rfl rfl underlying9 (by omega) (zCD (by omega))) (.m rfl rfl (.r rfl (zB1 pl 8 rfl rfl rfl (by omega)) (.r rfl (zAI (zBZ ((f.bits[pl / 8]?.getD 0).toNat) (pl % 8) rfl rfl rfl (show _ ≤ 8 by omega)) ((zAG (show _ = ((bytA f.bits pl : Nat) : Int) from rfl)))) (.r rfl (zAI (zFa (k := .u8) 256 rfl (bytA f.bits pl) 1 rfl rfl rfl rfl) ((zAG (show (((bytA f.bits pl &&& 1) % 256 : Nat) : Int) = ((bytA f.bits pl % 2 : Nat) : Int) by rw [Nat.and_one_is_mod]; omega)))) (.r rfl (zA9 rfl rfl rfl) .nil)))))))))) ?_
  refine zAT (t := decide (((bytA f.bits pl % 2 : Nat) : Int) = 0)) rfl (fun h2 => ?_) (fun h2 => ?_)
  ·
   replace h2 := of_decide_eq_true h2
   refine zAB (zAA rfl (.a rfl rfl .nil) ?_)
   refine zAK ?_
   exact ends [_] [] (.cons (.tmp (zAE (zII (k := k) (by rw [c1.h]; omega) (by omega)).symm)) .nil) (.cons (.one .v (.v _)) .nil) (by decide) trivial
  ·
   replace h2 := of_decide_eq_false h2
   refine zAM ?_
   refine zAA rfl (.r rfl (zAd rfl rfl rfl (by omega)) (.m rfl rfl .nil)) ?_
   refine nxt (Q := fun _ _ => False) (z := k) (k + 1) ?_ ?_ ?_
   ·
    show (k + 1) ≤ f.probes.toNat ∧ zEy f.bits u (k + 1) = true
    exact ⟨by omega, zHZ hps (by rw [c1.h]; omega)⟩
   ·
    show f.probes.toNat - (k + 1) < f.probes.toNat - k
    omega
   · exact zAJ ⟨rfl, rfl, rfl, (zAG (by omega)), trivial⟩ ⟨rfl, trivial⟩ ⟨rfl, trivial⟩ rfl
 ·
  replace h1 := of_decide_eq_false h1
  refine zAn ?_
  refine zAB (zAA rfl (.a rfl rfl .nil) ?_)
  refine zAK ?_
  exact ends [_] [] (.cons (.tmp (zAE (by rw [← hps, show f.probes.toNat = k by omega]))) .nil) (.cons (.one .v (.v _)) .nil) (by decide) trivial
theorem zFx (f : Flt) (u : ByteArray) (hf : f.bits.size ≤ 9000000000000000000) (hu : u.size ≤ 9000000000000000000) : Con Tryz.prog 86 [.agg [PV.v (.int .i64 f.kind), PV.v (.int .i64 f.seed), PV.v (.int .i64 f.probes), PV.v (.string f.bits)], .one (PV.v (.string u))] [] [.one (.v (.bool (zBy f u)))] := by
 refine zAR func86 rfl rfl rfl rfl ?_
 refine zAB (zAA rfl (.run [] [2] rfl (zCF rfl 2 rfl rfl (by decide) rfl (by decide)) (.a rfl rfl .nil)) ?_)
 refine zAB ?_
 rcases bfc (!(decide (f.kind = 1))) with h1 | h1
 ·
  have h1' := h1
  replace h1' : f.kind = 1 := of_decide_eq_true (zAq h1')
  rcases bfc (!(zAY f)) with h2 | h2
  ·
   have h2' := h2
   replace h2' : (zAY f) = true := zAq h2'
   refine zAA rfl (.r rfl (zAC rfl rfl underlying64 rfl sizeOf2 (by decide)) (.r rfl (zAD rfl rfl rfl isAgg2 rfl) (.r rfl (zAI (zB8 rfl rfl rfl) (zAE h1)) (.m rfl rfl (.r rfl (zAW rfl rfl rfl isAgg64 sizeOf64 (nle rfl)) (.run [1000] [] rfl (zAF rfl 1000 (X := []) zM6 rfl (.val nod) (.cons (.agg (.cons (.bor .v) (.cons (.bor .v) (.cons (.bor .v) (.cons (.bor .v) .nil))))) .nil) (by decide) all_nil .nil (zDA f (by omega)) rfl rfl (nle rfl)) (.r rfl (zAI (zAa (b := zAY f) rfl rfl) (zAE h2)) (.r rfl (zAg rfl rfl) (.m rfl rfl (.r rfl (zAW rfl rfl rfl isAgg64 sizeOf64 (nle rfl)) (.m rfl rfl (.run [1600] [] rfl (zAF rfl 1600 (X := []) en126 rfl (.val nod) (.cons (.agg (.cons (.bor .v) (.cons (.bor .v) (.cons (.bor .v) (.cons (.bor .v) .nil))))) (.cons (.one (.bor .v)) .nil)) (by decide) all_nil .nil (zId f u (by omega) (show zAY f = true from h2') (by omega)) rfl rfl (nle rfl)) (.r rfl (zAg rfl rfl) (.a rfl rfl .nil)))))))))))))) ?_
   refine zAK ?_
   exact ends [_] [] (.cons (.tmp (zAE (zFk (by omega) (show zAY f = true from h2')).symm)) .nil) (.cons (.one .v (.v _)) .nil) (by decide) trivial
  ·
   have h2' := h2
   replace h2' : (zAY f) = false := zAp h2'
   refine zAA rfl (.r rfl (zAC rfl rfl underlying64 rfl sizeOf2 (by decide)) (.r rfl (zAD rfl rfl rfl isAgg2 rfl) (.r rfl (zAI (zB8 rfl rfl rfl) (zAE h1)) (.m rfl rfl (.r rfl (zAW rfl rfl rfl isAgg64 sizeOf64 (nle rfl)) (.run [1000] [] rfl (zAF rfl 1000 (X := []) zM6 rfl (.val nod) (.cons (.agg (.cons (.bor .v) (.cons (.bor .v) (.cons (.bor .v) (.cons (.bor .v) .nil))))) .nil) (by decide) all_nil .nil (zDA f (by omega)) rfl rfl (nle rfl)) (.r rfl (zAI (zAa (b := zAY f) rfl rfl) (zAE h2)) (.r rfl (zAg rfl rfl) (.m rfl rfl (.not rfl (.not rfl (.not rfl (.r rfl (zAh rfl rfl) (.a rfl rfl .nil)))))))))))))) ?_
   refine zAK ?_
   exact ends [_] [] (.cons (.tmp (zAE (zHn (show zAY f = false from h2')).symm)) .nil) (.cons (.one .v (.v _)) .nil) (by decide) trivial
 ·
  have h1' := h1
  replace h1' : ¬ (f.kind = 1) := of_decide_eq_false (zAp h1')
  refine zAA rfl (.r rfl (zAC rfl rfl underlying64 rfl sizeOf2 (by decide)) (.r rfl (zAD rfl rfl rfl isAgg2 rfl) (.r rfl (zAI (zB8 rfl rfl rfl) (zAE h1)) (.m rfl rfl (.not rfl (.not rfl (.not rfl (.r rfl (zAh rfl rfl) (.m rfl rfl (.not rfl (.not rfl (.not rfl (.r rfl (zAh rfl rfl) (.a rfl rfl .nil)))))))))))))) ?_
  refine zAK ?_
  exact ends [_] [] (.cons (.tmp (zAE (zHo (by omega)).symm)) .nil) (.cons (.one .v (.v _)) .nil) (by decide) trivial
theorem zFB (f : Flt) (u : ByteArray) (hf : f.bits.size ≤ 9000000000000000000) (hu : u.size ≤ 9000000000000000000) : Con Tryz.prog 92 [.agg [PV.v (.int .i64 f.kind), PV.v (.int .i64 f.seed), PV.v (.int .i64 f.probes), PV.v (.string f.bits)], .one (PV.v (.string u))] [] [.one (.v (.bool (zBy f u)))] := by
 refine zAR func92 rfl rfl rfl rfl ?_
 refine zAB (zAA rfl (.run [] [2] rfl (zCF rfl 2 rfl rfl (by decide) rfl (by decide)) (.a rfl rfl .nil)) ?_)
 refine zAB ?_
 refine zAB ?_
 rcases bfc (!(decide (f.kind = 1))) with h1 | h1
 ·
  have h1' := h1
  replace h1' : f.kind = 1 := of_decide_eq_true (zAq h1')
  refine zAA rfl (.r rfl (zAC rfl rfl underlying64 rfl sizeOf2 (by decide)) (.r rfl (zAD rfl rfl rfl isAgg2 rfl) (.r rfl (zAI (zB8 rfl rfl rfl) (zAE h1)) (.m rfl rfl (.r rfl (zAW rfl rfl rfl isAgg64 sizeOf64 (nle rfl)) (.run [1200] [] rfl (zAF rfl 1200 (X := []) en79 rfl (.val nod) (.cons (.agg (.cons (.bor .v) (.cons (.bor .v) (.cons (.bor .v) (.cons (.bor .v) .nil))))) .nil) (by decide) all_nil .nil (zDI f (by omega)) rfl rfl (nle rfl)) (.r rfl (zAa (b := zAY f) rfl rfl) (.r rfl (zAg rfl rfl) .nil)))))))) ?_
  refine zAT (t := (!(zAY f))) rfl (fun h2 => ?_) (fun h2 => ?_)
  ·
   replace h2 : (zAY f) = false := zAp h2
   refine zAB (zAA rfl (.a rfl rfl .nil) ?_)
   refine zAK ?_
   exact ends [_] [] (.cons (.tmp (zAE (zHn (show zAY f = false from h2)).symm)) .nil) (.cons (.one .v (.v _)) .nil) (by decide) trivial
  ·
   replace h2 : (zAY f) = true := zAq h2
   refine zAM ?_
   refine zAB ?_
   refine zAB ?_
   refine zAQ (s' := mk [(1, .vs u), (2, .ptr 2 0)] [(2, [.vi f.kind, .vi f.seed, .vi f.probes, .vs f.bits])] []) ?_ ?_
   · exact zAJ ⟨rfl, rfl, trivial⟩ ⟨rfl, trivial⟩ trivial rfl
   have hfb := zJN (f := f) (by omega) (show zAY f = true from h2)
   refine zAA rfl (.a rfl rfl .nil) ?_
   refine zAS ?_
   refine zAo (σ := Nat) (fun k => mk [(1, .vs u), (2, .ptr 2 0), (5, .vi (k:Int))] [(2, [.vi f.kind, .vi f.seed, .vi f.probes, .vs f.bits])] []) (fun k => k ≤ f.probes.toNat ∧ zEy f.bits u k = true) (fun k => f.probes.toNat - k) 0 ⟨Nat.zero_le _, rfl⟩ (zAJ ⟨rfl, rfl, (zAG (by omega)), trivial⟩ ⟨rfl, trivial⟩ trivial rfl) ?_
   rintro k hG
   replace hG : k ≤ f.probes.toNat ∧ zEy f.bits u k = true := hG
   obtain ⟨hk0, hps⟩ := hG
   refine zAB ?_
   refine zAB (zAA rfl (.m rfl rfl (.r rfl (zAC rfl rfl underlying64 rfl sizeOf2 (by decide)) (.r rfl (zAI (zAD rfl rfl rfl isAgg2 rfl) ((zAG (show f.probes = ((f.probes.toNat : Nat) : Int) by omega)))) (.r rfl (zAz rfl rfl rfl) .nil)))) ?_)
   refine zAT (t := decide ((k:Int) < ((f.probes.toNat : Nat) : Int))) rfl (fun h3 => ?_) (fun h3 => ?_)
   ·
    replace h3 := of_decide_eq_true h3
    refine zAM ?_
    refine zAB ?_
    refine zAS ?_
    refine zAB (zAA rfl (.m rfl rfl (.m rfl rfl (.r rfl (zAC rfl rfl underlying64 rfl sizeOf9 (by decide)) (.r rfl (zAD rfl rfl rfl isAgg9 rfl) (.r rfl (zAO rfl rfl underlying9) (.r rfl (zAI (zCw rfl rfl rfl (by omega)) ((zAG (show (8 : Int) * (f.bits.size : Int) = ((8 * f.bits.size : Nat) : Int) by omega)))) (.r rfl (zAI (zAc (k' := .u64) 18446744073709551616 rfl (8 * f.bits.size) rfl rfl rfl underlying3 underlying58) ((zAG (show (((8 * f.bits.size) % 18446744073709551616 : Nat) : Int) = ((8 * f.bits.size : Nat) : Int) by omega)))) (.run [2800] [] rfl (zAF rfl 2800 (X := []) en115 rfl (.val nod) (.cons (.one (.bor .v)) (.cons (.one (.bor .v)) (.cons (.one (.bor .v)) .nil))) (by decide) all_nil .nil (zHO u k (8 * f.bits.size) (by omega) (by omega) hu) rfl rfl (nle rfl)) (.a rfl rfl .nil))))))))) ?_)
    refine zAB ?_
    refine zAQ (s' := mk [(1, .vs u), (2, .ptr 2 0), (5, .vi (k:Int)), (6, .p none (.v (.int .u64 ((plB u k (8 * f.bits.size) : Nat) : Int))))] [(2, [.vi f.kind, .vi f.seed, .vi f.probes, .vs f.bits])] []) ?_ ?_
    · exact zAJ ⟨rfl, rfl, rfl, rfl, trivial⟩ ⟨rfl, trivial⟩ trivial rfl
    obtain ⟨pl, c1⟩ : ∃ x, Is (plB u k (8 * f.bits.size)) x := ⟨_, ⟨rfl⟩⟩
    have hpl : pl < 8 * f.bits.size := by rw [← c1.h]; exact zKm (by omega)
    have hby := (f.bits[pl / 8]?.getD 0).toNat_lt
    refine zAQ (s' := mk [(1, .vs u), (2, .ptr 2 0), (5, .vi (k:Int)), (6, .p none (.v (.int .u64 ((pl : Nat) : Int))))] [(2, [.vi f.kind, .vi f.seed, .vi f.probes, .vs f.bits])] []) ?_ ?_
    · exact zAJ ⟨rfl, rfl, rfl, (zAG (congrArg Nat.cast c1.h)), trivial⟩ ⟨rfl, trivial⟩ trivial rfl
    refine zAA rfl (.r rfl (zAC rfl rfl underlying64 rfl sizeOf9 (by decide)) (.r rfl (zAD rfl rfl rfl isAgg9 rfl) (.m rfl rfl (.r rfl (zAI (zDP (k := .u64) 18446744073709551616 rfl pl 8 rfl rfl rfl rfl (by omega)) ((zAG (show (((pl / 8) % 18446744073709551616 : Nat) : Int) = ((pl / 8 : Nat) : Int) by omega)))) (.r rfl (zBY rfl rfl rfl underlying9 (by omega) (zCD (by omega))) (.m rfl rfl (.r rfl (zB1 pl 8 rfl rfl rfl (by omega)) (.r rfl (zAI (zBZ ((f.bits[pl / 8]?.getD 0).toNat) (pl % 8) rfl rfl rfl (show _ ≤ 8 by omega)) ((zAG (show _ = ((bytA f.bits pl : Nat) : Int) from rfl)))) (.r rfl (zB1 (bytA f.bits pl) 2 rfl rfl rfl (by omega)) (.r rfl (zA9 rfl rfl rfl) .nil)))))))))) ?_
    refine zAT (t := decide ((((bytA f.bits pl) % 2 : Nat) : Int) = 0)) rfl (fun h4 => ?_) (fun h4 => ?_)
    ·
     replace h4 := of_decide_eq_true h4
     refine zAB (zAA rfl (.a rfl rfl .nil) ?_)
     refine zAK ?_
     exact ends [_] [] (.cons (.tmp (zAE ((zFk (by omega) (show zAY f = true from h2)).trans (zII (k := k) (by rw [c1.h]; omega) (by omega))).symm)) .nil) (.cons (.one .v (.v _)) .nil) (by decide) trivial
    ·
     replace h4 := of_decide_eq_false h4
     refine zAM ?_
     refine zAA rfl (.m rfl rfl (.r rfl (zAd rfl rfl rfl (by omega)) (.a rfl rfl .nil))) ?_
     refine nxt (Q := fun _ _ => False) (z := k) (k + 1) ?_ ?_ ?_
     ·
      show (k + 1) ≤ f.probes.toNat ∧ zEy f.bits u (k + 1) = true
      exact ⟨by omega, zHZ hps (by rw [c1.h]; omega)⟩
     ·
      show f.probes.toNat - (k + 1) < f.probes.toNat - k
      omega
     · exact zAJ ⟨rfl, rfl, (zAG (by omega)), trivial⟩ ⟨rfl, trivial⟩ trivial rfl
   ·
    replace h3 := of_decide_eq_false h3
    refine zAn ?_
    refine zAB (zAA rfl (.a rfl rfl .nil) ?_)
    refine zAK ?_
    exact ends [_] [] (.cons (.tmp (zAE (((zFk (by omega) (show zAY f = true from h2)).trans (by rw [← hps, show f.probes.toNat = k by omega])).symm))) .nil) (.cons (.one .v (.v _)) .nil) (by decide) trivial
 ·
  have h1' := h1
  replace h1' : ¬ (f.kind = 1) := of_decide_eq_false (zAp h1')
  refine zAA rfl (.r rfl (zAC rfl rfl underlying64 rfl sizeOf2 (by decide)) (.r rfl (zAD rfl rfl rfl isAgg2 rfl) (.r rfl (zAI (zB8 rfl rfl rfl) (zAE h1)) (.m rfl rfl (.not rfl (.not rfl (.not rfl (.r rfl (zAh rfl rfl) .nil)))))))) ?_
  refine zAT (t := true) rfl (fun _ => ?_) (fun h => nomatch h)
  refine zAB (zAA rfl (.a rfl rfl .nil) ?_)
  refine zAK ?_
  exact ends [_] [] (.cons (.tmp (zAE (zHo (by omega)).symm)) .nil) (.cons (.one .v (.v _)) .nil) (by decide) trivial
theorem zH7 (f : Flt) (u : ByteArray) (hf : f.bits.size ≤ 9000000000000000000) (hu : u.size ≤ 9000000000000000000) : Con Tryz.prog 87 [.agg [PV.v (.int .i64 f.kind), PV.v (.int .i64 f.seed), PV.v (.int .i64 f.probes), PV.v (.string f.bits)], .one (PV.v (.string u))] [] [.one (.v (.bool (zCZ f u)))] := by
 refine zAR func87 rfl rfl rfl rfl ?_
 refine zAB (zAA rfl (.run [] [2] rfl (zCF rfl 2 rfl rfl (by decide) rfl (by decide)) (.a rfl rfl .nil)) ?_)
 refine zAB ?_
 refine zAB ?_
 rcases bfc (!(decide (f.kind = 2))) with h1 | h1
 ·
  have h1' := h1
  replace h1' : f.kind = 2 := of_decide_eq_true (zAq h1')
  refine zAA rfl (.r rfl (zAC rfl rfl underlying64 rfl sizeOf2 (by decide)) (.r rfl (zAD rfl rfl rfl isAgg2 rfl) (.r rfl (zAI (zB8 rfl rfl rfl) (zAE h1)) (.m rfl rfl (.r rfl (zAW rfl rfl rfl isAgg64 sizeOf64 (nle rfl)) (.run [1100] [] rfl (zAF rfl 1100 (X := []) zM6 rfl (.val nod) (.cons (.agg (.cons (.bor .v) (.cons (.bor .v) (.cons (.bor .v) (.cons (.bor .v) .nil))))) .nil) (by decide) all_nil .nil (zDA f (by omega)) rfl rfl (nle rfl)) (.r rfl (zAa (b := zAY f) rfl rfl) (.r rfl (zAg rfl rfl) .nil)))))))) ?_
  refine zAT (t := (!(zAY f))) rfl (fun h2 => ?_) (fun h2 => ?_)
  ·
   replace h2 : (zAY f) = false := zAp h2
   refine zAB (zAA rfl (.a rfl rfl .nil) ?_)
   refine zAK ?_
   exact ends [_] [] (.cons (.tmp (zAE (zGX (show zAY f = false from h2)).symm)) .nil) (.cons (.one .v (.v _)) .nil) (by decide) trivial
  ·
   replace h2 : (zAY f) = true := zAq h2
   refine zAM ?_
   refine zAB ?_
   refine zAQ (s' := mk [(1, .vs u), (2, .ptr 2 0)] [(2, [.vi f.kind, .vi f.seed, .vi f.probes, .vs f.bits])] []) ?_ ?_
   · exact zAJ ⟨rfl, rfl, trivial⟩ ⟨rfl, trivial⟩ trivial rfl
   have hfb := zHl (f := f) (by omega) (show zAY f = true from h2)
   obtain ⟨hfb1, hfb2, hfb3, hfb4, hfb5⟩ := hfb
   have hbl := zC5 f.bits
   refine zAA rfl (.m rfl rfl (.r rfl (zAC rfl rfl underlying64 rfl sizeOf2 (by decide)) (.r rfl (zAI (zAD rfl rfl rfl isAgg2 rfl) ((zAG (show f.seed = ((f.seed.toNat : Nat) : Int) by omega)))) (.r rfl (zAC rfl rfl underlying64 rfl sizeOf9 (by decide)) (.r rfl (zAD rfl rfl rfl isAgg9 rfl) (.r rfl (zAO rfl rfl underlying9) (.run [2000, 2001, 2002] [] rfl (zAF rfl 2000 (X := []) en127 rfl (.val nod) (.cons (.one (.bor .v)) (.cons (.one (.bor .v)) (.cons (.one (.bor .v)) .nil))) (by decide) all_nil .nil (zK4 u f.seed.toNat f.bits.size (by omega) (by omega) hu) rfl rfl (nle rfl)) (.run [] [5] rfl (zA7 rfl 5 zHf rfl (by decide) rfl (by decide)) (.r rfl (zAN rfl rfl rfl rfl rfl sizeOf132 rfl (nle rfl)) .nil))))))))) ?_
   refine zAB ?_
   refine zAQ (s' := mk [(2, .ptr 2 0), (5, .ptr 5 0)] [(2, [.vi f.kind, .vi f.seed, .vi f.probes, .vs f.bits]), (5, [.vi ((atN (zAj f.seed.toNat u) f.bits.size : Nat) : Int), .p none (.v (.int .u64 ((rowN (zAj f.seed.toNat u) : Nat) : Int))), .p none (.v (.int .u8 ((sumN (zAj f.seed.toNat u) : Nat) : Int)))])] []) ?_ ?_
   · exact zAJ ⟨rfl, rfl, trivial⟩ ⟨rfl, rfl, trivial⟩ trivial rfl
   refine zAf zBo rfl (.r rfl (zAC rfl rfl underlying64 rfl sizeOf9 (by decide)) (.r rfl (zAD rfl rfl rfl isAgg9 rfl) (.run [2300] [] rfl (zF5 rfl 2300 f.bits rfl underlying9 underlying22 underlying5 (by decide) rfl (by decide) (by omega) (by simp only [maxLen]; omega)) (.r rfl (zAC rfl rfl underlying132 rfl sizeOf3 (by decide)) (.r rfl (zAD rfl rfl rfl isAgg3 rfl) (.r rfl (zAC rfl rfl underlying132 rfl sizeOf58 (by decide)) (.r rfl (zAD rfl rfl rfl isAgg58 rfl) (.run [2300, 2800] [] rfl (zAF rfl 2800 (X := []) en128 rfl (.val nod) (.cons (.one (.bor (.all (len := (pvNb (zAw f.bits)).length) (xs := pvNb (zAw f.bits)) rfl rfl (by decide)))) (.cons (.one (.bor .v)) (.cons (.one (.bor .v)) .nil))) (by decide) all_nil .nil (zIr (zAw f.bits) (atN (zAj f.seed.toNat u) f.bits.size) (rowN (zAj f.seed.toNat u)) f.bits.size hfb5 hbl (zH6 _) (zNg _ _ (by omega)) (by have := at_in (zAj f.seed.toNat u) f.bits.size (by omega); omega) (by omega)) rfl rfl (nle rfl)) (.r rfl (zAC rfl rfl underlying132 rfl sizeOf5 (by decide)) (.r rfl (zAD rfl rfl rfl isAgg5 rfl) (.r rfl (zA9 rfl rfl rfl) (.a rfl rfl .nil)))))))))))) (by kernel_rfl) ?_
   refine zAK ?_
   exact ends [_] [] (.cons (.tmp (zAE ((zNj).trans ((zGW (by omega) (show zAY f = true from h2))).symm))) .nil) (.cons (.one .v (.v _)) .nil) (by decide) trivial
 ·
  have h1' := h1
  replace h1' : ¬ (f.kind = 2) := of_decide_eq_false (zAp h1')
  refine zAA rfl (.r rfl (zAC rfl rfl underlying64 rfl sizeOf2 (by decide)) (.r rfl (zAD rfl rfl rfl isAgg2 rfl) (.r rfl (zAI (zB8 rfl rfl rfl) (zAE h1)) (.m rfl rfl (.not rfl (.not rfl (.not rfl (.r rfl (zAh rfl rfl) .nil)))))))) ?_
  refine zAT (t := true) rfl (fun _ => ?_) (fun h => nomatch h)
  refine zAB (zAA rfl (.a rfl rfl .nil) ?_)
  refine zAK ?_
  exact ends [_] [] (.cons (.tmp (zAE (zGY (by omega)).symm)) .nil) (.cons (.one .v (.v _)) .nil) (by decide) trivial
theorem zG7 (f : Flt) (u : ByteArray) (hf : f.bits.size ≤ 9000000000000000000) (hu : u.size ≤ 9000000000000000000) : Con Tryz.prog 93 [.agg [PV.v (.int .i64 f.kind), PV.v (.int .i64 f.seed), PV.v (.int .i64 f.probes), PV.v (.string f.bits)], .one (PV.v (.string u))] [] [.one (.v (.bool (zCZ f u)))] := by
 refine zAR func93 rfl rfl rfl rfl ?_
 refine zAB (zAA rfl (.run [] [2] rfl (zCF rfl 2 rfl rfl (by decide) rfl (by decide)) (.a rfl rfl .nil)) ?_)
 refine zAB ?_
 refine zAB ?_
 rcases bfc (!(decide (f.kind = 2))) with h1 | h1
 ·
  have h1' := h1
  replace h1' : f.kind = 2 := of_decide_eq_true (zAq h1')
  refine zAA rfl (.r rfl (zAC rfl rfl underlying64 rfl sizeOf2 (by decide)) (.r rfl (zAD rfl rfl rfl isAgg2 rfl) (.r rfl (zAI (zB8 rfl rfl rfl) (zAE h1)) (.m rfl rfl (.r rfl (zAW rfl rfl rfl isAgg64 sizeOf64 (nle rfl)) (.run [1400] [] rfl (zAF rfl 1400 (X := []) en79 rfl (.val nod) (.cons (.agg (.cons (.bor .v) (.cons (.bor .v) (.cons (.bor .v) (.cons (.bor .v) .nil))))) .nil) (by decide) all_nil .nil (zDI f (by omega)) rfl rfl (nle rfl)) (.r rfl (zAa (b := zAY f) rfl rfl) (.r rfl (zAg rfl rfl) .nil)))))))) ?_
  refine zAT (t := (!(zAY f))) rfl (fun h2 => ?_) (fun h2 => ?_)
  ·
   replace h2 : (zAY f) = false := zAp h2
   refine zAB (zAA rfl (.a rfl rfl .nil) ?_)
   refine zAK ?_
   exact ends [_] [] (.cons (.tmp (zAE (zGX (show zAY f = false from h2)).symm)) .nil) (.cons (.one .v (.v _)) .nil) (by decide) trivial
  ·
   replace h2 : (zAY f) = true := zAq h2
   refine zAM ?_
   refine zAB ?_
   refine zAQ (s' := mk [(1, .vs u), (2, .ptr 2 0)] [(2, [.vi f.kind, .vi f.seed, .vi f.probes, .vs f.bits])] []) ?_ ?_
   · exact zAJ ⟨rfl, rfl, trivial⟩ ⟨rfl, trivial⟩ trivial rfl
   have hfb := zHl (f := f) (by omega) (show zAY f = true from h2)
   obtain ⟨hfb1, hfb2, hfb3, hfb4, hfb5⟩ := hfb
   refine zAA rfl (.m rfl rfl (.r rfl (zAC rfl rfl underlying64 rfl sizeOf2 (by decide)) (.r rfl (zAI (zAD rfl rfl rfl isAgg2 rfl) ((zAG (show f.seed = ((f.seed.toNat : Nat) : Int) by omega)))) (.r rfl (zAC rfl rfl underlying64 rfl sizeOf9 (by decide)) (.r rfl (zAD rfl rfl rfl isAgg9 rfl) (.r rfl (zAO rfl rfl underlying9) (.run [2400, 2401, 2402] [] rfl (zAF rfl 2400 (X := []) en114 rfl (.val nod) (.cons (.one (.bor .v)) (.cons (.one (.bor .v)) (.cons (.one (.bor .v)) .nil))) (by decide) all_nil .nil (zMH u f.seed.toNat f.bits.size (by omega) (by omega) hu) rfl rfl (nle rfl)) (.m rfl rfl (.r rfl (zAH rfl rfl rfl) (.r rfl (zAH rfl rfl rfl) (.r rfl (zAH rfl rfl rfl) (.a rfl rfl (.a rfl rfl (.a rfl rfl .nil)))))))))))))) ?_
   refine zAB ?_
   refine zAB ?_
   refine zAQ (s' := mk [(2, .ptr 2 0), (5, .vi ((atN (zAj f.seed.toNat u) f.bits.size : Nat) : Int)), (6, .p none (.v (.int .u64 ((rowN (zAj f.seed.toNat u) : Nat) : Int)))), (7, .p none (.v (.int .u64 ((sumN (zAj f.seed.toNat u) : Nat) : Int))))] [(2, [.vi f.kind, .vi f.seed, .vi f.probes, .vs f.bits])] []) ?_ ?_
   · exact zAJ ⟨rfl, rfl, rfl, rfl, trivial⟩ ⟨rfl, trivial⟩ trivial rfl
   obtain ⟨h, c1⟩ : ∃ x, Is (zAj f.seed.toNat u) x := ⟨_, ⟨rfl⟩⟩
   have hat := at_in h f.bits.size (by omega)
   have hsn : sumN h < 128 := Nat.mod_lt _ (by decide)
   refine zAQ (s' := mk [(2, .ptr 2 0), (5, .vi ((atN h f.bits.size : Nat) : Int)), (6, .p none (.v (.int .u64 ((rowN h : Nat) : Int)))), (7, .p none (.v (.int .u64 ((sumN h : Nat) : Int))))] [(2, [.vi f.kind, .vi f.seed, .vi f.probes, .vs f.bits])] []) ?_ ?_
   · exact zAJ ⟨rfl, (zAG (by rw [c1.h])), (zAG (by rw [c1.h])), (zAG (by rw [c1.h])), trivial⟩ ⟨rfl, trivial⟩ trivial rfl
   refine zAA rfl (.a rfl rfl .nil) ?_
   refine zAS ?_
   refine zAo (σ := Nat) (fun j => mk [(2, .ptr 2 0), (5, .vi ((atN h f.bits.size : Nat) : Int)), (6, .p none (.v (.int .u64 ((rowN h : Nat) : Int)))), (7, .p none (.v (.int .u64 ((sumN h ^^^ solT (zAw f.bits) (atN h f.bits.size) (rowN h) j : Nat) : Int)))), (8, .vi (j:Int))] [(2, [.vi f.kind, .vi f.seed, .vi f.probes, .vs f.bits])] []) (fun j => j ≤ 16) (fun j => 16 - j) 0 (by simp) (zAJ ⟨rfl, rfl, rfl, (zAG (congrArg Nat.cast (Nat.xor_zero _).symm)), (zAG (by omega)), trivial⟩ ⟨rfl, trivial⟩ trivial rfl) ?_
   rintro j hG
   replace hG : j ≤ 16 := hG
   refine zAB ?_
   refine zAB (zAA rfl (.m rfl rfl (.r rfl (zAz rfl rfl rfl) .nil)) ?_)
   refine zAT (t := decide ((j:Int) < 16)) rfl (fun h3 => ?_) (fun h3 => ?_)
   ·
    replace h3 := of_decide_eq_true h3
    refine zAM ?_
    refine zAB ?_
    refine zAS ?_
    refine zAB (zAA rfl (.m rfl rfl (.m rfl rfl (.r rfl (zAI (zAc (k' := .u64) 18446744073709551616 rfl j rfl rfl rfl underlying2 underlying97) ((zAG (show ((j % 18446744073709551616 : Nat) : Int) = ((j : Nat) : Int) by omega)))) (.r rfl (zBZ (rowN h) j rfl rfl rfl (show _ ≤ 64 by omega)) (.r rfl (zB1 ((rowN h) / 2 ^ j) 2 rfl rfl rfl (by omega)) (.r rfl (zA9 rfl rfl rfl) .nil)))))) ?_)
    refine zAT (t := decide (((((rowN h) / 2 ^ j) % 2 : Nat) : Int) = 1)) rfl (fun h4 => ?_) (fun h4 => ?_)
    ·
     replace h4 := of_decide_eq_true h4
     have hbb := zLk (zCD (s := f.bits) (n := atN h f.bits.size + j) (by omega))
     have hby := (f.bits[atN h f.bits.size + j]?.getD 0).toNat_lt
     refine zAQ (s' := mk [(2, .ptr 2 0), (5, .vi ((atN h f.bits.size : Nat) : Int)), (6, .p none (.v (.int .u64 ((rowN h : Nat) : Int)))), (7, .p none (.v (.int .u64 ((sumN h ^^^ solT (zAw f.bits) (atN h f.bits.size) (rowN h) j : Nat) : Int)))), (8, .vi (j:Int))] [(2, [.vi f.kind, .vi f.seed, .vi f.probes, .vs f.bits])] []) ?_ ?_
     · exact zAJ ⟨rfl, rfl, rfl, rfl, rfl, trivial⟩ ⟨rfl, trivial⟩ trivial rfl
     refine zAA rfl (.m rfl rfl (.r rfl (zAC rfl rfl underlying64 rfl sizeOf9 (by decide)) (.r rfl (zAD rfl rfl rfl isAgg9 rfl) (.m rfl rfl (.m rfl rfl (.r rfl (zAI (zAd rfl rfl rfl (by omega)) ((zAG (show ((atN h f.bits.size : Nat) : Int) + ((j : Nat) : Int) = ((atN h f.bits.size + j : Nat) : Int) by omega)))) (.r rfl (zBY rfl rfl rfl underlying9 (by omega) (zCD (by omega))) (.r rfl (zAI (zAc (k' := .u64) 18446744073709551616 rfl ((f.bits[atN h f.bits.size + j]?.getD 0).toNat) rfl rfl rfl underlying5 underlying58) ((zAG (show ((((f.bits[atN h f.bits.size + j]?.getD 0).toNat) % 18446744073709551616 : Nat) : Int) = (((f.bits[atN h f.bits.size + j]?.getD 0).toNat : Nat) : Int) by omega)))) (.r rfl (zAI (zBw (k := .u64) 18446744073709551616 rfl (sumN h ^^^ solT (zAw f.bits) (atN h f.bits.size) (rowN h) j) ((f.bits[atN h f.bits.size + j]?.getD 0).toNat) rfl rfl rfl rfl) ((zAG (congrArg Nat.cast (zNi hfb5 hsn (rib_y h4) hbb))))) (.a rfl rfl .nil)))))))))) ?_
     refine zAA rfl (.m rfl rfl (.r rfl (zAd rfl rfl rfl (by omega)) (.a rfl rfl .nil))) ?_
     refine nxt (Q := fun _ _ => False) (z := j) (j + 1) ?_ ?_ ?_
     ·
      show (j + 1) ≤ 16
      omega
     ·
      show 16 - (j + 1) < 16 - j
      omega
     · exact zAJ ⟨rfl, rfl, rfl, rfl, (zAG (by omega)), trivial⟩ ⟨rfl, trivial⟩ trivial rfl
    ·
     replace h4 := of_decide_eq_false h4
     refine zAM ?_
     refine zAA rfl (.m rfl rfl (.r rfl (zAd rfl rfl rfl (by omega)) (.a rfl rfl .nil))) ?_
     refine nxt (Q := fun _ _ => False) (z := j) (j + 1) ?_ ?_ ?_
     ·
      show (j + 1) ≤ 16
      omega
     ·
      show 16 - (j + 1) < 16 - j
      omega
     · exact zAJ ⟨rfl, rfl, rfl, (zAG (congrArg Nat.cast (by rw [zMA (rib_n h4)]))), (zAG (by omega)), trivial⟩ ⟨rfl, trivial⟩ trivial rfl
   ·
    replace h3 := of_decide_eq_false h3
    refine zAn ?_
    refine zAB ?_
    have hj16 : 16 = j := by omega
    have hfin := zNk (f := f) (u := u) c1.h
    rw [hj16] at hfin
    refine zAA rfl (.m rfl rfl (.r rfl (zA9 rfl rfl rfl) (.a rfl rfl .nil))) ?_
    refine zAK ?_
    exact ends [_] [] (.cons (.tmp (zAE ((hfin).trans ((zGW (by omega) (show zAY f = true from h2))).symm))) .nil) (.cons (.one .v (.v _)) .nil) (by decide) trivial
 ·
  have h1' := h1
  replace h1' : ¬ (f.kind = 2) := of_decide_eq_false (zAp h1')
  refine zAA rfl (.r rfl (zAC rfl rfl underlying64 rfl sizeOf2 (by decide)) (.r rfl (zAD rfl rfl rfl isAgg2 rfl) (.r rfl (zAI (zB8 rfl rfl rfl) (zAE h1)) (.m rfl rfl (.not rfl (.not rfl (.not rfl (.r rfl (zAh rfl rfl) .nil)))))))) ?_
  refine zAT (t := true) rfl (fun _ => ?_) (fun h => nomatch h)
  refine zAB (zAA rfl (.a rfl rfl .nil) ?_)
  refine zAK ?_
  exact ends [_] [] (.cons (.tmp (zAE (zGY (by omega)).symm)) .nil) (.cons (.one .v (.v _)) .nil) (by decide) trivial
theorem zIW (f : Flt) (u : ByteArray) (hf : f.bits.size ≤ 9000000000000000000) (hu : u.size ≤ 9000000000000000000) : Con Tryz.prog 43 [.agg [PV.v (.int .i64 f.kind), PV.v (.int .i64 f.seed), PV.v (.int .i64 f.probes), PV.v (.string f.bits)], .one (PV.v (.string u))] [] [.one (.v (.bool (mayF f u)))] := by
 refine zAR func43 rfl rfl rfl rfl ?_
 refine zAB (zAA rfl (.run [] [2] rfl (zCF rfl 2 rfl rfl (by decide) rfl (by decide)) (.a rfl rfl .nil)) ?_)
 refine zAB ?_
 rcases bfc (zBy f u) with h1 | h1
 ·
  have h1' := h1
  refine zAA rfl (.r rfl (zAW rfl rfl rfl isAgg64 sizeOf64 (nle rfl)) (.m rfl rfl (.run [700] [] rfl (zAF rfl 700 (X := []) en86 rfl (.val nod) (.cons (.agg (.cons (.bor .v) (.cons (.bor .v) (.cons (.bor .v) (.cons (.bor .v) .nil))))) (.cons (.one (.bor .v)) .nil)) (by decide) all_nil .nil (zFx f u (by omega) (by omega)) rfl rfl (nle rfl)) (.r rfl (zAI (zBF rfl) (zAE h1)) (.not rfl (.not rfl (.not rfl (.r rfl (zAg rfl rfl) (.a rfl rfl .nil))))))))) ?_
  refine zAK ?_
  exact ends [_] [] (.cons (.tmp (zAE (by rw [mayF, show zBy f u = false from h1', Bool.false_and]))) .nil) (.cons (.one .v (.v _)) .nil) (by decide) trivial
 ·
  have h1' := h1
  refine zAA rfl (.r rfl (zAW rfl rfl rfl isAgg64 sizeOf64 (nle rfl)) (.m rfl rfl (.run [700] [] rfl (zAF rfl 700 (X := []) en86 rfl (.val nod) (.cons (.agg (.cons (.bor .v) (.cons (.bor .v) (.cons (.bor .v) (.cons (.bor .v) .nil))))) (.cons (.one (.bor .v)) .nil)) (by decide) all_nil .nil (zFx f u (by omega) (by omega)) rfl rfl (nle rfl)) (.r rfl (zAI (zBF rfl) (zAE h1)) (.r rfl (zAW rfl rfl rfl isAgg64 sizeOf64 (nle rfl)) (.m rfl rfl (.run [1100] [] rfl (zAF rfl 1100 (X := []) en87 rfl (.val nod) (.cons (.agg (.cons (.bor .v) (.cons (.bor .v) (.cons (.bor .v) (.cons (.bor .v) .nil))))) (.cons (.one (.bor .v)) .nil)) (by decide) all_nil .nil (zH7 f u (by omega) (by omega)) rfl rfl (nle rfl)) (.r rfl (zAh rfl rfl) (.a rfl rfl .nil))))))))) ?_
  refine zAK ?_
  exact ends [_] [] (.cons (.tmp (zAE (by rw [mayF, show zBy f u = true from h1', Bool.true_and]))) .nil) (.cons (.one .v (.v _)) .nil) (by decide) trivial
theorem zHA (f : Flt) (u : ByteArray) (hf : f.bits.size ≤ 9000000000000000000) (hu : u.size ≤ 9000000000000000000) : Con Tryz.prog 48 [.agg [PV.v (.int .i64 f.kind), PV.v (.int .i64 f.seed), PV.v (.int .i64 f.probes), PV.v (.string f.bits)], .one (PV.v (.string u))] [] [.one (.v (.bool (mayF f u)))] := by
 refine zAR func48 rfl rfl rfl rfl ?_
 refine zAB (zAA rfl (.run [] [2] rfl (zCF rfl 2 rfl rfl (by decide) rfl (by decide)) (.a rfl rfl .nil)) ?_)
 refine zAB ?_
 rcases bfc (zBy f u) with h1 | h1
 ·
  have h1' := h1
  refine zAA rfl (.r rfl (zAW rfl rfl rfl isAgg64 sizeOf64 (nle rfl)) (.m rfl rfl (.run [700] [] rfl (zAF rfl 700 (X := []) en92 rfl (.val nod) (.cons (.agg (.cons (.bor .v) (.cons (.bor .v) (.cons (.bor .v) (.cons (.bor .v) .nil))))) (.cons (.one (.bor .v)) .nil)) (by decide) all_nil .nil (zFB f u (by omega) (by omega)) rfl rfl (nle rfl)) (.r rfl (zAI (zBF rfl) (zAE h1)) (.not rfl (.not rfl (.not rfl (.r rfl (zAg rfl rfl) (.a rfl rfl .nil))))))))) ?_
  refine zAK ?_
  exact ends [_] [] (.cons (.tmp (zAE (by rw [mayF, show zBy f u = false from h1', Bool.false_and]))) .nil) (.cons (.one .v (.v _)) .nil) (by decide) trivial
 ·
  have h1' := h1
  refine zAA rfl (.r rfl (zAW rfl rfl rfl isAgg64 sizeOf64 (nle rfl)) (.m rfl rfl (.run [700] [] rfl (zAF rfl 700 (X := []) en92 rfl (.val nod) (.cons (.agg (.cons (.bor .v) (.cons (.bor .v) (.cons (.bor .v) (.cons (.bor .v) .nil))))) (.cons (.one (.bor .v)) .nil)) (by decide) all_nil .nil (zFB f u (by omega) (by omega)) rfl rfl (nle rfl)) (.r rfl (zAI (zBF rfl) (zAE h1)) (.r rfl (zAW rfl rfl rfl isAgg64 sizeOf64 (nle rfl)) (.m rfl rfl (.run [1100] [] rfl (zAF rfl 1100 (X := []) en93 rfl (.val nod) (.cons (.agg (.cons (.bor .v) (.cons (.bor .v) (.cons (.bor .v) (.cons (.bor .v) .nil))))) (.cons (.one (.bor .v)) .nil)) (by decide) all_nil .nil (zG7 f u (by omega) (by omega)) rfl rfl (nle rfl)) (.r rfl (zAh rfl rfl) (.a rfl rfl .nil))))))))) ?_
  refine zAK ?_
  exact ends [_] [] (.cons (.tmp (zAE (by rw [mayF, show zBy f u = true from h1', Bool.true_and]))) .nil) (.cons (.one .v (.v _)) .nil) (by decide) trivial
end Go.Rl

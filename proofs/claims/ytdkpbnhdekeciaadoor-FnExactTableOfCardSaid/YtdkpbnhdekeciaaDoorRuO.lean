/- Promises of functions, proved by walks over their operations; no conditions beyond those that each theorem states. -/
import Derived.Test.YtdkpbnhdekeciaaDoorRuM
set_option linter.unusedSimpArgs false
set_option linter.unusedVariables false
namespace Go.Rl
open Go.Proofs
theorem en24 : ∀ vs w, (callFunc 24 vs).run Tryd.prog w = .ok (.enter 24 vs) w := zAn Tryd.func24 (by decide) rfl
theorem en25 : ∀ vs w, (callFunc 25 vs).run Tryd.prog w = .ok (.enter 25 vs) w := zAn Tryd.func25 (by decide) rfl
theorem en26 : ∀ vs w, (callFunc 26 vs).run Tryd.prog w = .ok (.enter 26 vs) w := zAn Tryd.func26 (by decide) rfl
theorem en12 : ∀ vs w, (callFunc 12 vs).run Tryd.prog w = .ok (.enter 12 vs) w := zAn Tryd.func12 (by decide) rfl
theorem en13 : ∀ vs w, (callFunc 13 vs).run Tryd.prog w = .ok (.enter 13 vs) w := zAn Tryd.func13 (by decide) rfl
theorem en17 : ∀ vs w, (callFunc 17 vs).run Tryd.prog w = .ok (.enter 17 vs) w := zAn Tryd.func17 (by decide) rfl
theorem en18 : ∀ vs w, (callFunc 18 vs).run Tryd.prog w = .ok (.enter 18 vs) w := zAn Tryd.func18 (by decide) rfl
theorem en19 : ∀ vs w, (callFunc 19 vs).run Tryd.prog w = .ok (.enter 19 vs) w := zAn Tryd.func19 (by decide) rfl
theorem en20 : ∀ vs w, (callFunc 20 vs).run Tryd.prog w = .ok (.enter 20 vs) w := zAn Tryd.func20 (by decide) rfl
theorem en22 : ∀ vs w, (callFunc 22 vs).run Tryd.prog w = .ok (.enter 22 vs) w := zAn Tryd.func22 (by decide) rfl
theorem pvE_cut (l : List Ent) (f i : Nat) : ((pvE l).drop f).take (i - f) = pvE (curT l f i) := by simp [pvE, curT, List.map_drop, List.map_take]
set_option maxRecDepth 1000000 in
set_option maxHeartbeats 2000000 in
theorem zG1 {γ : Gho} (ht : TabG γ) (l : List Ent) (pe ps pk : Int) (hlb : l.length ≤ 2000000) : ConG γ Tryd.prog 8 [.one (PV.sl false 4 (pvE l)), .agg [PV.v (.int .i64 pe), PV.v (.int .i64 ps), PV.v (.int .i64 pk)]] [] [.one (.v (.string ((zBu l (⟨pe, ps, pk⟩ : Shp)).getD ⟨#[]⟩))), .one (.v (.bool ((zBu l (⟨pe, ps, pk⟩ : Shp)).isSome)))] := by
 refine zAP Tryd.func8 rfl rfl rfl rfl ?_
 have hle := zAc l
 refine zAC ?_
 refine zAA rfl (.run [] [3] rfl (zBa rfl 3 rfl rfl (by decide) rfl (by decide)) (.run [] [] rfl (zAD rfl) (.run [] [] rfl (zAD rfl) .nil))) ?_
 refine zAC ?_
 refine zAC ?_
 rcases bfc (!(zBD l)) with h1 | h1
 ·
  have h1' := h1
  replace h1' : (zBD l) = true := zA5 h1'
  rcases bfc (decide (((pvE l).length : Int) = 0)) with h2 | h2
  ·
   have h2' := h2
   replace h2' := of_decide_eq_false h2'
   refine zAA rfl (.run [] [] rfl (zAB rfl) (.run [800] [] rfl (zAG rfl 800 (X := []) en24 rfl (.val nod) (.cons (.one (.bor (.sl nod))) .nil) (by decide) all_nil .nil (zC4 l (by omega)) rfl rfl (nle rfl)) (.run [] [] rfl (zAO (zA1 (b := zBD l) rfl rfl) (zAI h1)) (.run [] [] rfl (zAB rfl) (.run [] [] rfl (zAB rfl) (.run [] [] rfl (zAa rfl rfl Tryd.underlying28) (.run [] [] rfl (zAO (zA6 rfl rfl rfl) (zAI h2)) (.run [] [] rfl (zBR rfl rfl) (.run [] [] rfl (zAB rfl) (.run [] [] rfl (zAV rfl rfl rfl Tryd.isAgg30 Tryd.sizeOf30 (nle rfl)) (.run [1700] [] rfl (zAG rfl 1700 (X := []) en25 rfl (.val nod) (.cons (.agg (.cons (.bor .v) (.cons (.bor .v) (.cons (.bor .v) .nil)))) .nil) (by decide) all_nil .nil (zG7 (⟨pe, ps, pk⟩ : Shp)) rfl rfl (nle rfl)) (.run [] [] rfl (zA1 (b := zBP (⟨pe, ps, pk⟩ : Shp)) rfl rfl) (.run [] [] rfl (zBR rfl rfl) .nil))))))))))))) ?_
   refine zAW (t := (!(zBP (⟨pe, ps, pk⟩ : Shp)))) rfl (fun h3 => ?_) (fun h3 => ?_)
   ·
    replace h3 : (zBP (⟨pe, ps, pk⟩ : Shp)) = false := zA4 h3
    refine zAC ?_
    have hZ := zCn (l := l) (p := (⟨pe, ps, pk⟩ : Shp)) (.inr (.inr h3))
    rw [hZ]
    refine zAU (s' := mk [] [] []) ?_ ?_
    · exact zAK trivial trivial trivial rfl
    refine zAA rfl (.run [] [] rfl (zAD rfl) (.run [] [] rfl (zAD rfl) .nil)) ?_
    refine zAL ?_
    exact ends [_, _] [] (.cons (.tmp rfl) (.cons (.tmp rfl) .nil)) (.cons (.one .v (.v _)) (.cons (.one .v (.v _)) .nil)) (by decide) trivial
   ·
    replace h3 : (zBP (⟨pe, ps, pk⟩ : Shp)) = true := zA5 h3
    refine zAJ ?_
    refine zAC ?_
    have hok := h1'
    have hsk := h3
    have hnums := zHb hsk
    simp only [] at hnums
    obtain ⟨ev, rfl⟩ : ∃ n : Nat, pe = (n : Int) := ⟨pe.toNat, by omega⟩
    obtain ⟨sz, rfl⟩ : ∃ n : Nat, ps = (n : Int) := ⟨ps.toNat, by omega⟩
    obtain ⟨kd, rfl⟩ : ∃ n : Nat, pk = (n : Int) := ⟨pk.toNat, by omega⟩
    have hl : ∀ e ∈ l, zBV e = true := fun e he => zC2 hok he
    have hn := zC3 hok
    refine zAU (s' := mk [(0, .p none (.sl false 4 (pvE l))), (3, .ptr 3 0)] [(3, [.p none (.v (.int .i64 (ev:Int))), .p none (.v (.int .i64 (sz:Int))), .p none (.v (.int .i64 (kd:Int)))])] []) ?_ ?_
    · exact zAK ⟨rfl, ⟨rfl, trivial⟩⟩ ⟨rfl, trivial⟩ trivial rfl
    refine zAA rfl (.run [] [] rfl (zAB rfl) (.run [] [] rfl (zAV rfl rfl rfl Tryd.isAgg30 Tryd.sizeOf30 (nle rfl)) (.run [2200] [] rfl (zDM (.inr rfl) rfl 2200 (X := []) en26 rfl (.val nod) (.cons (.one (.bor (.sl nod))) (.cons (.agg (.cons (.bor .v) (.cons (.bor .v) (.cons (.bor .v) .nil)))) .nil)) (by decide) all_nil .nil (zIh ht l ev sz kd hok (by omega) (by omega) (by omega) (by omega)) rfl rfl (nle rfl)) (.run [] [] rfl (zAD rfl) .nil)))) ?_
    refine zAC ?_
    refine zAC ?_
    refine zAA rfl (.run [] [] rfl (zAB rfl) (.run [] [] rfl (zAR rfl rfl Tryd.underlying9) (.run [] [] rfl (zBy rfl rfl rfl) .nil))) ?_
    refine zAW (t := decide (60000 < ((zDB l ev sz kd).size : Int))) rfl (fun h4 => ?_) (fun h4 => ?_)
    ·
     replace h4 := of_decide_eq_true h4
     refine zAC ?_
     have hZ : zBu l (⟨(ev : Int), (sz : Int), (kd : Int)⟩ : Shp) = none := zFA (show 60000 < (zDB l ev sz kd).size by omega)
     rw [hZ]
     refine zAA rfl (.run [] [] rfl (zAD rfl) (.run [] [] rfl (zAD rfl) .nil)) ?_
     refine zAL ?_
     exact ends [_, _] [] (.cons (.tmp rfl) (.cons (.tmp rfl) .nil)) (.cons (.one .v (.v _)) (.cons (.one .v (.v _)) .nil)) (by decide) trivial
    ·
     replace h4 := of_decide_eq_false h4
     refine zAJ ?_
     refine zAC ?_
     have hZ : zBu l (⟨(ev : Int), (sz : Int), (kd : Int)⟩ : Shp) = some (zDB l ev sz kd) := zE9 hok (by omega) hsk (show (zDB l ev sz kd).size ≤ 60000 by omega)
     rw [hZ]
     refine zAA rfl (.run [] [] rfl (zAB rfl) (.run [] [] rfl (zAD rfl) (.run [] [] rfl (zAD rfl) .nil))) ?_
     refine zAL ?_
     exact ends [_, _] [] (.cons (.tmp rfl) (.cons (.tmp rfl) .nil)) (.cons (.one .v (.v _)) (.cons (.one .v (.v _)) .nil)) (by decide) trivial
  ·
   have h2' := h2
   replace h2' := of_decide_eq_true h2'
   refine zAA rfl (.run [] [] rfl (zAB rfl) (.run [800] [] rfl (zAG rfl 800 (X := []) en24 rfl (.val nod) (.cons (.one (.bor (.sl nod))) .nil) (by decide) all_nil .nil (zC4 l (by omega)) rfl rfl (nle rfl)) (.run [] [] rfl (zAO (zA1 (b := zBD l) rfl rfl) (zAI h1)) (.run [] [] rfl (zAB rfl) (.run [] [] rfl (zAB rfl) (.run [] [] rfl (zAa rfl rfl Tryd.underlying28) (.run [] [] rfl (zAO (zA6 rfl rfl rfl) (zAI h2)) (.run [] [] rfl (zBR rfl rfl) (.run [] [] rfl (zAB rfl) (.not rfl (.not rfl (.not rfl (.run [] [] rfl (zBZ rfl rfl) .nil))))))))))))) ?_
   refine zAW (t := true) rfl (fun _ => ?_) (fun h => nomatch h)
   refine zAC ?_
   have hZ := zCn (l := l) (p := (⟨pe, ps, pk⟩ : Shp)) (.inr (.inl (by omega)))
   rw [hZ]
   refine zAU (s' := mk [] [] []) ?_ ?_
   · exact zAK trivial trivial trivial rfl
   refine zAA rfl (.run [] [] rfl (zAD rfl) (.run [] [] rfl (zAD rfl) .nil)) ?_
   refine zAL ?_
   exact ends [_, _] [] (.cons (.tmp rfl) (.cons (.tmp rfl) .nil)) (.cons (.one .v (.v _)) (.cons (.one .v (.v _)) .nil)) (by decide) trivial
 ·
  have h1' := h1
  replace h1' : (zBD l) = false := zA4 h1'
  refine zAA rfl (.run [] [] rfl (zAB rfl) (.run [800] [] rfl (zAG rfl 800 (X := []) en24 rfl (.val nod) (.cons (.one (.bor (.sl nod))) .nil) (by decide) all_nil .nil (zC4 l (by omega)) rfl rfl (nle rfl)) (.run [] [] rfl (zAO (zA1 (b := zBD l) rfl rfl) (zAI h1)) (.run [] [] rfl (zAB rfl) (.not rfl (.not rfl (.not rfl (.run [] [] rfl (zBZ rfl rfl) (.run [] [] rfl (zAB rfl) (.not rfl (.not rfl (.not rfl (.run [] [] rfl (zBZ rfl rfl) .nil))))))))))))) ?_
  refine zAW (t := true) rfl (fun _ => ?_) (fun h => nomatch h)
  refine zAC ?_
  have hZ := zCn (l := l) (p := (⟨pe, ps, pk⟩ : Shp)) (.inl h1')
  rw [hZ]
  refine zAU (s' := mk [] [] []) ?_ ?_
  · exact zAK trivial trivial trivial rfl
  refine zAA rfl (.run [] [] rfl (zAD rfl) (.run [] [] rfl (zAD rfl) .nil)) ?_
  refine zAL ?_
  exact ends [_, _] [] (.cons (.tmp rfl) (.cons (.tmp rfl) .nil)) (.cons (.one .v (.v _)) (.cons (.one .v (.v _)) .nil)) (by decide) trivial
set_option maxRecDepth 1000000 in
set_option maxHeartbeats 2000000 in
theorem zGI (l : List Ent) (pe ps pk : Int) (hlb : l.length ≤ 2000000) : Con Tryd.prog 5 [.one (PV.sl false 4 (pvE l)), .agg [PV.v (.int .i64 pe), PV.v (.int .i64 ps), PV.v (.int .i64 pk)]] [] [.one (.v (.string ((zBu l (⟨pe, ps, pk⟩ : Shp)).getD ⟨#[]⟩))), .one (.v (.bool ((zBu l (⟨pe, ps, pk⟩ : Shp)).isSome)))] := by
 refine zAP Tryd.func5 rfl rfl rfl rfl ?_
 have hle := zAc l
 refine zAC ?_
 refine zAA rfl (.run [] [3] rfl (zBa rfl 3 rfl rfl (by decide) rfl (by decide)) (.run [] [] rfl (zAD rfl) (.run [] [] rfl (zAD rfl) .nil))) ?_
 refine zAC ?_
 refine zAC ?_
 rcases bfc (!(zBD l)) with h1 | h1
 ·
  have h1' := h1
  replace h1' : (zBD l) = true := zA5 h1'
  rcases bfc (decide (((pvE l).length : Int) = 0)) with h2 | h2
  ·
   have h2' := h2
   replace h2' := of_decide_eq_false h2'
   refine zAA rfl (.run [] [] rfl (zAB rfl) (.run [1800] [] rfl (zAG rfl 1800 (X := []) en11 rfl (.val nod) (.cons (.one (.bor (.sl nod))) .nil) (by decide) all_nil .nil (zBe l (by omega)) rfl rfl (nle rfl)) (.run [] [] rfl (zAO (zA1 (b := zBD l) rfl rfl) (zAI h1)) (.run [] [] rfl (zAB rfl) (.run [] [] rfl (zAB rfl) (.run [] [] rfl (zAa rfl rfl Tryd.underlying28) (.run [] [] rfl (zAO (zA6 rfl rfl rfl) (zAI h2)) (.run [] [] rfl (zBR rfl rfl) (.run [] [] rfl (zAB rfl) (.run [] [] rfl (zAV rfl rfl rfl Tryd.isAgg30 Tryd.sizeOf30 (nle rfl)) (.run [2700] [] rfl (zAG rfl 2700 (X := []) en12 rfl (.val nod) (.cons (.agg (.cons (.bor .v) (.cons (.bor .v) (.cons (.bor .v) .nil)))) .nil) (by decide) all_nil .nil (zGJ (⟨pe, ps, pk⟩ : Shp)) rfl rfl (nle rfl)) (.run [] [] rfl (zA1 (b := zBP (⟨pe, ps, pk⟩ : Shp)) rfl rfl) (.run [] [] rfl (zBR rfl rfl) .nil))))))))))))) ?_
   refine zAW (t := (!(zBP (⟨pe, ps, pk⟩ : Shp)))) rfl (fun h3 => ?_) (fun h3 => ?_)
   ·
    replace h3 : (zBP (⟨pe, ps, pk⟩ : Shp)) = false := zA4 h3
    refine zAC ?_
    have hZ := zCn (l := l) (p := (⟨pe, ps, pk⟩ : Shp)) (.inr (.inr h3))
    rw [hZ]
    refine zAU (s' := mk [] [] []) ?_ ?_
    · exact zAK trivial trivial trivial rfl
    refine zAA rfl (.run [] [] rfl (zAD rfl) (.run [] [] rfl (zAD rfl) .nil)) ?_
    refine zAL ?_
    exact ends [_, _] [] (.cons (.tmp rfl) (.cons (.tmp rfl) .nil)) (.cons (.one .v (.v _)) (.cons (.one .v (.v _)) .nil)) (by decide) trivial
   ·
    replace h3 : (zBP (⟨pe, ps, pk⟩ : Shp)) = true := zA5 h3
    refine zAJ ?_
    refine zAC ?_
    have hok := h1'
    have hsk := h3
    have hnums := zHb hsk
    simp only [] at hnums
    obtain ⟨ev, rfl⟩ : ∃ n : Nat, pe = (n : Int) := ⟨pe.toNat, by omega⟩
    obtain ⟨sz, rfl⟩ : ∃ n : Nat, ps = (n : Int) := ⟨ps.toNat, by omega⟩
    obtain ⟨kd, rfl⟩ : ∃ n : Nat, pk = (n : Int) := ⟨pk.toNat, by omega⟩
    have hl : ∀ e ∈ l, zBV e = true := fun e he => zC2 hok he
    have hn := zC3 hok
    have hev : 1 ≤ ev ∧ ev ≤ 16 := by omega
    have hsz : sz ≤ 4000 := by omega
    have hkd : kd ≤ 2 := by omega
    have hu := zF7 hok
    have hul := zE8 hok
    refine zAU (s' := mk [(0, .p none (.sl false 4 (pvE l))), (3, .ptr 3 0)] [(3, [.p none (.v (.int .i64 (ev:Int))), .p none (.v (.int .i64 (sz:Int))), .p none (.v (.int .i64 (kd:Int)))])] []) ?_ ?_
    · exact zAK ⟨rfl, ⟨rfl, trivial⟩⟩ ⟨rfl, trivial⟩ trivial rfl
    refine zAA rfl (.run [] [] rfl (zAD rfl) .nil) ?_
    refine zAC ?_
    refine zAA rfl (.run [] [] rfl (zAD rfl) .nil) ?_
    refine zAC ?_
    refine zAA rfl (.run [] [] rfl (zAD rfl) .nil) ?_
    refine zAC ?_
    refine zAC ?_
    refine zAA rfl (.run [] [] rfl (zAD rfl) .nil) ?_
    refine zAM ?_
    refine zAj (σ := Nat) (fun i => mk [(0, .p none (.sl false 4 (pvE l))), (3, .ptr 3 0), (6, .p none (.v (.string ((tabN l ev sz i).out)))), (7, .p none (.v (.string ((tabN l ev sz i).index)))), (8, .p none (.v (.int .i64 (((tabN l ev sz i).start : Nat) : Int)))), (9, .p none (.v (.int .i64 (i:Int))))] [(3, [.p none (.v (.int .i64 (ev:Int))), .p none (.v (.int .i64 (sz:Int))), .p none (.v (.int .i64 (kd:Int)))])] []) (fun i => i ≤ l.length) (fun i => l.length - i) 0 (by simp) (zAK ⟨rfl, ⟨rfl, ⟨(zAz (by rfl)), ⟨(zAz (by rfl)), ⟨rfl, ⟨(zAH (by omega)), trivial⟩⟩⟩⟩⟩⟩ ⟨rfl, trivial⟩ trivial rfl) ?_
    rintro i hG
    replace hG : i ≤ l.length := hG
    have hT := zFY hl (ev := ev) (sz := sz) i (by omega)
    have hTs := zCy (ev := ev) hl hn hsz i (by omega)
    refine zAC ?_
    refine zAC ?_
    refine zAA rfl (.run [] [] rfl (zAB rfl) (.run [] [] rfl (zAB rfl) (.run [] [] rfl (zAa rfl rfl Tryd.underlying28) (.run [] [] rfl (zAu rfl rfl rfl) .nil)))) ?_
    refine zAW (t := decide ((i:Int) < ((pvE l).length : Int))) rfl (fun h4 => ?_) (fun h4 => ?_)
    ·
     replace h4 := of_decide_eq_true h4
     refine zAJ ?_
     refine zAC ?_
     refine zAM ?_
     refine zAC ?_
     obtain ⟨e, he⟩ : ∃ e, l[i]? = some e := ⟨_, List.getElem?_eq_getElem (by omega)⟩
     have hen := zC2 hok (List.mem_of_getElem? he)
     have hnn := zC5 hen
     have hbk := zG2 (ev := ev) (sz := sz) hl (show i < l.length by omega)
     have hcl := zF1 (l := l) (show (tabN l ev sz i).start ≤ i + 1 by omega) (show i + 1 ≤ l.length by omega)
     have hcv := zAc (curT l (tabN l ev sz i).start i)
     have hcl0 := zF1 (l := l) hT.1 (show i ≤ l.length by omega)
     have hps1 := zAl (n := (tabN l ev sz i).out.size) (by omega)
     have hps2 := zBB (s := keyT e) (by omega)
     have hps3 := zCp (s := blkF (curT l (tabN l ev sz i).start (i + 1)) ev) (by omega)
     refine zAU (s' := mk [(0, .p none (.sl false 4 (pvE l))), (3, .ptr 3 0), (6, .p none (.v (.string ((tabN l ev sz i).out)))), (7, .p none (.v (.string ((tabN l ev sz i).index)))), (8, .p none (.v (.int .i64 (((tabN l ev sz i).start : Nat) : Int)))), (9, .p none (.v (.int .i64 (i:Int))))] [(3, [.p none (.v (.int .i64 (ev:Int))), .p none (.v (.int .i64 (sz:Int))), .p none (.v (.int .i64 (kd:Int)))])] []) ?_ ?_
     · exact zAK ⟨rfl, ⟨rfl, ⟨rfl, ⟨rfl, ⟨rfl, ⟨rfl, trivial⟩⟩⟩⟩⟩⟩ ⟨rfl, trivial⟩ trivial rfl
     refine zAf zBj rfl (.run [] [] rfl (zAB rfl) (.run [] [] rfl (zAB rfl) (.run [] [] rfl (zAB rfl) (.run [] [] rfl (zAO (zAX rfl rfl rfl (by omega)) ((zAH (by omega)))) (.run [] [] rfl (zAO (zIF rfl rfl Tryd.underlying28 Tryd.sizeOf48 (.at_ rfl rfl) (.at_ rfl rfl) (by omega) (by omega)) ((congrArg (fun z => AV.p none (.sl false 4 z)) (pvE_cut l (tabN l ev sz i).start (i + 1))))) (.run [] [] rfl (zAE rfl rfl Tryd.underlying30 rfl Tryd.sizeOf2 (by decide)) (.run [] [] rfl (zAF rfl rfl rfl Tryd.isAgg2 rfl) (.run [4400, 4401] [] rfl (zAG rfl 4400 (X := []) en13 rfl (.val nod) (.cons (.one (.bor (.sl nod))) (.cons (.one (.bor .v)) .nil)) (by decide) all_nil .nil (zGK (curT l (tabN l ev sz i).start (i + 1)) ev (cur_ok hok _ _) (by omega) (by omega) (by omega)) rfl rfl (nle rfl)) (.run [] [] rfl (zAB rfl) (.run [] [] rfl (zAx rfl rfl rfl) (.run [] [] rfl (zAx rfl rfl rfl) (.run [] [] rfl (zAD rfl) (.run [] [] rfl (zAD rfl) .nil))))))))))))) (by kernel_rfl) ?_
     refine zAC ?_
     refine zAC ?_
     refine zAU (s' := mk [(0, .p none (.sl false 4 (pvE l))), (3, .ptr 3 0), (6, .p none (.v (.string ((tabN l ev sz i).out)))), (7, .p none (.v (.string ((tabN l ev sz i).index)))), (8, .p none (.v (.int .i64 (((tabN l ev sz i).start : Nat) : Int)))), (9, .p none (.v (.int .i64 (i:Int)))), (10, .p none (.v (.string (blkF (curT l (tabN l ev sz i).start (i + 1)) ev))))] [(3, [.p none (.v (.int .i64 (ev:Int))), .p none (.v (.int .i64 (sz:Int))), .p none (.v (.int .i64 (kd:Int)))])] []) ?_ ?_
     · exact zAK ⟨rfl, ⟨rfl, ⟨rfl, ⟨rfl, ⟨rfl, ⟨rfl, ⟨rfl, trivial⟩⟩⟩⟩⟩⟩⟩ ⟨rfl, trivial⟩ trivial rfl
     rcases bfc (decide (((blkF (curT l (tabN l ev sz i).start (i + 1)) ev).size : Int) < (sz:Int))) with h5 | h5
     ·
      have h5' := h5
      replace h5' := of_decide_eq_false h5'
      refine zAA rfl (.run [] [] rfl (zAB rfl) (.run [] [] rfl (zAR rfl rfl Tryd.underlying9) (.run [] [] rfl (zAE rfl rfl Tryd.underlying30 rfl Tryd.sizeOf2 (by decide)) (.run [] [] rfl (zAF rfl rfl rfl Tryd.isAgg2 rfl) (.run [] [] rfl (zAO (zAu rfl rfl rfl) (zAI h5)) (.run [] [] rfl (zAB rfl) (.not rfl (.not rfl (.not rfl (.not rfl (.not rfl (.run [] [] rfl (zBR rfl rfl) .nil)))))))))))) ?_
      refine zAW (t := false) rfl (fun h => nomatch h) (fun _ => ?_)
      refine zAJ ?_
      refine zAC ?_
      refine zAU (s' := mk [(0, .p none (.sl false 4 (pvE l))), (3, .ptr 3 0), (6, .p none (.v (.string ((tabN l ev sz i).out)))), (7, .p none (.v (.string ((tabN l ev sz i).index)))), (9, .p none (.v (.int .i64 (i:Int)))), (10, .p none (.v (.string (blkF (curT l (tabN l ev sz i).start (i + 1)) ev))))] [(3, [.p none (.v (.int .i64 (ev:Int))), .p none (.v (.int .i64 (sz:Int))), .p none (.v (.int .i64 (kd:Int)))])] []) ?_ ?_
      · exact zAK ⟨rfl, ⟨rfl, ⟨rfl, ⟨rfl, ⟨rfl, ⟨rfl, trivial⟩⟩⟩⟩⟩⟩ ⟨rfl, trivial⟩ trivial rfl
      refine zAf zBj rfl (.run [] [] rfl (zAB rfl) (.run [] [] rfl (zAB rfl) (.run [] [] rfl (zAR rfl rfl Tryd.underlying9) (.run [] [] rfl (zAO (zAe (k' := .u64) 18446744073709551616 rfl (((tabN l ev sz i).out).size) rfl rfl rfl Tryd.underlying3 Tryd.underlying43) ((zAH (show (((tabN l ev sz i).out.size % 18446744073709551616 : Nat) : Int) = (((tabN l ev sz i).out.size : Nat) : Int) by omega)))) (.run [6300] [] rfl (zAG rfl 6300 (X := []) en14 rfl (.val nod) (.cons (.one (.bor .v)) .nil) (by decide) all_nil .nil (zBT ((tabN l ev sz i).out.size) (by omega)) rfl rfl (nle rfl)) (.run [] [] rfl (zAi rfl rfl rfl (by first | omega | (simp only [zAY, zAQ]; omega))) (.run [] [] rfl (zAB rfl) (.run [] [] rfl (zAB rfl) (.run [] [] rfl (zAm rfl rfl rfl Tryd.underlying28 Tryd.sizeOf48 rfl (by omega) (zBW he)) (.run [] [] rfl (zA3 rfl rfl Tryd.underlying48 rfl Tryd.sizeOf46 (by decide)) (.run [] [] rfl (zBA rfl rfl Tryd.isAgg46 Tryd.sizeOf46 (nle rfl)) (.run [7000] [] rfl (zAG rfl 7000 (X := []) en16 rfl (.val nod) (.cons (.agg (.cons (.bor .v) (.cons (.bor .v) (.cons (.bor .v) .nil)))) .nil) (by decide) all_nil .nil (zDE e (zCE hen)) rfl rfl (nle rfl)) (.run [7100] [] rfl (zAG rfl 7100 (X := []) en15 rfl (.val nod) (.cons (.one (.bor .v)) .nil) (by decide) all_nil .nil (zBg (keyT e) (by omega)) rfl rfl (nle rfl)) (.run [] [] rfl (zAi rfl rfl rfl (by first | omega | (simp only [zAY, zAQ]; omega))) (.run [] [] rfl (zAD rfl) .nil))))))))))))))) (by kernel_rfl) ?_
      refine zAC ?_
      refine zAU (s' := mk [(0, .p none (.sl false 4 (pvE l))), (3, .ptr 3 0), (6, .p none (.v (.string ((tabN l ev sz i).out)))), (7, .p none (.v (.string ((((tabN l ev sz i).index) ++ (putV ((tabN l ev sz i).out.size))) ++ (putX (keyT e)))))), (9, .p none (.v (.int .i64 (i:Int)))), (10, .p none (.v (.string (blkF (curT l (tabN l ev sz i).start (i + 1)) ev))))] [(3, [.p none (.v (.int .i64 (ev:Int))), .p none (.v (.int .i64 (sz:Int))), .p none (.v (.int .i64 (kd:Int)))])] []) ?_ ?_
      · exact zAK ⟨rfl, ⟨rfl, ⟨rfl, ⟨rfl, ⟨rfl, ⟨rfl, trivial⟩⟩⟩⟩⟩⟩ ⟨rfl, trivial⟩ trivial rfl
      refine zAA rfl (.run [] [] rfl (zAB rfl) (.run [] [] rfl (zAB rfl) (.run [7500] [] rfl (zAG rfl 7500 (X := []) en17 rfl (.val nod) (.cons (.one (.bor .v)) .nil) (by decide) all_nil .nil (zCL (blkF (curT l (tabN l ev sz i).start (i + 1)) ev) (by omega)) rfl rfl (nle rfl)) (.run [] [] rfl (zAi rfl rfl rfl (by first | omega | (simp only [zAY, zAQ]; omega))) (.run [] [] rfl (zAD rfl) .nil))))) ?_
      refine zAA rfl (.run [] [] rfl (zAB rfl) (.run [] [] rfl (zAX rfl rfl rfl (by omega)) (.run [] [] rfl (zAD rfl) .nil))) ?_
      refine zAA rfl (.run [] [] rfl (zAB rfl) (.run [] [] rfl (zAX rfl rfl rfl (by omega)) (.run [] [] rfl (zAD rfl) .nil))) ?_
      have hF := zCo (ev := ev) (sz := sz) he (fun q => by omega)
      refine nxt (Q := fun _ _ => False) (z := i) (i + 1) ?_ ?_ ?_
      ·
       show (i + 1) ≤ l.length
       omega
      ·
       show l.length - (i + 1) < l.length - i
       omega
      · exact zAK ⟨rfl, ⟨rfl, ⟨(zAz (by rw [hF])), ⟨(zAz (by rw [hF]; exact zEO _ _ _)), ⟨(zAH (by rw [hF]; rfl)), ⟨(zAH (by omega)), trivial⟩⟩⟩⟩⟩⟩ ⟨rfl, trivial⟩ trivial rfl
     ·
      have h5' := h5
      replace h5' := of_decide_eq_true h5'
      refine zAA rfl (.run [] [] rfl (zAB rfl) (.run [] [] rfl (zAR rfl rfl Tryd.underlying9) (.run [] [] rfl (zAE rfl rfl Tryd.underlying30 rfl Tryd.sizeOf2 (by decide)) (.run [] [] rfl (zAF rfl rfl rfl Tryd.isAgg2 rfl) (.run [] [] rfl (zAO (zAu rfl rfl rfl) (zAI h5)) (.run [] [] rfl (zAB rfl) (.run [] [] rfl (zAB rfl) (.run [] [] rfl (zAX rfl rfl rfl (by omega)) (.run [] [] rfl (zAB rfl) (.run [] [] rfl (zAa rfl rfl Tryd.underlying28) (.run [] [] rfl (zAu rfl rfl rfl) (.run [] [] rfl (zBZ rfl rfl) .nil)))))))))))) ?_
      refine zAW (t := decide (((i:Int) + 1) < ((pvE l).length : Int))) rfl (fun h6 => ?_) (fun h6 => ?_)
      ·
       replace h6 := of_decide_eq_true h6
       refine zAk ?_
       refine zAA rfl (.run [] [] rfl (zAB rfl) (.run [] [] rfl (zAX rfl rfl rfl (by omega)) (.run [] [] rfl (zAD rfl) .nil))) ?_
       have hF := zEQ (ev := ev) (sz := sz) he (by omega) (by omega)
       refine nxt (Q := fun _ _ => False) (z := i) (i + 1) ?_ ?_ ?_
       ·
        show (i + 1) ≤ l.length
        omega
       ·
        show l.length - (i + 1) < l.length - i
        omega
       · exact zAK ⟨rfl, ⟨rfl, ⟨(zAz (by rw [hF])), ⟨(zAz (by rw [hF])), ⟨(zAH (by rw [hF])), ⟨(zAH (by omega)), trivial⟩⟩⟩⟩⟩⟩ ⟨rfl, trivial⟩ trivial rfl
      ·
       replace h6 := of_decide_eq_false h6
       refine zAJ ?_
       refine zAC ?_
       refine zAU (s' := mk [(0, .p none (.sl false 4 (pvE l))), (3, .ptr 3 0), (6, .p none (.v (.string ((tabN l ev sz i).out)))), (7, .p none (.v (.string ((tabN l ev sz i).index)))), (9, .p none (.v (.int .i64 (i:Int)))), (10, .p none (.v (.string (blkF (curT l (tabN l ev sz i).start (i + 1)) ev)))), (53, .p none (.v (.int .i64 (i:Int)))), (54, .p none (.v (.int .i64 ((i:Int) + 1)))), (55, .p none (.sl false 4 (pvE l))), (56, .p none (.v (.int .i64 ((pvE l).length : Int)))), (57, .p none (.v (.bool (decide (((i:Int) + 1) < ((pvE l).length : Int))))))] [(3, [.p none (.v (.int .i64 (ev:Int))), .p none (.v (.int .i64 (sz:Int))), .p none (.v (.int .i64 (kd:Int)))])] []) ?_ ?_
       · exact zAK ⟨rfl, ⟨rfl, ⟨rfl, ⟨rfl, ⟨rfl, ⟨rfl, ⟨rfl, ⟨rfl, ⟨rfl, ⟨rfl, ⟨rfl, trivial⟩⟩⟩⟩⟩⟩⟩⟩⟩⟩⟩ ⟨rfl, trivial⟩ trivial rfl
       refine zAf zBj rfl (.run [] [] rfl (zAB rfl) (.run [] [] rfl (zAB rfl) (.run [] [] rfl (zAR rfl rfl Tryd.underlying9) (.run [] [] rfl (zAO (zAe (k' := .u64) 18446744073709551616 rfl (((tabN l ev sz i).out).size) rfl rfl rfl Tryd.underlying3 Tryd.underlying43) ((zAH (show (((tabN l ev sz i).out.size % 18446744073709551616 : Nat) : Int) = (((tabN l ev sz i).out.size : Nat) : Int) by omega)))) (.run [6300] [] rfl (zAG rfl 6300 (X := []) en14 rfl (.val nod) (.cons (.one (.bor .v)) .nil) (by decide) all_nil .nil (zBT ((tabN l ev sz i).out.size) (by omega)) rfl rfl (nle rfl)) (.run [] [] rfl (zAi rfl rfl rfl (by first | omega | (simp only [zAY, zAQ]; omega))) (.run [] [] rfl (zAB rfl) (.run [] [] rfl (zAB rfl) (.run [] [] rfl (zAm rfl rfl rfl Tryd.underlying28 Tryd.sizeOf48 rfl (by omega) (zBW he)) (.run [] [] rfl (zA3 rfl rfl Tryd.underlying48 rfl Tryd.sizeOf46 (by decide)) (.run [] [] rfl (zBA rfl rfl Tryd.isAgg46 Tryd.sizeOf46 (nle rfl)) (.run [7000] [] rfl (zAG rfl 7000 (X := []) en16 rfl (.val nod) (.cons (.agg (.cons (.bor .v) (.cons (.bor .v) (.cons (.bor .v) .nil)))) .nil) (by decide) all_nil .nil (zDE e (zCE hen)) rfl rfl (nle rfl)) (.run [7100] [] rfl (zAG rfl 7100 (X := []) en15 rfl (.val nod) (.cons (.one (.bor .v)) .nil) (by decide) all_nil .nil (zBg (keyT e) (by omega)) rfl rfl (nle rfl)) (.run [] [] rfl (zAi rfl rfl rfl (by first | omega | (simp only [zAY, zAQ]; omega))) (.run [] [] rfl (zAD rfl) .nil))))))))))))))) (by kernel_rfl) ?_
       refine zAC ?_
       refine zAU (s' := mk [(0, .p none (.sl false 4 (pvE l))), (3, .ptr 3 0), (6, .p none (.v (.string ((tabN l ev sz i).out)))), (7, .p none (.v (.string ((((tabN l ev sz i).index) ++ (putV ((tabN l ev sz i).out.size))) ++ (putX (keyT e)))))), (9, .p none (.v (.int .i64 (i:Int)))), (10, .p none (.v (.string (blkF (curT l (tabN l ev sz i).start (i + 1)) ev)))), (53, .p none (.v (.int .i64 (i:Int)))), (54, .p none (.v (.int .i64 ((i:Int) + 1)))), (55, .p none (.sl false 4 (pvE l))), (56, .p none (.v (.int .i64 ((pvE l).length : Int)))), (57, .p none (.v (.bool (decide (((i:Int) + 1) < ((pvE l).length : Int))))))] [(3, [.p none (.v (.int .i64 (ev:Int))), .p none (.v (.int .i64 (sz:Int))), .p none (.v (.int .i64 (kd:Int)))])] []) ?_ ?_
       · exact zAK ⟨rfl, ⟨rfl, ⟨rfl, ⟨rfl, ⟨rfl, ⟨rfl, ⟨rfl, ⟨rfl, ⟨rfl, ⟨rfl, ⟨rfl, trivial⟩⟩⟩⟩⟩⟩⟩⟩⟩⟩⟩ ⟨rfl, trivial⟩ trivial rfl
       refine zAA rfl (.run [] [] rfl (zAB rfl) (.run [] [] rfl (zAB rfl) (.run [7500] [] rfl (zAG rfl 7500 (X := []) en17 rfl (.val nod) (.cons (.one (.bor .v)) .nil) (by decide) all_nil .nil (zCL (blkF (curT l (tabN l ev sz i).start (i + 1)) ev) (by omega)) rfl rfl (nle rfl)) (.run [] [] rfl (zAi rfl rfl rfl (by first | omega | (simp only [zAY, zAQ]; omega))) (.run [] [] rfl (zAD rfl) .nil))))) ?_
       refine zAA rfl (.run [] [] rfl (zAB rfl) (.run [] [] rfl (zAX rfl rfl rfl (by omega)) (.run [] [] rfl (zAD rfl) .nil))) ?_
       refine zAA rfl (.run [] [] rfl (zAB rfl) (.run [] [] rfl (zAX rfl rfl rfl (by omega)) (.run [] [] rfl (zAD rfl) .nil))) ?_
       have hF := zCo (ev := ev) (sz := sz) he (fun q => by omega)
       refine nxt (Q := fun _ _ => False) (z := i) (i + 1) ?_ ?_ ?_
       ·
        show (i + 1) ≤ l.length
        omega
       ·
        show l.length - (i + 1) < l.length - i
        omega
       · exact zAK ⟨rfl, ⟨rfl, ⟨(zAz (by rw [hF])), ⟨(zAz (by rw [hF]; exact zEO _ _ _)), ⟨(zAH (by rw [hF]; rfl)), ⟨(zAH (by omega)), trivial⟩⟩⟩⟩⟩⟩ ⟨rfl, trivial⟩ trivial rfl
    ·
     replace h4 := of_decide_eq_false h4
     refine zAk ?_
     refine zAC ?_
     rw [show i = l.length by omega]
     have hTe := zCy (ev := ev) hl hn hsz l.length (Nat.le_refl _)
     refine zAA rfl (.run [] [] rfl (zAB rfl) (.run [8000] [] rfl (zAG rfl 8000 (X := []) en18 rfl (.val nod) (.cons (.one (.bor (.sl nod))) .nil) (by decide) all_nil .nil (zFe l (by assumption)) rfl rfl (nle rfl)) (.run [] [] rfl (zAD rfl) .nil))) ?_
     refine zAC ?_
     refine zAU (s' := mk [(0, .p none (.sl false 4 (pvE l))), (3, .ptr 3 0), (6, .p none (.v (.string ((tabN l ev sz l.length).out)))), (7, .p none (.v (.string ((tabN l ev sz l.length).index)))), (12, .sl 8000 0 ((pvT (zAs l)).length))] [(3, [.p none (.v (.int .i64 (ev:Int))), .p none (.v (.int .i64 (sz:Int))), .p none (.v (.int .i64 (kd:Int)))])] [(8000, 1, pvT (zAs l))]) ?_ ?_
     · exact zAK ⟨rfl, ⟨rfl, ⟨rfl, ⟨rfl, ⟨rfl, trivial⟩⟩⟩⟩⟩ ⟨rfl, trivial⟩ ⟨rfl, trivial⟩ rfl
     refine zAA rfl (.run [] [] rfl (zAB rfl) (.run [] [] rfl (zAE rfl rfl Tryd.underlying30 rfl Tryd.sizeOf2 (by decide)) (.run [] [] rfl (zAF rfl rfl rfl Tryd.isAgg2 rfl) (.run [8000, 8500, 8501, 8502, 8503, 8504] [] rfl (zAG rfl 8500 (X := []) en19 rfl (.val nod) (.cons (.one (.bor (.all (len := (pvT (zAs l)).length) (xs := pvT (zAs l)) rfl rfl (by decide)))) (.cons (.one (.bor .v)) .nil)) (by decide) all_nil .nil (zFg (zAs l) kd (by omega) (by assumption) (by omega)) rfl rfl (nle rfl)) (.run [] [] rfl (zAB rfl) (.run [] [] rfl (zAx rfl rfl rfl) (.run [] [] rfl (zAx rfl rfl rfl) (.run [] [13] rfl (zA7 rfl 13 zCd rfl (by decide) rfl (by decide)) (.run [] [] rfl (zAS rfl rfl rfl rfl rfl Tryd.sizeOf52 rfl (nle rfl)) (.run [] [] rfl (zAD rfl) .nil)))))))))) ?_
     refine zAC ?_
     have hfb := zEJ (us := zAs l) (kd : Int) hul
     have hfs := zDH (zAr (zAs l) (kd : Int))
     have hhs : (hllF (zAs l)).size = 64 := zEC (zDo _ _)
     have hq0 := zAl (n := l.length) (by omega)
     have hq1 := zAl (n := ev) (by omega)
     have hq2 := zAl (n := sz) (by omega)
     have hq3 := zAl (n := kd) (by omega)
     have hsx1 := zCp (s := (tabN l ev sz l.length).index) (by omega)
     have hsx2 := zCp (s := zBs (zAr (zAs l) (kd : Int))) (by omega)
     have hsx3 := zCp (s := zDX l ev sz kd) (by have := zD9 (ev := ev) (sz := sz) (kd := kd) hn (by omega) (by omega) (by omega); omega)
     have hpsz := zD9 (ev := ev) (sz := sz) (kd := kd) hn (by omega) (by omega) (by omega)
     refine zAU (s' := mk [(0, .p none (.sl false 4 (pvE l))), (3, .ptr 3 0), (6, .p none (.v (.string ((tabN l ev sz l.length).out)))), (7, .p none (.v (.string ((tabN l ev sz l.length).index)))), (12, .sl 8000 0 ((pvT (zAs l)).length)), (13, .ptr 13 0)] [(3, [.p none (.v (.int .i64 (ev:Int))), .p none (.v (.int .i64 (sz:Int))), .p none (.v (.int .i64 (kd:Int)))]), (13, [.p none (.v (.int .i64 ((zAr (zAs l) (kd : Int)).kind))), .p none (.v (.int .i64 ((zAr (zAs l) (kd : Int)).seed))), .p none (.v (.int .i64 ((zAr (zAs l) (kd : Int)).probes))), .p none (.v (.string ((zAr (zAs l) (kd : Int)).bits)))])] [(8000, 1, pvT (zAs l))]) ?_ ?_
     · exact zAK ⟨rfl, ⟨rfl, ⟨rfl, ⟨rfl, ⟨rfl, ⟨rfl, trivial⟩⟩⟩⟩⟩⟩ ⟨rfl, ⟨rfl, trivial⟩⟩ ⟨rfl, trivial⟩ rfl
     refine zAf zBj rfl (.run [] [] rfl (zAB rfl) (.run [] [] rfl (zAO (zAa rfl rfl Tryd.underlying28) ((zAH (by omega)))) (.run [] [] rfl (zAO (zAe (k' := .u64) 18446744073709551616 rfl l.length rfl rfl rfl Tryd.underlying3 Tryd.underlying43) ((zAH (show ((l.length % 18446744073709551616 : Nat) : Int) = ((l.length : Nat) : Int) by omega)))) (.run [9100] [] rfl (zAG rfl 9100 (X := []) en14 rfl (.val nod) (.cons (.one (.bor .v)) .nil) (by decide) all_nil .nil (zBT l.length (by omega)) rfl rfl (nle rfl)) (.run [] [] rfl (zAB rfl) (.run [8000, 9300] [] rfl (zAG rfl 9300 (X := []) en20 rfl (.val nod) (.cons (.one (.bor (.all (len := (pvT (zAs l)).length) (xs := pvT (zAs l)) rfl rfl (by decide)))) .nil) (by decide) all_nil .nil (zIJ (zAs l) (by assumption) (by omega)) rfl rfl (nle rfl)) (.run [] [] rfl (zAi rfl rfl rfl (by first | omega | (simp only [zAY, zAQ]; omega))) (.run [] [] rfl (zAE rfl rfl Tryd.underlying30 rfl Tryd.sizeOf2 (by decide)) (.run [] [] rfl (zAF rfl rfl rfl Tryd.isAgg2 rfl) (.run [] [] rfl (zAO (zAe (k' := .u64) 18446744073709551616 rfl ev rfl rfl rfl Tryd.underlying2 Tryd.underlying43) ((zAH (show ((ev % 18446744073709551616 : Nat) : Int) = ((ev : Nat) : Int) by omega)))) (.run [9800] [] rfl (zAG rfl 9800 (X := []) en14 rfl (.val nod) (.cons (.one (.bor .v)) .nil) (by decide) all_nil .nil (zBT ev (by omega)) rfl rfl (nle rfl)) (.run [] [] rfl (zAi rfl rfl rfl (by first | omega | (simp only [zAY, zAQ]; omega))) (.run [] [] rfl (zAE rfl rfl Tryd.underlying30 rfl Tryd.sizeOf2 (by decide)) (.run [] [] rfl (zAF rfl rfl rfl Tryd.isAgg2 rfl) (.run [] [] rfl (zAO (zAe (k' := .u64) 18446744073709551616 rfl sz rfl rfl rfl Tryd.underlying2 Tryd.underlying43) ((zAH (show ((sz % 18446744073709551616 : Nat) : Int) = ((sz : Nat) : Int) by omega)))) (.run [10300] [] rfl (zAG rfl 10300 (X := []) en14 rfl (.val nod) (.cons (.one (.bor .v)) .nil) (by decide) all_nil .nil (zBT sz (by omega)) rfl rfl (nle rfl)) (.run [] [] rfl (zAi rfl rfl rfl (by first | omega | (simp only [zAY, zAQ]; omega))) (.run [] [] rfl (zAE rfl rfl Tryd.underlying30 rfl Tryd.sizeOf2 (by decide)) (.run [] [] rfl (zAF rfl rfl rfl Tryd.isAgg2 rfl) (.run [] [] rfl (zAO (zAe (k' := .u64) 18446744073709551616 rfl kd rfl rfl rfl Tryd.underlying2 Tryd.underlying43) ((zAH (show ((kd % 18446744073709551616 : Nat) : Int) = ((kd : Nat) : Int) by omega)))) (.run [10800] [] rfl (zAG rfl 10800 (X := []) en14 rfl (.val nod) (.cons (.one (.bor .v)) .nil) (by decide) all_nil .nil (zBT kd (by omega)) rfl rfl (nle rfl)) (.run [] [] rfl (zAi rfl rfl rfl (by first | omega | (simp only [zAY, zAQ]; omega))) (.run [] [] rfl (zAD rfl) .nil))))))))))))))))))))))) (by kernel_rfl) ?_
     refine zAC ?_
     refine zAU (s' := mk [(6, .p none (.v (.string ((tabN l ev sz l.length).out)))), (7, .p none (.v (.string ((tabN l ev sz l.length).index)))), (13, .ptr 13 0), (15, .p none (.v (.string (zDX l ev sz kd))))] [(13, [.p none (.v (.int .i64 ((zAr (zAs l) (kd : Int)).kind))), .p none (.v (.int .i64 ((zAr (zAs l) (kd : Int)).seed))), .p none (.v (.int .i64 ((zAr (zAs l) (kd : Int)).probes))), .p none (.v (.string ((zAr (zAs l) (kd : Int)).bits)))])] []) ?_ ?_
     · exact zAK ⟨rfl, ⟨rfl, ⟨rfl, ⟨(zAz rfl), trivial⟩⟩⟩⟩ ⟨rfl, trivial⟩ trivial rfl
     refine zAA rfl (.run [] [] rfl (zAB rfl) (.run [] [] rfl (zAR rfl rfl Tryd.underlying9) (.run [] [] rfl (zAe (k' := .u32) 4294967296 rfl (((tabN l ev sz l.length).out).size) rfl rfl rfl Tryd.underlying3 Tryd.underlying57) (.run [11300] [] rfl (zAG rfl 11300 (X := []) en21 rfl (.val nod) (.cons (.one (.bor .v)) .nil) (by decide) all_nil .nil (zBQ ((((tabN l ev sz l.length).out).size) % 4294967296)) rfl rfl (nle rfl)) (.run [] [] rfl (zAD rfl) .nil))))) ?_
     refine zAC ?_
     refine zAA rfl (.run [] [] rfl (zAB rfl) (.run [] [] rfl (zAB rfl) (.run [11600] [] rfl (zAG rfl 11600 (X := []) en17 rfl (.val nod) (.cons (.one (.bor .v)) .nil) (by decide) all_nil .nil (zCL ((tabN l ev sz l.length).index) (by omega)) rfl rfl (nle rfl)) (.run [] [] rfl (zAi rfl rfl rfl (by first | omega | (simp only [zAY, zAQ]; omega))) (.run [] [] rfl (zAD rfl) .nil))))) ?_
     refine zAC ?_
     refine zAU (s' := mk [(6, .p none (.v (.string (((tabN l ev sz l.length).out) ++ (secF ((tabN l ev sz l.length).index)))))), (13, .ptr 13 0), (15, .p none (.v (.string (zDX l ev sz kd)))), (16, .p none (.v (.string (fixV ((((tabN l ev sz l.length).out).size) % 4294967296)))))] [(13, [.p none (.v (.int .i64 ((zAr (zAs l) (kd : Int)).kind))), .p none (.v (.int .i64 ((zAr (zAs l) (kd : Int)).seed))), .p none (.v (.int .i64 ((zAr (zAs l) (kd : Int)).probes))), .p none (.v (.string ((zAr (zAs l) (kd : Int)).bits)))])] []) ?_ ?_
     · exact zAK ⟨rfl, ⟨rfl, ⟨rfl, ⟨rfl, trivial⟩⟩⟩⟩ ⟨rfl, trivial⟩ trivial rfl
     refine zAA rfl (.run [] [] rfl (zAB rfl) (.run [] [] rfl (zAB rfl) (.run [] [] rfl (zAR rfl rfl Tryd.underlying9) (.run [] [] rfl (zAe (k' := .u32) 4294967296 rfl ((((tabN l ev sz l.length).out) ++ (secF ((tabN l ev sz l.length).index))).size) rfl rfl rfl Tryd.underlying3 Tryd.underlying57) (.run [12200] [] rfl (zAG rfl 12200 (X := []) en21 rfl (.val nod) (.cons (.one (.bor .v)) .nil) (by decide) all_nil .nil (zBQ (((((tabN l ev sz l.length).out) ++ (secF ((tabN l ev sz l.length).index))).size) % 4294967296)) rfl rfl (nle rfl)) (.run [] [] rfl (zAi rfl rfl rfl (by first | omega | (simp only [zAY, zAQ]; omega))) (.run [] [] rfl (zAD rfl) .nil))))))) ?_
     refine zAC ?_
     refine zAA rfl (.run [] [] rfl (zAB rfl) (.run [] [] rfl (zAV rfl rfl rfl Tryd.isAgg52 Tryd.sizeOf52 (nle rfl)) (.run [12600] [] rfl (zAG rfl 12600 (X := []) en22 rfl (.val nod) (.cons (.agg (.cons (.bor .v) (.cons (.bor .v) (.cons (.bor .v) (.cons (.bor .v) .nil))))) .nil) (by decide) all_nil .nil (zEc (zAr (zAs l) (kd : Int)) (by omega)) rfl rfl (nle rfl)) (.run [12700] [] rfl (zAG rfl 12700 (X := []) en17 rfl (.val nod) (.cons (.one (.bor .v)) .nil) (by decide) all_nil .nil (zCL (zBs (zAr (zAs l) (kd : Int))) (by omega)) rfl rfl (nle rfl)) (.run [] [] rfl (zAi rfl rfl rfl (by first | omega | (simp only [zAY, zAQ]; omega))) (.run [] [] rfl (zAD rfl) .nil)))))) ?_
     refine zAC ?_
     refine zAU (s' := mk [(6, .p none (.v (.string ((((tabN l ev sz l.length).out) ++ (secF ((tabN l ev sz l.length).index))) ++ (secF (zBs (zAr (zAs l) (kd : Int)))))))), (15, .p none (.v (.string (zDX l ev sz kd)))), (16, .p none (.v (.string ((fixV ((((tabN l ev sz l.length).out).size) % 4294967296)) ++ (fixV (((((tabN l ev sz l.length).out) ++ (secF ((tabN l ev sz l.length).index))).size) % 4294967296))))))] [] []) ?_ ?_
     · exact zAK ⟨rfl, ⟨rfl, ⟨rfl, trivial⟩⟩⟩ trivial trivial rfl
     refine zAA rfl (.run [] [] rfl (zAB rfl) (.run [] [] rfl (zAB rfl) (.run [] [] rfl (zAR rfl rfl Tryd.underlying9) (.run [] [] rfl (zAe (k' := .u32) 4294967296 rfl (((((tabN l ev sz l.length).out) ++ (secF ((tabN l ev sz l.length).index))) ++ (secF (zBs (zAr (zAs l) (kd : Int))))).size) rfl rfl rfl Tryd.underlying3 Tryd.underlying57) (.run [13300] [] rfl (zAG rfl 13300 (X := []) en21 rfl (.val nod) (.cons (.one (.bor .v)) .nil) (by decide) all_nil .nil (zBQ ((((((tabN l ev sz l.length).out) ++ (secF ((tabN l ev sz l.length).index))) ++ (secF (zBs (zAr (zAs l) (kd : Int))))).size) % 4294967296)) rfl rfl (nle rfl)) (.run [] [] rfl (zAi rfl rfl rfl (by first | omega | (simp only [zAY, zAQ]; omega))) (.run [] [] rfl (zAD rfl) .nil))))))) ?_
     refine zAC ?_
     refine zAA rfl (.run [] [] rfl (zAB rfl) (.run [] [] rfl (zAB rfl) (.run [13700] [] rfl (zAG rfl 13700 (X := []) en17 rfl (.val nod) (.cons (.one (.bor .v)) .nil) (by decide) all_nil .nil (zCL (zDX l ev sz kd) (by omega)) rfl rfl (nle rfl)) (.run [] [] rfl (zAi rfl rfl rfl (by first | omega | (simp only [zAY, zAQ]; omega))) (.run [] [] rfl (zAD rfl) .nil))))) ?_
     refine zAC ?_
     refine zAU (s' := mk [(6, .p none (.v (.string (((((tabN l ev sz l.length).out) ++ (secF ((tabN l ev sz l.length).index))) ++ (secF (zBs (zAr (zAs l) (kd : Int))))) ++ (secF (zDX l ev sz kd)))))), (16, .p none (.v (.string (((fixV ((((tabN l ev sz l.length).out).size) % 4294967296)) ++ (fixV (((((tabN l ev sz l.length).out) ++ (secF ((tabN l ev sz l.length).index))).size) % 4294967296))) ++ (fixV ((((((tabN l ev sz l.length).out) ++ (secF ((tabN l ev sz l.length).index))) ++ (secF (zBs (zAr (zAs l) (kd : Int))))).size) % 4294967296))))))] [] []) ?_ ?_
     · exact zAK ⟨rfl, ⟨rfl, trivial⟩⟩ trivial trivial rfl
     refine zAA rfl (.run [] [] rfl (zAB rfl) (.run [] [] rfl (zAB rfl) (.run [] [] rfl (zAi rfl rfl rfl (by first | omega | (simp only [zAY, zAQ]; omega))) (.run [14200] [] rfl (zAG rfl 14200 (X := []) en21 rfl (.val nod) (.cons (.one (.bor .v)) .nil) (by decide) all_nil .nil (zBQ 1279478321) rfl rfl (nle rfl)) (.run [] [] rfl (zAi rfl rfl rfl (by first | omega | (simp only [zAY, zAQ]; omega))) (.run [] [] rfl (zAD rfl) .nil)))))) ?_
     refine zAC ?_
     refine zAC ?_
     refine zAU (s' := mk [(6, .p none (.v (.string (zDB l ev sz kd))))] [] []) ?_ ?_
     · exact zAK ⟨(zAz rfl), trivial⟩ trivial trivial rfl
     refine zAA rfl (.run [] [] rfl (zAB rfl) (.run [] [] rfl (zAR rfl rfl Tryd.underlying9) (.run [] [] rfl (zBy rfl rfl rfl) .nil))) ?_
     refine zAW (t := decide (60000 < ((zDB l ev sz kd).size : Int))) rfl (fun h7 => ?_) (fun h7 => ?_)
     ·
      replace h7 := of_decide_eq_true h7
      refine zAC ?_
      have hZ : zBu l (⟨(ev : Int), (sz : Int), (kd : Int)⟩ : Shp) = none := zFA (show 60000 < (zDB l ev sz kd).size by omega)
      rw [hZ]
      refine zAA rfl (.run [] [] rfl (zAD rfl) (.run [] [] rfl (zAD rfl) .nil)) ?_
      refine zAL ?_
      exact ends [_, _] [] (.cons (.tmp rfl) (.cons (.tmp rfl) .nil)) (.cons (.one .v (.v _)) (.cons (.one .v (.v _)) .nil)) (by decide) trivial
     ·
      replace h7 := of_decide_eq_false h7
      refine zAJ ?_
      refine zAC ?_
      have hZ : zBu l (⟨(ev : Int), (sz : Int), (kd : Int)⟩ : Shp) = some (zDB l ev sz kd) := zE9 hok (by omega) hsk (show (zDB l ev sz kd).size ≤ 60000 by omega)
      rw [hZ]
      refine zAA rfl (.run [] [] rfl (zAB rfl) (.run [] [] rfl (zAD rfl) (.run [] [] rfl (zAD rfl) .nil))) ?_
      refine zAL ?_
      exact ends [_, _] [] (.cons (.tmp rfl) (.cons (.tmp rfl) .nil)) (.cons (.one .v (.v _)) (.cons (.one .v (.v _)) .nil)) (by decide) trivial
  ·
   have h2' := h2
   replace h2' := of_decide_eq_true h2'
   refine zAA rfl (.run [] [] rfl (zAB rfl) (.run [1800] [] rfl (zAG rfl 1800 (X := []) en11 rfl (.val nod) (.cons (.one (.bor (.sl nod))) .nil) (by decide) all_nil .nil (zBe l (by omega)) rfl rfl (nle rfl)) (.run [] [] rfl (zAO (zA1 (b := zBD l) rfl rfl) (zAI h1)) (.run [] [] rfl (zAB rfl) (.run [] [] rfl (zAB rfl) (.run [] [] rfl (zAa rfl rfl Tryd.underlying28) (.run [] [] rfl (zAO (zA6 rfl rfl rfl) (zAI h2)) (.run [] [] rfl (zBR rfl rfl) (.run [] [] rfl (zAB rfl) (.not rfl (.not rfl (.not rfl (.run [] [] rfl (zBZ rfl rfl) .nil))))))))))))) ?_
   refine zAW (t := true) rfl (fun _ => ?_) (fun h => nomatch h)
   refine zAC ?_
   have hZ := zCn (l := l) (p := (⟨pe, ps, pk⟩ : Shp)) (.inr (.inl (by omega)))
   rw [hZ]
   refine zAU (s' := mk [] [] []) ?_ ?_
   · exact zAK trivial trivial trivial rfl
   refine zAA rfl (.run [] [] rfl (zAD rfl) (.run [] [] rfl (zAD rfl) .nil)) ?_
   refine zAL ?_
   exact ends [_, _] [] (.cons (.tmp rfl) (.cons (.tmp rfl) .nil)) (.cons (.one .v (.v _)) (.cons (.one .v (.v _)) .nil)) (by decide) trivial
 ·
  have h1' := h1
  replace h1' : (zBD l) = false := zA4 h1'
  refine zAA rfl (.run [] [] rfl (zAB rfl) (.run [1800] [] rfl (zAG rfl 1800 (X := []) en11 rfl (.val nod) (.cons (.one (.bor (.sl nod))) .nil) (by decide) all_nil .nil (zBe l (by omega)) rfl rfl (nle rfl)) (.run [] [] rfl (zAO (zA1 (b := zBD l) rfl rfl) (zAI h1)) (.run [] [] rfl (zAB rfl) (.not rfl (.not rfl (.not rfl (.run [] [] rfl (zBZ rfl rfl) (.run [] [] rfl (zAB rfl) (.not rfl (.not rfl (.not rfl (.run [] [] rfl (zBZ rfl rfl) .nil))))))))))))) ?_
  refine zAW (t := true) rfl (fun _ => ?_) (fun h => nomatch h)
  refine zAC ?_
  have hZ := zCn (l := l) (p := (⟨pe, ps, pk⟩ : Shp)) (.inl h1')
  rw [hZ]
  refine zAU (s' := mk [] [] []) ?_ ?_
  · exact zAK trivial trivial trivial rfl
  refine zAA rfl (.run [] [] rfl (zAD rfl) (.run [] [] rfl (zAD rfl) .nil)) ?_
  refine zAL ?_
  exact ends [_, _] [] (.cons (.tmp rfl) (.cons (.tmp rfl) .nil)) (.cons (.one .v (.v _)) (.cons (.one .v (.v _)) .nil)) (by decide) trivial
end Go.Rl
namespace Go.Rl
open Go.Proofs
theorem en4 : ∀ vs w, (callFunc 4 vs).run Tryd.prog w = .ok (.enter 4 vs) w := zAn Tryd.func4 (by decide) rfl
theorem en6 : ∀ vs w, (callFunc 6 vs).run Tryd.prog w = .ok (.enter 6 vs) w := zAn Tryd.func6 (by decide) rfl
theorem en7 : ∀ vs w, (callFunc 7 vs).run Tryd.prog w = .ok (.enter 7 vs) w := zAn Tryd.func7 (by decide) rfl
theorem en5 : ∀ vs w, (callFunc 5 vs).run Tryd.prog w = .ok (.enter 5 vs) w := zAn Tryd.func5 (by decide) rfl
theorem en8 : ∀ vs w, (callFunc 8 vs).run Tryd.prog w = .ok (.enter 8 vs) w := zAn Tryd.func8 (by decide) rfl
theorem en9 : ∀ vs w, (callFunc 9 vs).run Tryd.prog w = .ok (.enter 9 vs) w := zAn Tryd.func9 (by decide) rfl
theorem zKA {es : List PV} (h : Fits [.int .i64, .int .i64, .int .i64] es) : ∃ a b c : Int, es = [.v (.int .i64 a), .v (.int .i64 b), .v (.int .i64 c)] := by
 obtain ⟨p0, e0, rfl, f0, h⟩ := zCD h
 obtain ⟨p1, e1, rfl, f1, h⟩ := zCD h
 obtain ⟨p2, e2, rfl, f2, h⟩ := zCD h
 obtain rfl := zFx h
 obtain ⟨a, rfl, _⟩ := zEv f0
 obtain ⟨b, rfl, _⟩ := zEv f1
 obtain ⟨c, rfl, _⟩ := zEv f2
 exact ⟨a, b, c, rfl⟩
set_option maxRecDepth 1000000 in
set_option maxHeartbeats 2000000 in
theorem zEq {γ : Gho} (ht : TabG γ) (l : List Ent) (pe ps pk : Int) (hl : l.length ≤ 9223372036854775807) (hn : ∀ e ∈ l, e.user.size ≤ 9223372036854775807 ∧ e.value.size ≤ 9223372036854775807) : ConG γ Tryd.prog 3 [.one (PV.sl false 4 (pvE l)), .agg [PV.v (.int .i64 pe), PV.v (.int .i64 ps), PV.v (.int .i64 pk)]] [] [.one (.v (.bool true))] := by
 refine zAP Tryd.func3 rfl rfl rfl rfl ?_
 have hle := zAc l
 refine zAC ?_
 refine zAA rfl (.run [] [3] rfl (zBa rfl 3 rfl rfl (by decide) rfl (by decide)) (.run [] [] rfl (zAD rfl) .nil)) ?_
 refine zAC ?_
 refine zAA rfl (.run [] [] rfl (zAD rfl) .nil) ?_
 refine zAC ?_
 refine zAA rfl (.run [] [] rfl (zAB rfl) (.run [] [] rfl (zAB rfl) (.run [1300] [] rfl (zAG rfl 1300 (X := []) en4 rfl (.val nod) (.cons (.one (.bor (.sl nod))) (.cons (.one (.bor .v)) .nil)) (by decide) all_nil .nil (zGC l 1048576 (by omega) hl hn) rfl rfl (nle rfl)) (.run [] [] rfl (zAD rfl) .nil)))) ?_
 refine zAC ?_
 refine zAC ?_
 refine zAA rfl (.run [] [] rfl (zAB rfl) (.run [] [] rfl (zAu rfl rfl rfl) .nil)) ?_
 refine zAW (t := decide ((szS wE l 1048576) < 0)) rfl (fun h1 => ?_) (fun h1 => ?_)
 ·
  replace h1 := of_decide_eq_true h1
  refine zAC ?_
  refine zAA rfl (.run [] [] rfl (zAD rfl) .nil) ?_
  refine zAL ?_
  exact ends [_] [] (.cons (.tmp rfl) .nil) (.cons (.one .v (.v _)) .nil) (by decide) trivial
 ·
  replace h1 := of_decide_eq_false h1
  refine zAJ ?_
  refine zAC ?_
  have hl2 := gsz_len h1
  refine zAU (s' := mk [(0, .p none (.sl false 4 (pvE l))), (3, .ptr 3 0)] [(3, [.p none (.v (.int .i64 pe)), .p none (.v (.int .i64 ps)), .p none (.v (.int .i64 pk))])] []) ?_ ?_
  · exact zAK ⟨rfl, ⟨rfl, trivial⟩⟩ ⟨rfl, trivial⟩ trivial rfl
  refine zAf zBj rfl (.run [] [] rfl (zAB rfl) (.run [1800] [] rfl (zAG rfl 1800 (X := []) en6 rfl (.val nod) (.cons (.one (.bor (.sl nod))) .nil) (by decide) all_nil .nil (zDA l (by omega)) rfl rfl (nle rfl)) (.run [] [] rfl (zAV rfl rfl rfl Tryd.isAgg24 Tryd.sizeOf24 (nle rfl)) (.run [2000, 2001, 2002] [] rfl (zAG rfl 2000 (X := []) en7 rfl (.val nod) (.cons (.agg (.cons (.bor .v) (.cons (.bor .v) (.cons (.bor .v) .nil)))) .nil) (by decide) all_nil .nil (zEX (⟨pe, ps, pk⟩ : Shp)) rfl rfl (nle rfl)) (.run [1800, 2100, 2101] [] rfl (zAG rfl 2100 (X := []) en5 rfl (.val nod) (.cons (.one (.bor (.all (len := (pvE l).length) (xs := pvE l) rfl rfl (by decide)))) (.cons (.agg (.cons (.bor .v) (.cons (.bor .v) (.cons (.bor .v) .nil)))) .nil)) (by decide) all_nil .nil (zGI l pe ps pk (by omega)) rfl rfl (nle rfl)) (.run [] [] rfl (zAB rfl) (.run [] [] rfl (zAx rfl rfl rfl) (.run [] [] rfl (zAx rfl rfl rfl) (.run [] [] rfl (zAD rfl) (.run [] [] rfl (zAD rfl) .nil)))))))))) (by kernel_rfl) ?_
  refine zAC ?_
  refine zAA rfl (.run [] [] rfl (zAB rfl) (.run [2500] [] rfl (zAG rfl 2500 (X := []) en6 rfl (.val nod) (.cons (.one (.bor (.sl nod))) .nil) (by decide) all_nil .nil (zDA l (by omega)) rfl rfl (nle rfl)) (.run [] [] rfl (zAD rfl) .nil))) ?_
  refine zAC ?_
  refine zAU (s' := mk [(0, .p none (.sl false 4 (pvE l))), (3, .ptr 3 0), (6, .p none (.v (.string ((zBu l ⟨pe, ps, pk⟩).getD ⟨#[]⟩)))), (7, .p none (.v (.bool ((zBu l ⟨pe, ps, pk⟩).isSome)))), (8, .sl 2500 0 ((pvE l).length))] [(3, [.p none (.v (.int .i64 pe)), .p none (.v (.int .i64 ps)), .p none (.v (.int .i64 pk))])] [(2500, 4, pvE l)]) ?_ ?_
  · exact zAK ⟨rfl, ⟨rfl, ⟨rfl, ⟨rfl, ⟨rfl, trivial⟩⟩⟩⟩⟩ ⟨rfl, trivial⟩ ⟨rfl, trivial⟩ rfl
  refine zAA rfl (.run [] [] rfl (zAB rfl) (.run [] [] rfl (zAV rfl rfl rfl Tryd.isAgg24 Tryd.sizeOf24 (nle rfl)) (.run [2900, 2901, 2902] [] rfl (zAG rfl 2900 (X := []) en7 rfl (.val nod) (.cons (.agg (.cons (.bor .v) (.cons (.bor .v) (.cons (.bor .v) .nil)))) .nil) (by decide) all_nil .nil (zEX (⟨pe, ps, pk⟩ : Shp)) rfl rfl (nle rfl)) (.run [2500, 3000, 3001] [] rfl (zDM (.inr rfl) rfl 3000 (X := []) en8 rfl (.val nod) (.cons (.one (.bor (.all (len := (pvE l).length) (xs := pvE l) rfl rfl (by decide)))) (.cons (.agg (.cons (.bor .v) (.cons (.bor .v) (.cons (.bor .v) .nil)))) .nil)) (by decide) all_nil .nil (zG1 ht l pe ps pk (by omega)) rfl rfl (nle rfl)) (.run [] [] rfl (zAB rfl) (.run [] [] rfl (zAx rfl rfl rfl) (.run [] [] rfl (zAx rfl rfl rfl) (.run [] [] rfl (zAD rfl) (.run [] [] rfl (zAD rfl) .nil))))))))) ?_
  refine zAC ?_
  refine zAC ?_
  refine zAU (s' := mk [(0, .p none (.sl false 4 (pvE l))), (6, .p none (.v (.string ((zBu l ⟨pe, ps, pk⟩).getD ⟨#[]⟩)))), (7, .p none (.v (.bool ((zBu l ⟨pe, ps, pk⟩).isSome)))), (8, .sl 2500 0 ((pvE l).length)), (9, .p none (.v (.string ((zBu l ⟨pe, ps, pk⟩).getD ⟨#[]⟩)))), (10, .p none (.v (.bool ((zBu l ⟨pe, ps, pk⟩).isSome))))] [] [(2500, 4, pvE l)]) ?_ ?_
  · exact zAK ⟨rfl, ⟨rfl, ⟨rfl, ⟨rfl, ⟨rfl, ⟨rfl, trivial⟩⟩⟩⟩⟩⟩ trivial ⟨rfl, trivial⟩ rfl
  refine zAA rfl (.run [] [] rfl (zAB rfl) (.run [] [] rfl (zAB rfl) (.run [] [] rfl (zAO (zD5 rfl rfl rfl) (zAI (congrArg Bool.not (decide_eq_true (by simp))))) (.run [] [] rfl (zAB rfl) (.run [] [] rfl (zAB rfl) (.run [] [] rfl (zAB rfl) (.run [] [] rfl (zAO (st_bneq rfl rfl rfl Tryd.underlying4) (zAI (show (!(((zBu l ⟨pe, ps, pk⟩).isSome) == ((zBu l ⟨pe, ps, pk⟩).isSome))) = false from by simp))) (.run [] [] rfl (zBR rfl rfl) .nil)))))))) ?_
  refine zAW (t := false) rfl (fun h => nomatch h) (fun _ => ?_)
  refine zAJ ?_
  refine zAC ?_
  refine zAC ?_
  refine zAA rfl (.run [] [] rfl (zAB rfl) (.run [] [] rfl (zAB rfl) (.run [4300] [] rfl (zAG rfl 4300 (X := []) en6 rfl (.val nod) (.cons (.one (.bor (.sl nod))) .nil) (by decide) all_nil .nil (zDA l (by omega)) rfl rfl (nle rfl)) (.run [2500, 4300, 4400] [] rfl (zAG rfl 4400 (X := []) en9 rfl (.val nod) (.cons (.one (.bor (.all (len := (pvE l).length) (xs := pvE l) rfl rfl (by decide)))) (.cons (.one (.bor (.all (len := (pvE l).length) (xs := pvE l) rfl rfl (by decide)))) .nil)) (by decide) all_nil .nil (zKT l (by omega)) rfl rfl (nle rfl)) (.run [] [] rfl (zA1 (b := true) rfl rfl) .nil))))) ?_
  refine zAW (t := false) rfl (fun h => nomatch h) (fun _ => ?_)
  refine zAJ ?_
  refine zAC ?_
  refine zAA rfl (.run [] [] rfl (zAD rfl) .nil) ?_
  refine zAL ?_
  exact ends [_] [] (.cons (.tmp rfl) .nil) (.cons (.one .v (.v _)) .nil) (by decide) trivial
end Go.Rl

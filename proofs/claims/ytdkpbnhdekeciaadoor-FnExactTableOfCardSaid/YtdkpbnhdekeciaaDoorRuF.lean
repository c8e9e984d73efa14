/- Promises of functions, proved by walks over their operations; no conditions beyond those that each theorem states. -/
import Derived.Test.YtdkpbnhdekeciaaDoorRuB
import Derived.Test.YtdkpbnhdekeciaaDoorRlT
set_option linter.unusedSimpArgs false
set_option linter.unusedVariables false
namespace Go.Rl
open Go.Proofs
theorem zEW {l : List Ent} {i : Nat} {e : Ent} (h : l[i]? = some e) : (l.map (·.user))[i]? = some e.user := by simp [h]
theorem zIa {l : List Ent} {i : Nat} {e : Ent} (he : l[i]? = some e) (h : i = 0) : zAN (l.map (·.user)) (i + 1) = zAN (l.map (·.user)) i ++ [e.user] := by rw [zAN, zEW he]; simp [h]
theorem zJo {l : List Ent} {i : Nat} {x e : Ent} (hx : l[i - 1]? = some x) (he : l[i]? = some e) (h : ¬ x.user = e.user) : zAN (l.map (·.user)) (i + 1) = zAN (l.map (·.user)) i ++ [e.user] := by rw [zAN, zEW he]; simp only []; rw [if_neg (fun q => h (by have := q.2; rw [zEW hx] at this; exact Option.some.inj this))]
theorem zHZ {l : List Ent} {i : Nat} {x e : Ent} (h0 : 0 < i) (hx : l[i - 1]? = some x) (he : l[i]? = some e) (h : x.user = e.user) : zAN (l.map (·.user)) (i + 1) = zAN (l.map (·.user)) i := zCM (by omega) (zEW hx) (zEW he) h.symm
theorem zGP (l : List ByteArray) (x : ByteArray) : pvT l ++ [[PV.v (.string x)]] = pvT (l ++ [x]) := by simp [pvT]
set_option maxRecDepth 1000000 in
set_option maxHeartbeats 2000000 in
theorem zCx (us : List ByteArray) (hu : ∀ u ∈ us, zBI u = true) (hn : us.length ≤ 400) : Con Tryd.prog 68 [.one (PV.sl false 1 (pvT us))] [] [.one (.v (.bool true))] := by
 refine zAP Tryd.func68 rfl rfl rfl rfl ?_
 have hle := zAg us
 refine zAC ?_
 refine zAA rfl (.run [] [] rfl (zAD rfl) .nil) ?_
 refine zAC ?_
 refine zAC ?_
 refine zAA rfl (.run [] [] rfl (zAB rfl) (.run [] [] rfl (zAa rfl rfl Tryd.underlying49) (.run [] [] rfl (zBy rfl rfl rfl) .nil))) ?_
 refine zAW (t := decide (400 < ((pvT us).length : Int))) rfl (fun h1 => ?_) (fun h1 => ?_)
 ·
  replace h1 := of_decide_eq_true h1
  omega
 ·
  replace h1 := of_decide_eq_false h1
  refine zAJ ?_
  refine zAC ?_
  refine zAC ?_
  refine zAA rfl (.run [] [] rfl (zAB rfl) (.run [] [] rfl (zAa rfl rfl Tryd.underlying49) (.run [] [] rfl (zAB rfl) .nil))) ?_
  refine zAM ?_
  refine zAj (σ := Nat) (fun i => mk [(8, .p none (.sl false 1 (pvT us))), (9, .p none (.v (.int .i64 ((pvT us).length : Int)))), (10, .p none (.v (.int .i64 (i:Int))))] [] []) (fun i => i ≤ us.length) (fun i => us.length - i) 0 (by simp) (zAK ⟨rfl, ⟨rfl, ⟨(zAH (by omega)), trivial⟩⟩⟩ trivial trivial rfl) ?_
  rintro i hG
  replace hG : i ≤ us.length := hG
  refine zAC ?_
  refine zAA rfl (.run [] [] rfl (zAu rfl rfl rfl) .nil) ?_
  refine zAC ?_
  refine zAW (t := decide ((i:Int) < ((pvT us).length : Int))) rfl (fun h2 => ?_) (fun h2 => ?_)
  ·
   replace h2 := of_decide_eq_true h2
   refine zAJ ?_
   refine zAC ?_
   refine zAM ?_
   refine zAC ?_
   obtain ⟨e, he⟩ : ∃ e, us[i]? = some e := ⟨_, List.getElem?_eq_getElem (by (have hL := zAg us; omega))⟩
   have hlte := (List.getElem?_eq_some_iff.1 he).1
   refine zAA rfl (.run [] [] rfl (zAm rfl rfl rfl Tryd.underlying49 Tryd.sizeOf9 rfl (by omega) (zB3 he)) (.run [] [] rfl (zA2 rfl rfl Tryd.isAgg9 rfl) (.run [] [] rfl (zAD rfl) .nil))) ?_
   refine zAC ?_
   refine zAA rfl (.run [] [] rfl (zAB rfl) (.run [1500] [] rfl (zAG rfl 1500 (X := []) en73 rfl (.val nod) (.cons (.one (.bor .v)) .nil) (by decide) all_nil .nil (zCt e) rfl rfl (nle rfl)) (.run [] [] rfl (zA1 (b := zBI e) rfl rfl) .nil))) ?_
   refine zAW (t := (!(zBI e))) rfl (fun h3 => ?_) (fun h3 => ?_)
   ·
    replace h3 : (zBI e) = false := zA4 h3
    rw [hu _ (List.mem_of_getElem? he)] at h3; cases h3
   ·
    replace h3 : (zBI e) = true := zA5 h3
    refine zAJ ?_
    refine zAA rfl (.run [] [] rfl (zAX rfl rfl rfl (by omega)) (.run [] [] rfl (zAB rfl) .nil)) ?_
    refine nxt (Q := fun _ _ => False) (z := i) (i + 1) ?_ ?_ ?_
    ·
     show (i + 1) ≤ us.length
     omega
    ·
     show us.length - (i + 1) < us.length - i
     omega
    · exact zAK ⟨rfl, ⟨rfl, ⟨(zAH (by omega)), trivial⟩⟩⟩ trivial trivial rfl
  ·
   replace h2 := of_decide_eq_false h2
   refine zAk ?_
   refine zAC ?_
   refine zAA rfl (.run [] [] rfl (zAD rfl) .nil) ?_
   refine zAL ?_
   exact ends [_] [] (.cons (.tmp rfl) .nil) (.cons (.one .v (.v _)) .nil) (by decide) trivial
set_option maxRecDepth 1000000 in
set_option maxHeartbeats 2000000 in
theorem zCh (us : List ByteArray) (hu : ∀ u ∈ us, zBI u = true) (hn : us.length ≤ 400) : Con Tryd.prog 35 [.one (PV.sl false 1 (pvT us))] [] [.one (.v (.bool true))] := by
 refine zAP Tryd.func35 rfl rfl rfl rfl ?_
 have hle := zAg us
 refine zAC ?_
 refine zAA rfl (.run [] [] rfl (zAD rfl) .nil) ?_
 refine zAC ?_
 refine zAC ?_
 refine zAA rfl (.run [] [] rfl (zAB rfl) (.run [] [] rfl (zAa rfl rfl Tryd.underlying49) (.run [] [] rfl (zBy rfl rfl rfl) .nil))) ?_
 refine zAW (t := decide (400 < ((pvT us).length : Int))) rfl (fun h1 => ?_) (fun h1 => ?_)
 ·
  replace h1 := of_decide_eq_true h1
  omega
 ·
  replace h1 := of_decide_eq_false h1
  refine zAJ ?_
  refine zAC ?_
  refine zAC ?_
  refine zAA rfl (.run [] [] rfl (zAD rfl) .nil) ?_
  refine zAM ?_
  refine zAj (σ := Nat) (fun i => mk [(0, .p none (.sl false 1 (pvT us))), (3, .p none (.v (.int .i64 (i:Int))))] [] []) (fun i => i ≤ us.length) (fun i => us.length - i) 0 (by simp) (zAK ⟨rfl, ⟨(zAH (by omega)), trivial⟩⟩ trivial trivial rfl) ?_
  rintro i hG
  replace hG : i ≤ us.length := hG
  refine zAC ?_
  refine zAC ?_
  refine zAA rfl (.run [] [] rfl (zAB rfl) (.run [] [] rfl (zAB rfl) (.run [] [] rfl (zAa rfl rfl Tryd.underlying49) (.run [] [] rfl (zAu rfl rfl rfl) .nil)))) ?_
  refine zAW (t := decide ((i:Int) < ((pvT us).length : Int))) rfl (fun h2 => ?_) (fun h2 => ?_)
  ·
   replace h2 := of_decide_eq_true h2
   refine zAJ ?_
   refine zAC ?_
   refine zAM ?_
   refine zAC ?_
   obtain ⟨e, he⟩ : ∃ e, us[i]? = some e := ⟨_, List.getElem?_eq_getElem (by (have hL := zAg us; omega))⟩
   have hlte := (List.getElem?_eq_some_iff.1 he).1
   refine zAA rfl (.run [] [] rfl (zAB rfl) (.run [] [] rfl (zAB rfl) (.run [] [] rfl (zAm rfl rfl rfl Tryd.underlying49 Tryd.sizeOf9 rfl (by omega) (zB3 he)) (.run [] [] rfl (zA2 rfl rfl Tryd.isAgg9 rfl) (.run [1700] [] rfl (zAG rfl 1700 (X := []) en55 rfl (.val nod) (.cons (.one (.bor .v)) .nil) (by decide) all_nil .nil (zCr e) rfl rfl (nle rfl)) (.run [] [] rfl (zA1 (b := zBI e) rfl rfl) .nil)))))) ?_
   refine zAW (t := (!(zBI e))) rfl (fun h3 => ?_) (fun h3 => ?_)
   ·
    replace h3 : (zBI e) = false := zA4 h3
    rw [hu _ (List.mem_of_getElem? he)] at h3; cases h3
   ·
    replace h3 : (zBI e) = true := zA5 h3
    refine zAJ ?_
    refine zAA rfl (.run [] [] rfl (zAB rfl) (.run [] [] rfl (zAX rfl rfl rfl (by omega)) (.run [] [] rfl (zAD rfl) .nil))) ?_
    refine nxt (Q := fun _ _ => False) (z := i) (i + 1) ?_ ?_ ?_
    ·
     show (i + 1) ≤ us.length
     omega
    ·
     show us.length - (i + 1) < us.length - i
     omega
    · exact zAK ⟨rfl, ⟨(zAH (by omega)), trivial⟩⟩ trivial trivial rfl
  ·
   replace h2 := of_decide_eq_false h2
   refine zAk ?_
   refine zAC ?_
   refine zAA rfl (.run [] [] rfl (zAD rfl) .nil) ?_
   refine zAL ?_
   exact ends [_] [] (.cons (.tmp rfl) .nil) (.cons (.one .v (.v _)) .nil) (by decide) trivial
set_option maxRecDepth 1000000 in
set_option maxHeartbeats 2000000 in
theorem zFe (l : List Ent) (hok : zBD l = true) : Con Tryd.prog 18 [.one (PV.sl false 4 (pvE l))] [] [.one (.sl true 1 (pvT (zAs l)))] := by
 refine zAP Tryd.func18 rfl rfl rfl rfl ?_
 have hle := zAc l
 have hn := zC3 hok
 refine zAC ?_
 refine zAA rfl (.run [] [] rfl (zAD rfl) .nil) ?_
 refine zAC ?_
 refine zAA rfl (.run [500] [] rfl (zAv rfl 500 Tryd.underlying49 inf9 (nle rfl) (by decide) rfl rfl rfl .nil (by decide) rfl (by decide) rfl (by decide) rfl) (.run [] [] rfl (zAD rfl) .nil)) ?_
 refine zAC ?_
 refine zAC ?_
 refine zAA rfl (.run [] [] rfl (zAB rfl) (.run [700] [] rfl (zAG rfl 700 (X := []) en11 rfl (.val nod) (.cons (.one (.bor (.sl nod))) .nil) (by decide) all_nil .nil (zBe l (by omega)) rfl rfl (nle rfl)) (.run [] [] rfl (zA1 (b := zBD l) rfl rfl) .nil))) ?_
 refine zAW (t := (!(zBD l))) rfl (fun h1 => ?_) (fun h1 => ?_)
 ·
  replace h1 : (zBD l) = false := zA4 h1
  rw [hok] at h1; cases h1
 ·
  replace h1 : (zBD l) = true := zA5 h1
  refine zAJ ?_
  refine zAC ?_
  refine zAC ?_
  refine zAA rfl (.run [] [] rfl (zAD rfl) .nil) ?_
  refine zAM ?_
  refine zAU (zCe 500 1 rfl rfl (by decide)) ?_
  refine zAj (σ := Nat) (fun i => mk [(0, .p none (.sl false 4 (pvE l))), (3, .sl 1 0 ((pvT (zAN (l.map (·.user)) i)).length)), (4, .p none (.v (.int .i64 (i:Int))))] [] [(1, 1, pvT (zAN (l.map (·.user)) i))]) (fun i => i ≤ l.length) (fun i => l.length - i) 0 (by simp) (zAK ⟨rfl, ⟨rfl, ⟨(zAH (by omega)), trivial⟩⟩⟩ trivial ⟨(congrArg (fun x => some (1, x)) (by rfl)), trivial⟩ rfl) ?_
  rintro i hG
  replace hG : i ≤ l.length := hG
  have hcn := zDI (l.map (·.user)) i
  have hcv := zAg (zAN (l.map (·.user)) i)
  refine zAC ?_
  refine zAC ?_
  refine zAA rfl (.run [] [] rfl (zAB rfl) (.run [] [] rfl (zAB rfl) (.run [] [] rfl (zAa rfl rfl Tryd.underlying28) (.run [] [] rfl (zAu rfl rfl rfl) .nil)))) ?_
  refine zAW (t := decide ((i:Int) < ((pvE l).length : Int))) rfl (fun h2 => ?_) (fun h2 => ?_)
  ·
   replace h2 := of_decide_eq_true h2
   refine zAJ ?_
   refine zAC ?_
   refine zAM ?_
   refine zAC ?_
   rcases Nat.eq_zero_or_pos i with hz | hz
   ·
    obtain ⟨e, he⟩ : ∃ e, l[i]? = some e := ⟨_, List.getElem?_eq_getElem (by omega)⟩
    refine zAU (s' := mk [(0, .p none (.sl false 4 (pvE l))), (3, .sl 1 0 ((pvT (zAN (l.map (·.user)) i)).length)), (4, .p none (.v (.int .i64 (i:Int))))] [] [(1, 1, pvT (zAN (l.map (·.user)) i))]) ?_ ?_
    · exact zAK ⟨rfl, ⟨rfl, ⟨rfl, trivial⟩⟩⟩ trivial ⟨rfl, trivial⟩ rfl
    rcases bfc (decide ((i:Int) = 0)) with h3 | h3
    ·
     have h3' := h3
     replace h3' := of_decide_eq_false h3'
     omega
    ·
     have h3' := h3
     replace h3' := of_decide_eq_true h3'
     refine zAf zBj rfl (.run [] [] rfl (zAB rfl) (.run [] [] rfl (zAO (zA6 rfl rfl rfl) (zAI h3)) (.run [] [] rfl (zAB rfl) (.not rfl (.not rfl (.not rfl (.not rfl (.not rfl (.not rfl (.not rfl (.not rfl (.not rfl (.not rfl (.not rfl (.not rfl (.not rfl (.not rfl (.run [] [] rfl (zAT (t := true) rfl rfl) .nil)))))))))))))))))) (by kernel_rfl) ?_
     refine zAW (t := true) rfl (fun _ => ?_) (fun h => nomatch h)
     refine zAU (s' := mk [(0, .p none (.sl false 4 (pvE l))), (3, .sl 1 0 ((pvT (zAN (l.map (·.user)) i)).length)), (4, .p none (.v (.int .i64 (i:Int))))] [] [(1, 1, pvT (zAN (l.map (·.user)) i))]) ?_ ?_
     · exact zAK ⟨rfl, ⟨rfl, ⟨rfl, trivial⟩⟩⟩ trivial ⟨rfl, trivial⟩ rfl
     refine zAA rfl (.run [] [] rfl (zAB rfl) (.run [] [] rfl (zAB rfl) (.run [] [] rfl (zAB rfl) (.run [] [] rfl (zAm rfl rfl rfl Tryd.underlying28 Tryd.sizeOf48 rfl (by omega) (zBW he)) (.run [] [] rfl (zA3 rfl rfl Tryd.underlying48 rfl Tryd.sizeOf46 (by decide)) (.run [] [] rfl (zA3 rfl rfl Tryd.underlying46 rfl Tryd.sizeOf9 (by decide)) (.run [] [] rfl (zA2 rfl rfl Tryd.isAgg9 rfl) (.run [4100] [] rfl (zAv rfl 4100 Tryd.underlying49 inf9 (nle rfl) (by decide) rfl rfl rfl (.cons .v .nil) (by decide) rfl (by decide) rfl (by decide) rfl) (.run [1] [] rfl (zB8 rfl 1 (ib := 1) (len := ((pvT (zAN (l.map (·.user)) i)) ++ [[PV.v (.string e.user)]]).length) rfl rfl (.row (len := (pvT (zAN (l.map (·.user)) i)).length) (xs := pvT (zAN (l.map (·.user)) i)) rfl rfl (.inl rfl)) (.give (len := 1) (xs := [[PV.v (.string e.user)]]) rfl rfl) Tryd.underlying49 (sk Tryd.underlying49 rfl) inf9 rfl (by decide) (by decide) (by decide) List.length_append (by simp only [maxLen, List.length_append, List.length_map, List.length_cons, List.length_nil, List.length_take, List.length_drop, zAc, zBG, zAg, zBH]; omega) (by simp only [maxLen, List.length_append, List.length_map, List.length_cons, List.length_nil, List.length_take, List.length_drop, zAc, zBG, zAg, zBH]; omega)) (.run [] [] rfl (zAD rfl) .nil)))))))))) ?_
     have hr4 : (pvT (zAN (l.map (·.user)) i)) ++ [[PV.v (.string e.user)]] = pvT (zAN (l.map (·.user)) (i + 1)) := by rw [zIa he hz]; exact zGP _ _
     have hp5 : (.sl 1 0 (((pvT (zAN (l.map (·.user)) i)) ++ [[PV.v (.string e.user)]]).length) : AV) = .sl 1 0 ((pvT (zAN (l.map (·.user)) (i + 1))).length) := by simp only [hr4]
     refine zAU (s' := mk [(0, .p none (.sl false 4 (pvE l))), (3, .sl 1 0 ((pvT (zAN (l.map (·.user)) (i + 1))).length)), (4, .p none (.v (.int .i64 (i:Int))))] [] [(1, 1, pvT (zAN (l.map (·.user)) (i + 1)))]) ?_ ?_
     · exact zAK ⟨rfl, ⟨hp5, ⟨rfl, trivial⟩⟩⟩ trivial ⟨(congrArg (fun x => some (1, x)) hr4), trivial⟩ rfl
     refine zAA rfl (.run [] [] rfl (zAB rfl) (.run [] [] rfl (zAX rfl rfl rfl (by omega)) (.run [] [] rfl (zAD rfl) .nil))) ?_
     refine nxt (Q := fun _ _ => False) (z := i) (i + 1) ?_ ?_ ?_
     ·
      show (i + 1) ≤ l.length
      omega
     ·
      show l.length - (i + 1) < l.length - i
      omega
     · exact zAK ⟨rfl, ⟨rfl, ⟨(zAH (by omega)), trivial⟩⟩⟩ trivial ⟨rfl, trivial⟩ rfl
   ·
    obtain ⟨e, he⟩ : ∃ e, l[i]? = some e := ⟨_, List.getElem?_eq_getElem (by omega)⟩
    obtain ⟨x, hx⟩ : ∃ x, l[i - 1]? = some x := ⟨_, List.getElem?_eq_getElem (by omega)⟩
    refine zAU (s' := mk [(0, .p none (.sl false 4 (pvE l))), (3, .sl 1 0 ((pvT (zAN (l.map (·.user)) i)).length)), (4, .p none (.v (.int .i64 (i:Int))))] [] [(1, 1, pvT (zAN (l.map (·.user)) i))]) ?_ ?_
    · exact zAK ⟨rfl, ⟨rfl, ⟨rfl, trivial⟩⟩⟩ trivial ⟨rfl, trivial⟩ rfl
    rcases bfc (decide ((i:Int) = 0)) with h6 | h6
    ·
     have h6' := h6
     replace h6' := of_decide_eq_false h6'
     refine zAf zBj rfl (.run [] [] rfl (zAB rfl) (.run [] [] rfl (zAO (zA6 rfl rfl rfl) (zAI h6)) (.run [] [] rfl (zAB rfl) (.run [] [] rfl (zAB rfl) (.run [] [] rfl (zAB rfl) (.run [] [] rfl (zAO (zBw rfl rfl rfl (by omega)) (((show (AV.p none (.v (.int .i64 ((i:Int) - 1)))) = AV.p none (.v (.int .i64 ((i - 1 : Nat) : Int))) from zAH (by omega))))) (.run [] [] rfl (zAm rfl rfl rfl Tryd.underlying28 Tryd.sizeOf48 rfl (by omega) (zBW hx)) (.run [] [] rfl (zA3 rfl rfl Tryd.underlying48 rfl Tryd.sizeOf46 (by decide)) (.run [] [] rfl (zA3 rfl rfl Tryd.underlying46 rfl Tryd.sizeOf9 (by decide)) (.run [] [] rfl (zA2 rfl rfl Tryd.isAgg9 rfl) (.run [] [] rfl (zAB rfl) (.run [] [] rfl (zAB rfl) (.run [] [] rfl (zAm rfl rfl rfl Tryd.underlying28 Tryd.sizeOf48 rfl (by omega) (zBW he)) (.run [] [] rfl (zA3 rfl rfl Tryd.underlying48 rfl Tryd.sizeOf46 (by decide)) (.run [] [] rfl (zA3 rfl rfl Tryd.underlying46 rfl Tryd.sizeOf9 (by decide)) (.run [] [] rfl (zA2 rfl rfl Tryd.isAgg9 rfl) (.run [] [] rfl (zD5 rfl rfl rfl) (.run [] [] rfl (zAT (t := false) rfl rfl) .nil)))))))))))))))))) (by kernel_rfl) ?_
     refine zAW (t := (!(decide (x.user = e.user)))) rfl (fun h7 => ?_) (fun h7 => ?_)
     ·
      replace h7 : ¬ (x.user = e.user) := of_decide_eq_false (zA4 h7)
      refine zAU (s' := mk [(0, .p none (.sl false 4 (pvE l))), (3, .sl 1 0 ((pvT (zAN (l.map (·.user)) i)).length)), (4, .p none (.v (.int .i64 (i:Int)))), (19, .p none (.sl false 4 (pvE l))), (20, .p none (.v (.int .i64 (i:Int)))), (21, .p none (.v (.int .i64 ((i - 1 : Nat):Int)))), (22, .fea none [PV.v (.string x.user), PV.v (.int .i64 x.seq), PV.v (.int .i64 x.kind), PV.v (.string x.value)]), (23, .fea none [PV.v (.string x.user), PV.v (.int .i64 x.seq), PV.v (.int .i64 x.kind), PV.v (.string x.value)]), (24, .fea none [PV.v (.string x.user), PV.v (.int .i64 x.seq), PV.v (.int .i64 x.kind), PV.v (.string x.value)]), (25, .p none (.v (.string x.user))), (26, .p none (.sl false 4 (pvE l))), (27, .p none (.v (.int .i64 (i:Int)))), (28, .fea none [PV.v (.string e.user), PV.v (.int .i64 e.seq), PV.v (.int .i64 e.kind), PV.v (.string e.value)]), (29, .fea none [PV.v (.string e.user), PV.v (.int .i64 e.seq), PV.v (.int .i64 e.kind), PV.v (.string e.value)]), (30, .fea none [PV.v (.string e.user), PV.v (.int .i64 e.seq), PV.v (.int .i64 e.kind), PV.v (.string e.value)]), (31, .p none (.v (.string e.user))), (32, .p none (.v (.bool (!(decide (x.user = e.user))))))] [] [(1, 1, pvT (zAN (l.map (·.user)) i))]) ?_ ?_
      · exact zAK ⟨rfl, ⟨rfl, ⟨rfl, ⟨rfl, ⟨rfl, ⟨rfl, ⟨rfl, ⟨rfl, ⟨rfl, ⟨rfl, ⟨rfl, ⟨rfl, ⟨rfl, ⟨rfl, ⟨rfl, ⟨rfl, ⟨rfl, trivial⟩⟩⟩⟩⟩⟩⟩⟩⟩⟩⟩⟩⟩⟩⟩⟩⟩ trivial ⟨rfl, trivial⟩ rfl
      refine zAA rfl (.run [] [] rfl (zAB rfl) (.run [] [] rfl (zAB rfl) (.run [] [] rfl (zAB rfl) (.run [] [] rfl (zAm rfl rfl rfl Tryd.underlying28 Tryd.sizeOf48 rfl (by omega) (zBW he)) (.run [] [] rfl (zA3 rfl rfl Tryd.underlying48 rfl Tryd.sizeOf46 (by decide)) (.run [] [] rfl (zA3 rfl rfl Tryd.underlying46 rfl Tryd.sizeOf9 (by decide)) (.run [] [] rfl (zA2 rfl rfl Tryd.isAgg9 rfl) (.run [4100] [] rfl (zAv rfl 4100 Tryd.underlying49 inf9 (nle rfl) (by decide) rfl rfl rfl (.cons .v .nil) (by decide) rfl (by decide) rfl (by decide) rfl) (.run [1] [] rfl (zB8 rfl 1 (ib := 1) (len := ((pvT (zAN (l.map (·.user)) i)) ++ [[PV.v (.string e.user)]]).length) rfl rfl (.row (len := (pvT (zAN (l.map (·.user)) i)).length) (xs := pvT (zAN (l.map (·.user)) i)) rfl rfl (.inl rfl)) (.give (len := 1) (xs := [[PV.v (.string e.user)]]) rfl rfl) Tryd.underlying49 (sk Tryd.underlying49 rfl) inf9 rfl (by decide) (by decide) (by decide) List.length_append (by simp only [maxLen, List.length_append, List.length_map, List.length_cons, List.length_nil, List.length_take, List.length_drop, zAc, zBG, zAg, zBH]; omega) (by simp only [maxLen, List.length_append, List.length_map, List.length_cons, List.length_nil, List.length_take, List.length_drop, zAc, zBG, zAg, zBH]; omega)) (.run [] [] rfl (zAD rfl) .nil)))))))))) ?_
      have hr8 : (pvT (zAN (l.map (·.user)) i)) ++ [[PV.v (.string e.user)]] = pvT (zAN (l.map (·.user)) (i + 1)) := by rw [zJo hx he h7]; exact zGP _ _
      have hp9 : (.sl 1 0 (((pvT (zAN (l.map (·.user)) i)) ++ [[PV.v (.string e.user)]]).length) : AV) = .sl 1 0 ((pvT (zAN (l.map (·.user)) (i + 1))).length) := by simp only [hr8]
      refine zAU (s' := mk [(0, .p none (.sl false 4 (pvE l))), (3, .sl 1 0 ((pvT (zAN (l.map (·.user)) (i + 1))).length)), (4, .p none (.v (.int .i64 (i:Int)))), (19, .p none (.sl false 4 (pvE l))), (20, .p none (.v (.int .i64 (i:Int)))), (21, .p none (.v (.int .i64 ((i - 1 : Nat):Int)))), (22, .fea none [PV.v (.string x.user), PV.v (.int .i64 x.seq), PV.v (.int .i64 x.kind), PV.v (.string x.value)]), (23, .fea none [PV.v (.string x.user), PV.v (.int .i64 x.seq), PV.v (.int .i64 x.kind), PV.v (.string x.value)]), (24, .fea none [PV.v (.string x.user), PV.v (.int .i64 x.seq), PV.v (.int .i64 x.kind), PV.v (.string x.value)]), (25, .p none (.v (.string x.user))), (26, .p none (.sl false 4 (pvE l))), (27, .p none (.v (.int .i64 (i:Int)))), (28, .fea none [PV.v (.string e.user), PV.v (.int .i64 e.seq), PV.v (.int .i64 e.kind), PV.v (.string e.value)]), (29, .fea none [PV.v (.string e.user), PV.v (.int .i64 e.seq), PV.v (.int .i64 e.kind), PV.v (.string e.value)]), (30, .fea none [PV.v (.string e.user), PV.v (.int .i64 e.seq), PV.v (.int .i64 e.kind), PV.v (.string e.value)]), (31, .p none (.v (.string e.user))), (32, .p none (.v (.bool (!(decide (x.user = e.user))))))] [] [(1, 1, pvT (zAN (l.map (·.user)) (i + 1)))]) ?_ ?_
      · exact zAK ⟨rfl, ⟨hp9, ⟨rfl, ⟨rfl, ⟨rfl, ⟨rfl, ⟨rfl, ⟨rfl, ⟨rfl, ⟨rfl, ⟨rfl, ⟨rfl, ⟨rfl, ⟨rfl, ⟨rfl, ⟨rfl, ⟨rfl, trivial⟩⟩⟩⟩⟩⟩⟩⟩⟩⟩⟩⟩⟩⟩⟩⟩⟩ trivial ⟨(congrArg (fun x => some (1, x)) hr8), trivial⟩ rfl
      refine zAA rfl (.run [] [] rfl (zAB rfl) (.run [] [] rfl (zAX rfl rfl rfl (by omega)) (.run [] [] rfl (zAD rfl) .nil))) ?_
      refine nxt (Q := fun _ _ => False) (z := i) (i + 1) ?_ ?_ ?_
      ·
       show (i + 1) ≤ l.length
       omega
      ·
       show l.length - (i + 1) < l.length - i
       omega
      · exact zAK ⟨rfl, ⟨rfl, ⟨(zAH (by omega)), trivial⟩⟩⟩ trivial ⟨rfl, trivial⟩ rfl
     ·
      replace h7 : x.user = e.user := of_decide_eq_true (zA5 h7)
      refine zAJ ?_
      refine zAU (s' := mk [(0, .p none (.sl false 4 (pvE l))), (3, .sl 1 0 ((pvT (zAN (l.map (·.user)) i)).length)), (4, .p none (.v (.int .i64 (i:Int)))), (19, .p none (.sl false 4 (pvE l))), (20, .p none (.v (.int .i64 (i:Int)))), (21, .p none (.v (.int .i64 ((i - 1 : Nat):Int)))), (22, .fea none [PV.v (.string x.user), PV.v (.int .i64 x.seq), PV.v (.int .i64 x.kind), PV.v (.string x.value)]), (23, .fea none [PV.v (.string x.user), PV.v (.int .i64 x.seq), PV.v (.int .i64 x.kind), PV.v (.string x.value)]), (24, .fea none [PV.v (.string x.user), PV.v (.int .i64 x.seq), PV.v (.int .i64 x.kind), PV.v (.string x.value)]), (25, .p none (.v (.string x.user))), (26, .p none (.sl false 4 (pvE l))), (27, .p none (.v (.int .i64 (i:Int)))), (28, .fea none [PV.v (.string e.user), PV.v (.int .i64 e.seq), PV.v (.int .i64 e.kind), PV.v (.string e.value)]), (29, .fea none [PV.v (.string e.user), PV.v (.int .i64 e.seq), PV.v (.int .i64 e.kind), PV.v (.string e.value)]), (30, .fea none [PV.v (.string e.user), PV.v (.int .i64 e.seq), PV.v (.int .i64 e.kind), PV.v (.string e.value)]), (31, .p none (.v (.string e.user))), (32, .p none (.v (.bool (!(decide (x.user = e.user))))))] [] [(1, 1, pvT (zAN (l.map (·.user)) i))]) ?_ ?_
      · exact zAK ⟨rfl, ⟨rfl, ⟨rfl, ⟨rfl, ⟨rfl, ⟨rfl, ⟨rfl, ⟨rfl, ⟨rfl, ⟨rfl, ⟨rfl, ⟨rfl, ⟨rfl, ⟨rfl, ⟨rfl, ⟨rfl, ⟨rfl, trivial⟩⟩⟩⟩⟩⟩⟩⟩⟩⟩⟩⟩⟩⟩⟩⟩⟩ trivial ⟨rfl, trivial⟩ rfl
      refine zAA rfl (.run [] [] rfl (zAB rfl) (.run [] [] rfl (zAX rfl rfl rfl (by omega)) (.run [] [] rfl (zAD rfl) .nil))) ?_
      refine nxt (Q := fun _ _ => False) (z := i) (i + 1) ?_ ?_ ?_
      ·
       show (i + 1) ≤ l.length
       omega
      ·
       show l.length - (i + 1) < l.length - i
       omega
      · exact zAK ⟨rfl, ⟨(congrArg (fun z => AV.sl 1 0 (pvT z).length) (zHZ hz hx he h7).symm), ⟨(zAH (by omega)), trivial⟩⟩⟩ trivial ⟨(congrArg (fun x => some (1, x)) (by rw [zHZ hz hx he h7])), trivial⟩ rfl
    ·
     have h6' := h6
     replace h6' := of_decide_eq_true h6'
     omega
  ·
   replace h2 := of_decide_eq_false h2
   refine zAk ?_
   refine zAC ?_
   refine zAA rfl (.run [] [] rfl (zAB rfl) (.run [] [] rfl (zAD rfl) .nil)) ?_
   have hr10 : pvT (zAN (l.map (·.user)) i) = pvT (zAs l) := by rw [show i = (l.map (·.user)).length by rw [List.length_map]; omega]; rfl
   have hp11 : (.sl 1 0 ((pvT (zAN (l.map (·.user)) i)).length) : AV) = .sl 1 0 ((pvT (zAs l)).length) := by simp only [hr10]
   refine zAU (s' := mk [(2, .sl 1 0 ((pvT (zAs l)).length))] [] [(1, 1, pvT (zAs l))]) ?_ ?_
   · exact zAK ⟨hp11, trivial⟩ trivial ⟨(congrArg (fun x => some (1, x)) hr10), trivial⟩ rfl
   refine zAL ?_
   exact ends [_] [1] (.cons (.tmp rfl) .nil) (.cons (.one (.row (len := (pvT (zAs l)).length) (xs := pvT (zAs l)) rfl rfl) (.sl _ _ (FlatP.clean (zC0 _)))) .nil) (by decide) trivial
end Go.Rl
namespace Go.Rl
def pvNb (l : List Nat) : List (List PV) := l.map fun n => [.v (.int .u8 ((n : Nat) : Int))]
theorem zAt (l : List Nat) : (pvNb l).length = l.length := by simp [pvNb]
theorem zBm {l : List Nat} {i : Nat} {e : Nat} (h : l[i]? = some e) : (pvNb l)[i]? = some [.v (.int .u8 ((e : Nat) : Int))] := by simp [pvNb, h]
theorem zCa (l : List Nat) : FlatP (pvNb l) := fun es he p hp => by
 obtain ⟨e, _, rfl⟩ := List.mem_map.1 he
 simp only [List.mem_singleton] at hp
 subst hp
 rfl
def ints (l : List Nat) : List Int := l.map fun n => ((n : Nat) : Int)
theorem zCB (l : List Nat) : pvNb l = pvB (ints l) := by simp [pvNb, pvB, ints]
def pvQ (l : List Nat) : List (List PV) := l.map fun n => [.v (.int .u64 ((n : Nat) : Int))]
theorem zBN (l : List Nat) : (pvQ l).length = l.length := by simp [pvQ]
theorem zDF {l : List Nat} {i : Nat} {e : Nat} (h : l[i]? = some e) : (pvQ l)[i]? = some [.v (.int .u64 ((e : Nat) : Int))] := by simp [pvQ, h]
theorem zFm (l : List Nat) : FlatP (pvQ l) := fun es he p hp => by
 obtain ⟨e, _, rfl⟩ := List.mem_map.1 he
 simp only [List.mem_singleton] at hp
 subst hp
 rfl
theorem zJ4 (l : List Nat) (x : Nat) : pvQ l ++ [[PV.v (.int .u64 ((x : Nat) : Int))]] = pvQ (l ++ [x]) := by simp [pvQ]
theorem zGo (h : Nat) : (((h / 2 ^ 33 ||| (h * 2 ^ 31) % 18446744073709551616) % 18446744073709551616 : Nat) : Int) = ((zCw h : Nat) : Int) := by rw [zCw]
def plB (u : ByteArray) (i m : Nat) : Nat := ((zAh 0 u + (i * zCw (zAh 0 u)) % 18446744073709551616) % 18446744073709551616) % m
theorem zKq (u : ByteArray) (i m : Nat) : ((((zAh 0 u + (i * zCw (zAh 0 u)) % 18446744073709551616) % 18446744073709551616) % m : Nat) : Int) = ((plB u i m : Nat) : Int) := by rw [plB]
theorem zKp {u : ByteArray} {i m : Nat} (h : 0 < m) : plB u i m < m := Nat.mod_lt _ h
def setB (bits : List Nat) (p : Nat) : List Nat := match bits[p / 8]? with
 | some b => bits.set (p / 8) ((b ||| ((1 * 2 ^ (p % 8)) % 256)) % 256)
 | none => bits
theorem zJv (bits : List Nat) (p : Nat) : (setB bits p).length = bits.length := by
 unfold setB
 split <;> simp
theorem zHc {bits : List Nat} {p b : Nat} (h : bits[p / 8]? = some b) : (pvNb bits).set (p / 8) [PV.v (.int .u8 (((b ||| ((1 * 2 ^ (p % 8)) % 256)) % 256 : Nat) : Int))] = pvNb (setB bits p) := by
 simp [pvNb, setB, h, List.map_set]
def usrB (bits : List Nat) (u : ByteArray) (m : Nat) : Nat → List Nat
 | 0 => bits
 | k + 1 => setB (usrB bits u m k) (plB u k m)
theorem zEP (bits : List Nat) (u : ByteArray) (m : Nat) : ∀ k, (usrB bits u m k).length = bits.length
 | 0 => rfl
 | k + 1 => by rw [usrB, zJv, zEP bits u m k]
def zAZ (us : List ByteArray) : Nat := (max 64 (10 * us.length) + 7) / 8
def bitB (us : List ByteArray) : Nat → List Nat
 | 0 => List.replicate (zAZ us) 0
 | i + 1 => match us[i]? with
  | some u => usrB (bitB us i) u (8 * zAZ us) 6
  | none => bitB us i
theorem zDJ {us : List ByteArray} {i : Nat} {u : ByteArray} (h : us[i]? = some u) : bitB us (i + 1) = usrB (bitB us i) u (8 * zAZ us) 6 := by simp [bitB, h]
theorem zCS (us : List ByteArray) : ∀ i, (bitB us i).length = zAZ us
 | 0 => by simp [bitB]
 | i + 1 => by
  cases h : us[i]? with
  | none => simp [bitB, h, zCS us i]
  | some u => rw [zDJ h, zEP, zCS us i]
theorem zF4 {us : List ByteArray} (h : us.length ≤ 400) : 8 ≤ zAZ us ∧ zAZ us ≤ 501 := by unfold zAZ; omega
structure Flt where
 kind : Int
 seed : Int
 probes : Int
 bits : ByteArray
 deriving DecidableEq
def zCN (us : List ByteArray) : Flt := ⟨1, 0, 6, zCc (ints (bitB us us.length))⟩
def zA9 (u : ByteArray) (m : Nat) : Nat → List Nat
 | 0 => []
 | k + 1 => zA9 u m k ++ [plB u k m]
theorem zCJ (u : ByteArray) (m : Nat) : ∀ k, (zA9 u m k).length = k
 | 0 => rfl
 | k + 1 => by simp [zA9, zCJ u m k]
theorem zGS (u : ByteArray) (m k : Nat) : zA9 u m (k + 1) = zA9 u m k ++ [plB u k m] := rfl
theorem snoc_at {α : Type} {l : List α} {a : α} {k : Nat} (h : l.length = k) : (l ++ [a])[k]? = some a := by subst h; simp
theorem zHH {u : ByteArray} {m : Nat} {i : Nat} : ∀ {k : Nat}, i < k → (zA9 u m k)[i]? = some (plB u i m) := by
 intro k
 induction k with
 | zero => intro h; exact absurd h (Nat.not_lt_zero _)
 | succ k ih =>
  intro h
  rw [zGS]
  by_cases e : i < k
  · rw [List.getElem?_append_left (by rw [zCJ]; exact e)]; exact ih e
  ·
   have : i = k := by omega
   subst this
   exact snoc_at (zCJ u m i)
end Go.Rl
namespace Go.Rl
open Go.Proofs
theorem zJH : (Tryd.prog.info? 43).map (fun i => (i.zero, i.size, i.bytes)) = some (some (.int .u64 0), 1, 8) := by kernel_rfl
theorem en59 : ∀ vs w, (callFunc 59 vs).run Tryd.prog w = .ok (.enter 59 vs) w := zAn Tryd.func59 (by decide) rfl
theorem en80 : ∀ vs w, (callFunc 80 vs).run Tryd.prog w = .ok (.enter 80 vs) w := zAn Tryd.func80 (by decide) rfl
theorem zGk {us : List ByteArray} (h : us.length ≤ 400) {n : Int} (hn : n = 10 * (us.length : Int)) : IntKind.i64.wrap ((max 64 n + 7).tdiv 8) = ((zAZ us : Nat) : Int) := by
 rw [Int.tdiv_eq_ediv_of_nonneg (by omega), zD2 (by omega), zAZ]
 omega
set_option maxRecDepth 1000000 in
set_option maxHeartbeats 2000000 in
theorem zIH (u : ByteArray) (i m : Nat) (hi : i < 9223372036854775808) (hm : 0 < m) (hu : u.size ≤ 9000000000000000000) : Con Tryd.prog 57 [.one (PV.v (.string u)), .one (PV.v (.int .i64 (i:Int))), .one (PV.v (.int .u64 (m:Int)))] [] [.one (.v (.int .u64 ((plB u i m : Nat) : Int)))] := by
 refine zAP Tryd.func57 rfl rfl rfl rfl ?_
 refine zAC ?_
 refine zAA rfl (.run [] [] rfl (zAD rfl) .nil) ?_
 refine zAC ?_
 refine zAA rfl (.run [] [] rfl (zAB rfl) (.run [900] [] rfl (zAG rfl 900 (X := []) en59 rfl (.val nod) (.cons (.one (.bor .v)) (.cons (.one (.bor .v)) .nil)) (by decide) all_nil .nil (zEb 0 u (by omega)) rfl rfl (nle rfl)) (.run [] [] rfl (zAD rfl) .nil))) ?_
 refine zAC ?_
 refine zAU (s' := mk [(1, .p none (.v (.int .i64 (i:Int)))), (2, .p none (.v (.int .u64 (m:Int)))), (7, .p none (.v (.int .u64 ((zAh 0 u : Nat) : Int))))] [] []) ?_ ?_
 · exact zAK ⟨rfl, ⟨rfl, ⟨rfl, trivial⟩⟩⟩ trivial trivial rfl
 refine zAA rfl (.run [] [] rfl (zAB rfl) (.run [] [] rfl (zAB rfl) (.run [] [] rfl (zAO (zAe (k' := .u64) 18446744073709551616 rfl i rfl rfl rfl Tryd.underlying2 Tryd.underlying43) ((zAH (show ((i % 18446744073709551616 : Nat) : Int) = ((i : Nat) : Int) by omega)))) (.run [] [] rfl (zAB rfl) (.run [] [] rfl (zBK (zAh 0 u) 33 rfl rfl rfl (by decide)) (.run [] [] rfl (zAB rfl) (.run [] [] rfl (zFZ (k := .u64) 18446744073709551616 rfl (zAh 0 u) 31 rfl rfl rfl rfl (by decide)) (.run [] [] rfl (zAO (zEa (k := .u64) 18446744073709551616 rfl ((zAh 0 u) / 2 ^ 33) (((zAh 0 u) * 2 ^ 31) % 18446744073709551616) rfl rfl rfl rfl) ((zAH (zGo (zAh 0 u))))) (.run [] [] rfl (zCX (k := .u64) 18446744073709551616 rfl i (zCw (zAh 0 u)) rfl rfl rfl rfl) (.run [] [] rfl (zD7 (k := .u64) 18446744073709551616 rfl (zAh 0 u) ((i * (zCw (zAh 0 u))) % 18446744073709551616) rfl rfl rfl rfl) (.run [] [] rfl (zAB rfl) (.run [] [] rfl (zBx (((zAh 0 u) + ((i * (zCw (zAh 0 u))) % 18446744073709551616)) % 18446744073709551616) m rfl rfl rfl (by omega)) (.run [] [] rfl (zAD rfl) .nil))))))))))))) ?_
 refine zAL ?_
 exact ends [_] [] (.cons (.tmp (zAH (zKq u i m))) .nil) (.cons (.one .v (.v _)) .nil) (by decide) trivial
set_option maxRecDepth 1000000 in
set_option maxHeartbeats 2000000 in
theorem zIL (u : ByteArray) (k n : Nat) (hk : k ≤ 100) (hn : 0 < n ∧ n ≤ 1000000) (hu : u.size ≤ 9000000000000000000) : Con Tryd.prog 78 [.one (PV.v (.string u)), .one (PV.v (.int .i64 (k:Int))), .one (PV.v (.int .i64 (n:Int)))] [] [.one (.sl true 1 (pvQ (zA9 u (8 * n) k)))] := by
 refine zAP Tryd.func78 rfl rfl rfl rfl ?_
 refine zAC ?_
 refine zAA rfl (.run [] [] rfl (zAD rfl) .nil) ?_
 refine zAC ?_
 refine zAA rfl (.run [] [] rfl (zAB rfl) (.run [1200] [] rfl (zAG rfl 1200 (X := []) en80 rfl (.val nod) (.cons (.one (.bor .v)) (.cons (.one (.bor .v)) .nil)) (by decide) all_nil .nil (zFt 0 u (by omega)) rfl rfl (nle rfl)) (.run [] [] rfl (zAD rfl) .nil))) ?_
 refine zAC ?_
 refine zAA rfl (.run [] [] rfl (zAB rfl) (.run [] [] rfl (zBK (zAh 0 u) 33 rfl rfl rfl (by decide)) (.run [] [] rfl (zAB rfl) (.run [] [] rfl (zFZ (k := .u64) 18446744073709551616 rfl (zAh 0 u) 31 rfl rfl rfl rfl (by decide)) (.run [] [] rfl (zAO (zEa (k := .u64) 18446744073709551616 rfl ((zAh 0 u) / 2 ^ 33) (((zAh 0 u) * 2 ^ 31) % 18446744073709551616) rfl rfl rfl rfl) ((zAH (zGo (zAh 0 u))))) (.run [1800] [] rfl (zAv rfl 1800 Tryd.underlying80 zJH (nle rfl) (by decide) rfl rfl rfl .nil (by decide) rfl (by decide) rfl (by decide) rfl) (.run [] [] rfl (zAD rfl) (.run [] [] rfl (zAD rfl) .nil)))))))) ?_
 refine zAC ?_
 refine zAC ?_
 refine zAA rfl (.run [] [] rfl (zAB rfl) (.run [] [] rfl (zAO (zAe (k' := .u64) 18446744073709551616 rfl k rfl rfl rfl Tryd.underlying2 Tryd.underlying43) ((zAH (show ((k % 18446744073709551616 : Nat) : Int) = ((k : Nat) : Int) by omega)))) (.run [] [] rfl (zAB rfl) .nil))) ?_
 refine zAM ?_
 refine zAU (zCe 1800 1 rfl rfl (by decide)) ?_
 refine zAj (σ := Nat) (fun i => mk [(2, .p none (.v (.int .i64 (n:Int)))), (7, .p none (.v (.int .u64 ((zAh 0 u : Nat) : Int)))), (8, .p none (.v (.int .u64 ((zCw (zAh 0 u) : Nat) : Int)))), (9, .sl 1 0 ((pvQ (zA9 u (8 * n) i)).length)), (20, .p none (.v (.int .u64 ((k : Nat) : Int)))), (21, .p none (.v (.int .u64 (i:Int))))] [] [(1, 1, pvQ (zA9 u (8 * n) i))]) (fun i => i ≤ k) (fun i => k - i) 0 (by simp) (zAK ⟨rfl, ⟨rfl, ⟨rfl, ⟨rfl, ⟨rfl, ⟨(zAH (by omega)), trivial⟩⟩⟩⟩⟩⟩ trivial ⟨(congrArg (fun x => some (1, x)) (by rfl)), trivial⟩ rfl) ?_
 rintro i hG
 replace hG : i ≤ k := hG
 have hpl := zCJ u (8 * n) i
 have hpv := zBN (zA9 u (8 * n) i)
 refine zAC ?_
 refine zAA rfl (.run [] [] rfl (zAu rfl rfl rfl) .nil) ?_
 refine zAC ?_
 refine zAW (t := decide ((i:Int) < ((k : Nat) : Int))) rfl (fun h1 => ?_) (fun h1 => ?_)
 ·
  replace h1 := of_decide_eq_true h1
  refine zAJ ?_
  refine zAC ?_
  refine zAM ?_
  refine zAC ?_
  refine zAA rfl (.run [] [] rfl (zAB rfl) (.run [] [] rfl (zAD rfl) .nil)) ?_
  refine zAA rfl (.run [] [] rfl (zAB rfl) (.run [] [] rfl (zAB rfl) (.run [] [] rfl (zAB rfl) (.run [] [] rfl (zAB rfl) (.run [] [] rfl (zCX (k := .u64) 18446744073709551616 rfl i (zCw (zAh 0 u)) rfl rfl rfl rfl) (.run [] [] rfl (zD7 (k := .u64) 18446744073709551616 rfl (zAh 0 u) ((i * (zCw (zAh 0 u))) % 18446744073709551616) rfl rfl rfl rfl) (.run [] [] rfl (zAB rfl) (.run [] [] rfl (zAO (zAe (k' := .u64) 18446744073709551616 rfl n rfl rfl rfl Tryd.underlying3 Tryd.underlying43) ((zAH (show ((n % 18446744073709551616 : Nat) : Int) = ((n : Nat) : Int) by omega)))) (.run [] [] rfl (zAO (zCX (k := .u64) 18446744073709551616 rfl 8 n rfl rfl rfl rfl) ((zAH (show (((8 * n) % 18446744073709551616 : Nat) : Int) = ((8 * n : Nat) : Int) by omega)))) (.run [] [] rfl (zAO (zBx (((zAh 0 u) + ((i * (zCw (zAh 0 u))) % 18446744073709551616)) % 18446744073709551616) (8 * n) rfl rfl rfl (by omega)) ((zAH (zKq u i (8 * n))))) (.run [3400] [] rfl (zAv rfl 3400 Tryd.underlying80 zJH (nle rfl) (by decide) rfl rfl rfl (.cons .v .nil) (by decide) rfl (by decide) rfl (by decide) rfl) (.run [1] [] rfl (zB8 rfl 1 (ib := 1) (len := ((pvQ (zA9 u (8 * n) i)) ++ [[PV.v (.int .u64 ((plB u i (8 * n) : Nat) : Int))]]).length) rfl rfl (.row (len := (pvQ (zA9 u (8 * n) i)).length) (xs := pvQ (zA9 u (8 * n) i)) rfl rfl (.inl rfl)) (.give (len := 1) (xs := [[PV.v (.int .u64 ((plB u i (8 * n) : Nat) : Int))]]) rfl rfl) Tryd.underlying80 (sk Tryd.underlying80 rfl) zJH rfl (by decide) (by decide) (by decide) List.length_append (by simp only [maxLen, List.length_append, List.length_map, List.length_cons, List.length_nil, List.length_take, List.length_drop, zAc, zBG, zAg, zBH, zAt, zBN]; omega) (by simp only [maxLen, List.length_append, List.length_map, List.length_cons, List.length_nil, List.length_take, List.length_drop, zAc, zBG, zAg, zBH, zAt, zBN]; omega)) (.run [] [] rfl (zAD rfl) .nil))))))))))))) ?_
  have hr2 : (pvQ (zA9 u (8 * n) i)) ++ [[PV.v (.int .u64 ((plB u i (8 * n) : Nat) : Int))]] = pvQ (zA9 u (8 * n) (i + 1)) := by exact zJ4 _ _
  have hp3 : (.sl 1 0 (((pvQ (zA9 u (8 * n) i)) ++ [[PV.v (.int .u64 ((plB u i (8 * n) : Nat) : Int))]]).length) : AV) = .sl 1 0 ((pvQ (zA9 u (8 * n) (i + 1))).length) := by simp only [hr2]
  refine zAU (s' := mk [(2, .p none (.v (.int .i64 (n:Int)))), (7, .p none (.v (.int .u64 ((zAh 0 u : Nat) : Int)))), (8, .p none (.v (.int .u64 ((zCw (zAh 0 u) : Nat) : Int)))), (9, .sl 1 0 ((pvQ (zA9 u (8 * n) (i + 1))).length)), (20, .p none (.v (.int .u64 ((k : Nat) : Int)))), (21, .p none (.v (.int .u64 (i:Int))))] [] [(1, 1, pvQ (zA9 u (8 * n) (i + 1)))]) ?_ ?_
  · exact zAK ⟨rfl, ⟨rfl, ⟨rfl, ⟨hp3, ⟨rfl, ⟨rfl, trivial⟩⟩⟩⟩⟩⟩ trivial ⟨(congrArg (fun x => some (1, x)) hr2), trivial⟩ rfl
  refine zAA rfl (.run [] [] rfl (zD7 (k := .u64) 18446744073709551616 rfl i 1 rfl rfl rfl rfl) (.run [] [] rfl (zAB rfl) .nil)) ?_
  refine nxt (Q := fun _ _ => False) (z := i) (i + 1) ?_ ?_ ?_
  ·
   show (i + 1) ≤ k
   omega
  ·
   show k - (i + 1) < k - i
   omega
  · exact zAK ⟨rfl, ⟨rfl, ⟨rfl, ⟨rfl, ⟨rfl, ⟨(zAH (by omega)), trivial⟩⟩⟩⟩⟩⟩ trivial ⟨rfl, trivial⟩ rfl
 ·
  replace h1 := of_decide_eq_false h1
  refine zAk ?_
  refine zAC ?_
  refine zAA rfl (.run [] [] rfl (zAB rfl) (.run [] [] rfl (zAD rfl) .nil)) ?_
  have hr4 : pvQ (zA9 u (8 * n) i) = pvQ (zA9 u (8 * n) k) := by rw [show i = k by omega]
  have hp5 : (.sl 1 0 ((pvQ (zA9 u (8 * n) i)).length) : AV) = .sl 1 0 ((pvQ (zA9 u (8 * n) k)).length) := by simp only [hr4]
  refine zAU (s' := mk [(6, .sl 1 0 ((pvQ (zA9 u (8 * n) k)).length))] [] [(1, 1, pvQ (zA9 u (8 * n) k))]) ?_ ?_
  · exact zAK ⟨hp5, trivial⟩ trivial ⟨(congrArg (fun x => some (1, x)) hr4), trivial⟩ rfl
  refine zAL ?_
  exact ends [_] [1] (.cons (.tmp rfl) .nil) (.cons (.one (.row (len := (pvQ (zA9 u (8 * n) k)).length) (xs := pvQ (zA9 u (8 * n) k)) rfl rfl) (.sl _ _ (FlatP.clean (zFm _)))) .nil) (by decide) trivial
end Go.Rl
namespace Go.Rl
open Go.RowKit

mutual
def AV.frz (id sz : Nat) (xs : List (List PV)) : AV → AV
 | .p (some d) x => (match Nat.beq d id with
  | true => .p none x
  | false => .p (some d) x)
 | .sl d lo len => (match Nat.beq d id with
  | true => .p none (.sl false sz ((xs.drop lo).take len))
  | false => .sl d lo len)
 | .ea d i off => (match Nat.beq d id with
  | true => .undef
  | false => .ea d i off)
 | .fea (some d) ps => (match Nat.beq d id with
  | true => .fea none ps
  | false => .fea (some d) ps)
 | .agg cs => .agg (AV.frzs id sz xs cs)
 | .tup cs => .tup (AV.frzs id sz xs cs)
 | x => x
def AV.frzs (id sz : Nat) (xs : List (List PV)) : List AV → List AV
 | [] => []
 | a :: l => AV.frz id sz xs a :: AV.frzs id sz xs l
end
def St.frz (s : St) (id sz : Nat) (xs : List (List PV)) : St := ⟨fun i => (s.t i).frz id sz xs, fun i => (s.b i).map (AV.frzs id sz xs), fun i => match Nat.beq i id with
 | true => none
 | false => s.r i⟩
def Pl.frz (L : Pl) (id : Nat) : Pl := { L with Z := fun k => L.Z k ∨ k ∈ L.ν id, lab := fun k => if k ∈ L.ν id then none else L.lab k }
theorem zEM {a b : Nat} (h : a ≠ b) : Nat.beq a b = false := by
 cases e : Nat.beq a b with
 | false => rfl
 | true => exact absurd (Nat.eq_of_beq_eq_true e) h

section
variable {w0 : World} {I : Fr} {n : Nat} {L : Pl} {s : St} {a : Act} {w : World} {id sz : Nat} {xs : List (List PV)}
theorem zFQ {d : Option Nat} (hd : d ≠ some id) : ∀ k, L.zd d k → (L.frz id).zd d k := fun k hk => by
 rcases hk with hk | ⟨i, rfl, hk⟩
 · exact .inl (.inl hk)
 · exact .inr ⟨i, rfl, hk⟩
theorem zJO : ∀ k, L.zd (some id) k → (L.frz id).zd none k := fun k hk => by
 rcases hk with hk | ⟨i, e, hk⟩
 · exact .inl (.inl hk)
 · cases e; exact .inl (.inr (List.mem_of_mem_tail hk))
theorem zKQ {i : Nat} (hi : i ≠ id) : (s.frz id sz xs).r i = s.r i := by simp only [St.frz, zEM hi]
mutual
theorem AVR.frz (hr : s.r id = some (sz, xs)) (hp : PVO L.Z w (.sl true sz xs) (L.ρ id) (L.ν id)) : ∀ (av : AV) (v : Value), AVR L w s av v → AVR (L.frz id) w (s.frz id sz xs) (av.frz id sz xs) v
 | .undef, v, _ => by simp [AV.frz, AVR]
 | .p none x, v, hv => by
  simp only [AV.frz, AVR] at hv ⊢
  exact ⟨hv.1.mono (fun _ _ => rfl) (zFQ (by simp)), fun _ h => by cases h⟩
 | .p (some d) x, v, hv => by
  by_cases e : d = id
  ·
   subst e
   simp only [AV.frz, Nat.beq_refl, AVR] at hv ⊢
   exact ⟨hv.1.mono (fun _ _ => rfl) zJO, fun _ h => by cases h⟩
  ·
   simp only [AV.frz, zEM e, AVR] at hv ⊢
   refine ⟨hv.1.mono (fun _ _ => rfl) (zFQ (by simpa using e)), fun i hi => ?_⟩
   cases hi
   rw [zKQ e]
   exact hv.2 d rfl
 | .sl d lo len, v, hv => by
  by_cases e : d = id
  ·
   subst e
   simp only [AV.frz, Nat.beq_refl, AVR] at hv ⊢
   obtain ⟨sz', xs', e1, e2, A, m, c, A', c', e3, rfl, e5, e6, e7⟩ := hv
   rw [hr] at e1
   cases e1
   have hq := hp.toR
   have hm := zFj hq A m c e3
   rw [e3] at hq
   subst hm
   refine ⟨((hq.flag false).cut e2 _ _ e5 (fun hpos => ?_)).mono (fun _ _ => rfl) (fun k hk => .inl hk), fun _ h => by cases h⟩
   obtain ⟨k, rfl, rfl⟩ := e7 hpos
   exact ⟨k, 0, rfl, by rw [Nat.zero_add]⟩
  ·
   simp only [AV.frz, zEM e, AVR] at hv ⊢
   rw [zKQ e]
   exact hv
 | .ptr b off, v, hv => by
  simp only [AV.frz, AVR] at hv ⊢
  exact ⟨by simpa [St.frz] using hv.1, hv.2⟩
 | .ea d i off, v, hv => by
  by_cases e : d = id
  ·
   subst e
   simp only [AV.frz, Nat.beq_refl, AVR]
  ·
   simp only [AV.frz, zEM e, AVR] at hv ⊢
   rw [zKQ e]
   exact hv
 | .fea none ps, v, hv => by
  simp only [AV.frz, AVR] at hv ⊢
  obtain ⟨⟨k, off, h1, h2, h3⟩, _⟩ := hv
  exact ⟨⟨k, off, h1, zFQ (by simp) k h2, fun j p hj => by obtain ⟨u, hu, hq⟩ := h3 j p hj; exact ⟨u, hu, hq.mono (fun _ _ => rfl) (zFQ (by simp))⟩⟩, fun _ h => by cases h⟩
 | .fea (some d) ps, v, hv => by
  by_cases e : d = id
  ·
   subst e
   simp only [AV.frz, Nat.beq_refl, AVR] at hv ⊢
   obtain ⟨⟨k, off, h1, h2, h3⟩, _⟩ := hv
   exact ⟨⟨k, off, h1, zJO k h2, fun j p hj => by obtain ⟨u, hu, hq⟩ := h3 j p hj; exact ⟨u, hu, hq.mono (fun _ _ => rfl) zJO⟩⟩, fun _ h => by cases h⟩
  ·
   simp only [AV.frz, zEM e, AVR] at hv ⊢
   obtain ⟨⟨k, off, h1, h2, h3⟩, h4⟩ := hv
   refine ⟨⟨k, off, h1, zFQ (by simpa using e) k h2, fun j p hj => by obtain ⟨u, hu, hq⟩ := h3 j p hj; exact ⟨u, hu, hq.mono (fun _ _ => rfl) (zFQ (by simpa using e))⟩⟩, fun i hi => ?_⟩
   cases hi
   rw [zKQ e]
   exact h4 d rfl
 | .nils, v, hv => by simpa only [AV.frz, AVR] using hv
 | .sat A, v, hv => by simpa only [AV.frz, AVR] using hv
 | .clo f bs, v, hv => by
  simp only [AV.frz, AVR] at hv ⊢
  exact ⟨fun x hx => by simpa [St.frz] using hv.1 x hx, hv.2⟩
 | .agg cs, v, hv => by
  simp only [AV.frz, AVR] at hv ⊢
  obtain ⟨us, h1, h2⟩ := hv
  exact ⟨us, h1, AVRs.frz hr hp cs us h2⟩
 | .tup cs, v, hv => by
  simp only [AV.frz, AVR] at hv ⊢
  obtain ⟨us, h1, h2⟩ := hv
  exact ⟨us, h1, AVRs.frz hr hp cs us h2⟩
theorem AVRs.frz (hr : s.r id = some (sz, xs)) (hp : PVO L.Z w (.sl true sz xs) (L.ρ id) (L.ν id)) : ∀ (l : List AV) (us : List Value), AVRs L w s l us → AVRs (L.frz id) w (s.frz id sz xs) (AV.frzs id sz xs l) us
 | [], [], _ => by simp [AV.frzs, AVRs]
 | [], _ :: _, hv => by simp [AVRs] at hv
 | _ :: _, [], hv => by simp [AVRs] at hv
 | x :: l, u :: us, hv => by
  simp only [AV.frzs, AVRs] at hv ⊢
  exact ⟨AVR.frz hr hp x u hv.1, AVRs.frz hr hp l us hv.2⟩
end
end
mutual
def AV.pvz : AV → Option PV
 | .p none (.v x) => some (.v x)
 | .p none (.sl _ sz xs) => some (.sl false sz xs)
 | .p none (.clo f xs) => some (.clo f xs)
 | _ => none
def AV.pvzs : List AV → Option (List PV)
 | [] => some []
 | a :: l => match a.pvz, AV.pvzs l with
  | some x, some xs => some (x :: xs)
  | _, _ => none
end
end Go.Rl
namespace Go.Rl
open Go.RowKit

mutual
def AV.frb (b : Nat) (ps : List PV) : AV → AV
 | .ptr c off => (match Nat.beq c b with
  | true => .fea none (ps.drop off)
  | false => .ptr c off)
 | .clo f [c] => (match Nat.beq c b with
  | true => .p none (.clo f [ps])
  | false => .clo f [c])
 | .clo f bs => if b ∈ bs then .undef else .clo f bs
 | .agg cs => .agg (AV.frbs b ps cs)
 | .tup cs => .tup (AV.frbs b ps cs)
 | x => x
def AV.frbs (b : Nat) (ps : List PV) : List AV → List AV
 | [] => []
 | a :: l => AV.frb b ps a :: AV.frbs b ps l
end
def St.frb (s : St) (b : Nat) (ps : List PV) : St := ⟨fun i => (s.t i).frb b ps, fun i => match Nat.beq i b with
 | true => none
 | false => (s.b i).map (AV.frbs b ps), s.r⟩
def Pl.frb (L : Pl) (b : Nat) : Pl := { L with Z := fun k => L.Z k ∨ k = L.β b, lab := fun k => if k = L.β b then none else L.lab k }
section
variable {w0 : World} {I : Fr} {n : Nat} {L : Pl} {s : St} {a : Act} {w : World} {b : Nat} {ps : List PV}
theorem frb_b {i : Nat} (hi : i ≠ b) : (s.frb b ps).b i = (s.b i).map (AV.frbs b ps) := by simp only [St.frb, zEM hi]
theorem zFu {i : Nat} (hi : i ≠ b) (h : (s.b i).isSome) : ((s.frb b ps).b i).isSome := by rw [frb_b hi]; simpa using h
theorem zJP {d : Option Nat} : ∀ k, L.zd d k → (L.frb b).zd d k := fun _ hk => hk.imp .inl (fun h => h)
mutual
theorem AVR.frb (hc : ∀ (j : Nat) p, ps[j]? = some p → ∃ u, w.cell? ⟨L.β b, j, none⟩ = some u ∧ PVR L.Z w p u) : ∀ (av : AV) (v : Value), AVR L w s av v → AVR (L.frb b) w (s.frb b ps) (av.frb b ps) v
 | .undef, v, _ => by simp [AV.frb, AVR]
 | .p d x, v, hv => by
  simp only [AV.frb, AVR] at hv ⊢
  exact ⟨hv.1.mono (fun _ _ => rfl) zJP, hv.2⟩
 | .sl d lo len, v, hv => by
  simp only [AV.frb, AVR] at hv ⊢
  exact hv
 | .ptr c off, v, hv => by
  by_cases e : c = b
  ·
   subst e
   simp only [AV.frb, Nat.beq_refl, AVR] at hv ⊢
   refine ⟨⟨_, off, hv.2, .inl (.inr rfl), fun j p hj => ?_⟩, fun _ h => by cases h⟩
   rw [List.getElem?_drop] at hj
   obtain ⟨u, hu, hq⟩ := hc _ p hj
   exact ⟨u, hu, hq.mono (fun _ _ => rfl) (fun k hk => .inl (.inl hk))⟩
  ·
   simp only [AV.frb, zEM e, AVR] at hv ⊢
   exact ⟨zFu e hv.1, hv.2⟩
 | .ea d i off, v, hv => by
  simp only [AV.frb, AVR] at hv ⊢
  exact hv
 | .fea d qs, v, hv => by
  simp only [AV.frb, AVR] at hv ⊢
  obtain ⟨⟨k, off, h1, h2, h3⟩, h4⟩ := hv
  exact ⟨⟨k, off, h1, zJP k h2, fun j p hj => by obtain ⟨u, hu, hq⟩ := h3 j p hj; exact ⟨u, hu, hq.mono (fun _ _ => rfl) zJP⟩⟩, h4⟩
 | .nils, v, hv => by simpa only [AV.frb, AVR] using hv
 | .sat A, v, hv => by simpa only [AV.frb, AVR] using hv
 | .clo f [], v, hv => by
  simp only [AV.frb, AVR] at hv ⊢
  simpa [AVR] using hv.2
 | .clo f [c], v, hv => by
  by_cases e : c = b
  ·
   subst e
   simp only [AV.frb, Nat.beq_refl, AVR] at hv ⊢
   refine ⟨?_, fun _ h => by cases h⟩
   rw [hv.2]
   refine .clo f [ps] [L.β c] rfl (by simp; exact .inl (.inr rfl)) (fun i j => ((w.cell? ⟨L.β c, j, none⟩).getD undef)) (fun i j es k p h1 h2 h3 => ?_) (fun i j es p h1 h2 => ?_)
   ·
    cases i with
    | zero =>
     simp at h1 h2
     subst h1 h2
     obtain ⟨u, hu, _⟩ := hc j p h3
     rw [hu]; rfl
    | succ i => simp at h1
   ·
    cases i with
    | zero =>
     simp at h1
     subst h1
     obtain ⟨u, hu, hq⟩ := hc j p h2
     rw [hu]
     exact hq.mono (fun _ _ => rfl) (fun k hk => .inl (.inl hk))
    | succ i => simp at h1
  ·
   simp only [AV.frb, zEM e, AVR] at hv ⊢
   exact ⟨fun x hx => by simp at hx; subst hx; exact zFu e (hv.1 x (by simp)), hv.2⟩
 | .clo f (c :: c' :: bs), v, hv => by
  simp only [AV.frb]
  split
  · simp [AVR]
  ·
   rename_i hn
   simp only [AVR] at hv ⊢
   exact ⟨fun x hx => zFu (fun e => hn (e ▸ hx)) (hv.1 x hx), hv.2⟩
 | .agg cs, v, hv => by
  simp only [AV.frb, AVR] at hv ⊢
  obtain ⟨us, h1, h2⟩ := hv
  exact ⟨us, h1, AVRs.frb hc cs us h2⟩
 | .tup cs, v, hv => by
  simp only [AV.frb, AVR] at hv ⊢
  obtain ⟨us, h1, h2⟩ := hv
  exact ⟨us, h1, AVRs.frb hc cs us h2⟩
theorem AVRs.frb (hc : ∀ (j : Nat) p, ps[j]? = some p → ∃ u, w.cell? ⟨L.β b, j, none⟩ = some u ∧ PVR L.Z w p u) : ∀ (l : List AV) (us : List Value), AVRs L w s l us → AVRs (L.frb b) w (s.frb b ps) (AV.frbs b ps l) us
 | [], [], _ => by simp [AV.frbs, AVRs]
 | [], _ :: _, hv => by simp [AVRs] at hv
 | _ :: _, [], hv => by simp [AVRs] at hv
 | x :: l, u :: us, hv => by
  simp only [AV.frbs, AVRs] at hv ⊢
  exact ⟨AVR.frb hc x u hv.1, AVRs.frb hc l us hv.2⟩
end
end
def ConS (P : Program) (f : FuncId) (args : List PA) (res : List PA) : Prop :=
 ∀ Z w vs E, PASs Z w args vs E → (∀ k, Z k → k < w.heap.size ∧ k ∉ Leaf.all E) → (Leaf.all E).Nodup → (∀ k ∈ Leaf.all E, k < w.heap.size) → Calls P f ⟨vs⟩ w fun e w' => ∃ v F Z', e = .returned v ∧ Same (Leaf.all E) w w' ∧
  RES Z' w' res v F ∧ (Leaf.all F).Nodup ∧ (∀ k ∈ Leaf.all F, w.heap.size ≤ k ∨ k ∈ Leaf.all E) ∧ (∀ k, Z k → Z' k) ∧ ∀ k, Z' k → k < w'.heap.size ∧ k ∉ Leaf.all F ∧ (Z k ∨ ((w.heap.size ≤ k ∨ k ∈ Leaf.all E) ∧ Cl w' k))

inductive GvS (s : St) : AV → PV → List Nat → Prop where
 | of {av : AV} {p : PV} {K : List Nat} (g : Gv s av p K) : GvS s av p K
 | nilf (sz : Nat) : GvS s .nils (.sl false sz []) []
inductive GvSs (s : St) : List AV → List PV → List Nat → Prop where
 | nil : GvSs s [] [] []
 | cons {a : AV} {p : PV} {K : List Nat} {l : List AV} {ps : List PV} {K' : List Nat} (h : GvS s a p K) (t : GvSs s l ps K') : GvSs s (a :: l) (p :: ps) (K ++ K')
inductive GPaS (s : St) : AV → PA → List Nat → Prop where
 | one {av : AV} {p : PV} {K : List Nat} (g : GvS s av p K) : GPaS s av (.one p) K
 | agg {cs : List AV} {ps : List PV} {K : List Nat} (g : GvSs s cs ps K) : GPaS s (.agg cs) (.agg ps) K
inductive GPasS (s : St) : List AV → List PA → List Nat → Prop where
 | nil : GPasS s [] [] []
 | cons {av : AV} {p : PA} {K : List Nat} {avs : List AV} {ps : List PA} {K' : List Nat} (h : GPaS s av p K) (t : GPasS s avs ps K') : GPasS s (av :: avs) (p :: ps) (K ++ K')
def EndsS (P : Program) (rs : List ResultVar) (res : List PA) (s : St) : Prop :=
 ∃ avs K, RvAs P s rs avs ∧ GPasS s avs res K ∧ K.Nodup
def RetS (P : Program) (rs : List ResultVar) (res : List PA) : Exit → St → Prop
 | .normal, s => EndsS P rs res s
 | .ret, s => EndsS P rs res s
 | _, _ => False
section
variable {w0 : World} {I : Fr} {n : Nat} {L : Pl} {s : St} {a : Act} {w : World}
theorem Gv.ps (h : Rel w0 I n L s a w) {av : AV} {p : PV} {K : List Nat} (g : Gv s av p K) {v : Value} (hv : AVR L w s av v) : ∃ F, PS L.Z w p v F ∧ Leaf.all F = K.flatMap L.ν := by
 have := g.ok h hv
 cases p with
 | v x =>
  have hK : K = [] := by cases g; rfl
  subst hK
  exact ⟨[], .nf rfl (by simpa using this), rfl⟩
 | sl o sz xs =>
  cases o with
  | true => exact ⟨_, .own this, by simp [Leaf.all]⟩
  | false =>
   have hK : K = [] := by cases g; rfl
   subst hK
   exact ⟨[], .nf rfl (by simpa using this), rfl⟩
 | clo f xs =>
  have hK : K = [] := by cases g; rfl
  subst hK
  exact ⟨[], .nf rfl (by simpa using this), rfl⟩
theorem GvS.ps (h : Rel w0 I n L s a w) {av : AV} {p : PV} {K : List Nat} (g : GvS s av p K) {v : Value} (hv : AVR L w s av v) : ∃ F, PS L.Z w p v F ∧ Leaf.all F = K.flatMap L.ν := by
 cases g with
 | of g => exact g.ps h hv
 | nilf sz =>
  simp only [AVR] at hv
  obtain ⟨A, rfl⟩ := hv
  exact ⟨[], .nf rfl (.fro _ _ _ (.emp _ _ _ _)), rfl⟩
theorem GPaS.ok (h : Rel w0 I n L s a w) {av : AV} {p : PA} {K : List Nat} (g : GPaS s av p K) {v : Value} (hv : AVR L w s av v) : ∃ F, PAS L.Z w p v F ∧ Leaf.all F = K.flatMap L.ν := by
 cases g with
 | one g =>
  obtain ⟨F, h1, h2⟩ := g.ps h hv
  exact ⟨F, .one h1, h2⟩
 | agg g =>
  rename_i cs ps
  simp only [AVR] at hv
  obtain ⟨us, rfl, hv⟩ := hv
  have : ∀ {cs ps K us}, GvSs s cs ps K → AVRs L w s cs us → ∃ F, PSs L.Z w ps us F ∧ Leaf.all F = K.flatMap L.ν := fun {cs ps K us} g => by
   induction g generalizing us with
   | nil =>
    intro hv
    cases us with
    | nil => exact ⟨[], .nil, rfl⟩
    | cons _ _ => simp [AVRs] at hv
   | cons g _ ih =>
    intro hv
    cases us with
    | nil => simp [AVRs] at hv
    | cons u us =>
     simp only [AVRs] at hv
     obtain ⟨F, h1, h2⟩ := g.ps h hv.1
     obtain ⟨F', h3, h4⟩ := ih hv.2
     exact ⟨F ++ F', .cons h1 h3, by simp only [Leaf.all, List.flatMap_append] at h2 h4 ⊢; rw [h2, h4]⟩
  obtain ⟨F, h1, h2⟩ := this g hv
  exact ⟨F, .agg h1, h2⟩
theorem GPasS.ok (h : Rel w0 I n L s a w) {avs : List AV} {ps : List PA} {K : List Nat} (g : GPasS s avs ps K) : ∀ {us : List Value} (_ : AVRs L w s avs us), ∃ F, PASs L.Z w ps us F ∧ Leaf.all F = K.flatMap L.ν := by
 induction g with
 | nil =>
  intro us hv
  cases us with
  | nil => exact ⟨[], .nil, rfl⟩
  | cons _ _ => simp [AVRs] at hv
 | cons g _ ih =>
  intro us hv
  cases us with
  | nil => simp [AVRs] at hv
  | cons u us =>
   simp only [AVRs] at hv
   obtain ⟨F, h1, h2⟩ := g.ok h hv.1
   obtain ⟨F', h3, h4⟩ := ih hv.2
   exact ⟨F ++ F', .cons h1 h3, by simp only [Leaf.all, List.flatMap_append] at h2 h4 ⊢; rw [h2, h4]⟩
theorem Gv.rows {av : AV} {p : PV} {K : List Nat} (g : Gv s av p K) : ∀ i ∈ K, (s.r i).isSome := by
 intro i hi
 cases g with
 | row hr hl => simp at hi; subst hi; rw [hr]; rfl
 | pre hr hl hn => simp at hi; subst hi; rw [hr]; rfl
 | _ => simp at hi
theorem GvS.rows {av : AV} {p : PV} {K : List Nat} (g : GvS s av p K) : ∀ i ∈ K, (s.r i).isSome := by
 cases g with
 | of g => exact g.rows
 | nilf sz => simp
theorem GvSs.rows {l : List AV} {ps : List PV} {K : List Nat} (g : GvSs s l ps K) : ∀ i ∈ K, (s.r i).isSome := by
 induction g with
 | nil => simp
 | cons g _ ih =>
  intro i hi
  rcases List.mem_append.1 hi with hi | hi
  · exact g.rows i hi
  · exact ih i hi
theorem GPasS.rows {avs : List AV} {ps : List PA} {K : List Nat} (g : GPasS s avs ps K) : ∀ i ∈ K, (s.r i).isSome := by
 induction g with
 | nil => simp
 | cons g _ ih =>
  intro i hi
  rcases List.mem_append.1 hi with hi | hi
  ·
   cases g with
   | one g => exact g.rows i hi
   | agg g => exact g.rows i hi
  · exact ih i hi
end
end Go.Rl
namespace Go.Rl
open Go.RowKit
inductive CellZ (s : St) : AV → PV → List Nat → Prop where
 | v {d : Option Nat} {x : Value} : CellZ s (.p d (.v x)) (.v x) []
 | sl {o : Bool} {sz : Nat} {xs : List (List PV)} : CellZ s (.p none (.sl o sz xs)) (.sl false sz xs) []
 | cl {f : Nat} {xs : List (List PV)} : CellZ s (.p none (.clo f xs)) (.clo f xs) []
 | nil (sz : Nat) : CellZ s .nils (.sl false sz []) []
 | own {id len sz : Nat} {xs : List (List PV)} (hr : s.r id = some (sz, xs)) (hl : len = xs.length) : CellZ s (.sl id 0 len) (.sl true sz xs) [id]
inductive CellZs (s : St) : List AV → List PV → List Nat → Prop where
 | nil : CellZs s [] [] []
 | cons {av : AV} {p : PV} {K : List Nat} {l : List AV} {ps : List PV} {K' : List Nat} (h : CellZ s av p K) (t : CellZs s l ps K') : CellZs s (av :: l) (p :: ps) (K ++ K')
inductive ArgZ (s : St) : AV → PA → List Nat → Prop where
 | one {av : AV} {p : PV} {K : List Nat} (h : CellZ s av p K) : ArgZ s av (.one p) K
 | agg {cs : List AV} {ps : List PV} {K : List Nat} (h : CellZs s cs ps K) : ArgZ s (.agg cs) (.agg ps) K
 | fea {ps : List PV} : ArgZ s (.fea none ps) (.fbox ps) []
 | rptr {id sz : Nat} {ps : List PV} (hr : s.r id = some (sz, [ps])) : ArgZ s (.ea id 0 0) (.rptr sz ps) [id]
inductive ArgZs (s : St) : List AV → List PA → List Nat → Prop where
 | nil : ArgZs s [] [] []
 | cons {av : AV} {p : PA} {K : List Nat} {l : List AV} {ps : List PA} {K' : List Nat} (h : ArgZ s av p K) (t : ArgZs s l ps K') : ArgZs s (av :: l) (p :: ps) (K ++ K')
theorem CellZ.mono {s s' : St} (h : Less s s') {av : AV} {p : PV} {K : List Nat} (g : CellZ s av p K) : CellZ s' av p K := by
 cases g with
 | v => exact .v
 | sl => exact .sl
 | cl => exact .cl
 | nil sz => exact .nil sz
 | own hr hl => exact .own (h.r _ _ hr) hl
theorem CellZs.mono {s s' : St} (h : Less s s') {l : List AV} {ps : List PV} {K : List Nat} (g : CellZs s l ps K) : CellZs s' l ps K := by
 induction g with
 | nil => exact .nil
 | cons g _ ih => exact .cons (g.mono h) ih
theorem ArgZs.mono {s s' : St} (h : Less s s') {l : List AV} {ps : List PA} {K : List Nat} (g : ArgZs s l ps K) : ArgZs s' l ps K := by
 induction g with
 | nil => exact .nil
 | cons g _ ih =>
  refine .cons ?_ ih
  cases g with
  | one g => exact .one (g.mono h)
  | agg g => exact .agg (g.mono h)
  | fea => exact .fea
  | rptr hr => exact .rptr (h.r _ _ hr)
section
variable {w0 : World} {I : Fr} {n : Nat} {L : Pl} {s : St} {a : Act} {w : World}
theorem zFW : ∀ k, L.zd none k → L.Z k := fun k hk => hk.elim (fun h => h) (fun ⟨_, h, _⟩ => by cases h)
theorem CellZ.ok (h : Rel w0 I n L s a w) {av : AV} {p : PV} {K : List Nat} (g : CellZ s av p K) {v : Value} (hv : AVR L w s av v) : PS L.Z w p v (K.map (lf L s)) := by
 cases g with
 | v => simp only [AVR] at hv; have h1 := hv.1; cases h1; exact .nf rfl (.v _ ‹_›)
 | sl => simp only [AVR] at hv; exact .nf rfl (((hv.1.flag false).mono (fun _ _ => rfl) zFW).nfO rfl)
 | cl => simp only [AVR] at hv; exact .nf rfl ((hv.1.mono (fun _ _ => rfl) zFW).nfO rfl)
 | nil sz => simp only [AVR] at hv; obtain ⟨A, rfl⟩ := hv; exact .nf rfl (.fro _ _ _ (.emp _ _ _ _))
 | own hr hl =>
  rename_i id len sz xs
  simp only [AVR] at hv
  obtain ⟨sz', xs', e1, e2, e3⟩ := hv
  rw [hr] at e1
  cases e1
  have hp := (h.rw _ _ _ hr).1
  have := zD3 e3 (fun A n c e => (zCI hp A n c e).trans hl.symm)
  subst this
  have hs : lf L s id = ⟨L.ρ id, L.ν id, sz⟩ := by simp [lf, hr]
  simp only [List.map_cons, List.map_nil, hs]
  exact .own hp
theorem CellZs.ok (h : Rel w0 I n L s a w) {l : List AV} {ps : List PV} {K : List Nat} (g : CellZs s l ps K) : ∀ {us : List Value} (_ : AVRs L w s l us), PSs L.Z w ps us (K.map (lf L s)) := by
 induction g with
 | nil =>
  intro us hv
  cases us with
  | nil => exact .nil
  | cons _ _ => simp [AVRs] at hv
 | cons g _ ih =>
  intro us hv
  cases us with
  | nil => simp [AVRs] at hv
  | cons u us =>
   simp only [AVRs] at hv
   rw [List.map_append]
   exact .cons (g.ok h hv.1) (ih hv.2)
theorem ArgZs.ok (h : Rel w0 I n L s a w) {l : List AV} {ps : List PA} {K : List Nat} (g : ArgZs s l ps K) : ∀ {us : List Value} (_ : AVRs L w s l us), PASs L.Z w ps us (K.map (lf L s)) := by
 induction g with
 | nil =>
  intro us hv
  cases us with
  | nil => exact .nil
  | cons _ _ => simp [AVRs] at hv
 | cons g _ ih =>
  intro us hv
  cases us with
  | nil => simp [AVRs] at hv
  | cons u us =>
   simp only [AVRs] at hv
   rw [List.map_append]
   refine .cons ?_ (ih hv.2)
   have h1 := hv.1
   cases g with
   | one g => exact .one (g.ok h h1)
   | agg g =>
    simp only [AVR] at h1
    obtain ⟨us, rfl, h1⟩ := h1
    exact .agg (g.ok h h1)
   | fea =>
    simp only [AVR] at h1
    obtain ⟨⟨k, off, rfl, hk, hc⟩, _⟩ := h1
    exact .fbox (zFW k hk) (fun j p hj => by obtain ⟨u, hu, hq⟩ := hc j p hj; exact ⟨u, hu, hq.mono (fun _ _ => rfl) zFW⟩)
   | rptr hr =>
    rename_i id sz ps
    simp only [AVR] at h1
    obtain ⟨sz', xs', k, m, c, e1, e2, e3, rfl⟩ := h1
    rw [hr] at e1
    cases e1
    have hp := (h.rw _ _ _ hr).1
    have hm := zCI hp _ _ _ e3
    simp only [List.length_cons, List.length_nil] at hm
    subst hm
    have hs : lf L s id = ⟨L.ρ id, L.ν id, sz⟩ := by simp [lf, hr]
    simp only [List.map_cons, List.map_nil, hs, Nat.zero_mul, Nat.add_zero]
    rw [e3] at hp ⊢
    exact .rptr hp
end
section
variable {γ : Gho} {P : Program} {n : Nat} {o : Oper} {M B : List Nat} {s : St}
end
end Go.Rl
namespace Go.Rl
open Go.RowKit
def InE (E : List Leaf) (outs : List (Option (List (List PV)))) (k : Nat) : Prop := ∃ (i : Nat) (lf : Leaf), E[i]? = some lf ∧ k ∈ lf.N ∧ ∀ xs', outs[i]? = some (some xs') → k ∈ lf.N.tail
def ConSG (γ : Gho) (P : Program) (f : FuncId) (args : List PA) (outs : List (Option (List (List PV)))) (res : List PA) : Prop :=
 ∀ Z w vs E, Gh γ w (Leaf.all E) → PASs Z w args vs E → (∀ k, Z k → k < w.heap.size ∧ k ∉ Leaf.all E) → (Leaf.all E).Nodup → (∀ k ∈ Leaf.all E, k < w.heap.size) → Calls P f ⟨vs⟩ w fun e w' => ∃ v F Z', e = .returned v ∧ Same (Leaf.all E) w w' ∧
  (∀ (i : Nat) lf xs', E[i]? = some lf → outs[i]? = some (some xs') → FlatP xs' ∧ ∃ N, PVO no w' (.sl true lf.sz xs') lf.v N) ∧
  RES Z' w' res v F ∧ (Leaf.all F).Nodup ∧ (∀ k ∈ Leaf.all F, w.heap.size ≤ k ∨ InE E outs k) ∧ (∀ k, Z k → Z' k) ∧ ∀ k, Z' k → k < w'.heap.size ∧ k ∉ Leaf.all F ∧ (Z k ∨ ((w.heap.size ≤ k ∨ InE E outs k) ∧ Cl w' k))
def zK7 (P : Program) (rs : List ResultVar) (args : List PA) (outs : List (Option (List (List PV)))) (res : List PA) (s : St) : Prop :=
 ∃ avs K, RvAs P s rs avs ∧ GPasS s avs res K ∧ K.Nodup ∧ OutsOk s K (owns (fun _ => pinT) pinT args) outs
def RetSG (P : Program) (rs : List ResultVar) (args : List PA) (outs : List (Option (List (List PV)))) (res : List PA) : Exit → St → Prop
 | .normal, s => zK7 P rs args outs res s
 | .ret, s => zK7 P rs args outs res s
 | _, _ => False
section
variable {γ : Gho} {P : Program} {n : Nat} {o : Oper} {M B : List Nat} {s : St}
end
end Go.Rl
namespace Go.Rl
open Go.RowKit
section
variable {γ : Gho} {P : Program} {n : Nat} {o : Oper} {M B : List Nat} {s : St}
theorem zIo {x y : Operand} {ats : Array TypeId} (ho : o.op = .call { callee := .builtin .min, args := #[x, y], argTypes := ats }) {d d' : Option Nat} {k : IntKind} {a b : Int} (hx : s.ev x = .p d (.v (.int k a))) (hy : s.ev y = .p d' (.v (.int k b))) :
  StepD γ P n o M B s { put := .p none (.v (.int k (min a b))) } :=
 zAp fun s' ag w0 I L ac w hr => by
  have h1 := hr.evv ((ag.ev1 ho (by simp [Op.operands, Call.operands])).trans hx)
  have h2 := hr.evv ((ag.ev1 ho (by simp [Op.operands, Call.operands])).trans hy)
  refine ⟨_, ?_, zBn L w s' rfl⟩
  by_cases hlt : b < a
  ·
   have : min a b = b := by omega
   simp [execOp, ho, resolve, invoke, builtin, Builtin.min_, Builtin.min2, h1, h2, hlt, this]
  ·
   have : min a b = a := by omega
   simp [execOp, ho, resolve, invoke, builtin, Builtin.min_, Builtin.min2, h1, h2, hlt, this]
theorem zGE {x y : Operand} {ats : Array TypeId} (ho : o.op = .call { callee := .builtin .max, args := #[x, y], argTypes := ats }) {d d' : Option Nat} {k : IntKind} {a b : Int} (hx : s.ev x = .p d (.v (.int k a))) (hy : s.ev y = .p d' (.v (.int k b))) :
  StepD γ P n o M B s { put := .p none (.v (.int k (max a b))) } :=
 zAp fun s' ag w0 I L ac w hr => by
  have h1 := hr.evv ((ag.ev1 ho (by simp [Op.operands, Call.operands])).trans hx)
  have h2 := hr.evv ((ag.ev1 ho (by simp [Op.operands, Call.operands])).trans hy)
  refine ⟨_, ?_, zBn L w s' rfl⟩
  by_cases hlt : a < b
  ·
   have : max a b = b := by omega
   simp [execOp, ho, resolve, invoke, builtin, Builtin.max_, Builtin.max2, h1, h2, hlt, this]
  ·
   have : max a b = a := by omega
   simp [execOp, ho, resolve, invoke, builtin, Builtin.max_, Builtin.max2, h1, h2, hlt, this]
end
end Go.Rl

/- Promises of functions, proved by walks over their operations; no conditions beyond those that each theorem states. -/
import Derived.Test.YtgdfpjpfomcilaaGreatRgC
import Derived.Test.YtgdfpjpfomcilaaGreatRlT
set_option linter.unusedSimpArgs false
set_option linter.unusedVariables false
namespace Go.Rl
open Go.Proofs Go.Proofs.Tryz
set_option maxRecDepth 1000000
set_option maxHeartbeats 2000000
theorem en28 : En Tryz.prog 28 := zAn func28 (by decide) rfl
theorem en23 : En Tryz.prog 23 := zAn func23 (by decide) rfl
theorem en24 : En Tryz.prog 24 := zAn func24 (by decide) rfl
theorem zb4 : ∀ w, (zeroValue 4).run Tryz.prog w = .ok (.bool false) w := fun w => by
 obtain ⟨i, h1, h2, _, _⟩ := zEG inf4
 simp [zeroValue, typeInfo, h1, h2]
theorem zN0 (e : Ent) (b : Int) : Con Tryz.prog 28 [.agg [PV.v (.string e.user), PV.v (.int .i64 e.seq), PV.v (.int .i64 e.kind), PV.v (.string e.value)], .fbox [PV.v (.int .i64 b)]] [] [.one (.v (.bool (zDy b e)))] := by
 refine zAS func28 rfl rfl rfl rfl ?_
 refine zAB (zAA rfl (.run [] [2] rfl (zBT rfl 2 rfl rfl (by decide) rfl (by decide)) (.a rfl rfl .nil)) ?_)
 refine zAB (zAA rfl (.r rfl (zAC rfl rfl underlying56 rfl sizeOf54 (by decide)) (.r rfl (zAC rfl rfl underlying54 rfl sizeOf2 (by decide)) (.r rfl (zAD rfl rfl rfl isAgg2 rfl) (.r rfl (zAd rfl rfl isAgg2 rfl) (.r rfl (zBz rfl rfl rfl) (.a rfl rfl .nil)))))) ?_)
 refine zAO ?_
 exact ends [_] [] (.cons (.tmp rfl) .nil) (.cons (.one .v (.v _)) .nil) (by decide) trivial
theorem zJJ (sq : Int) (mem : List Ent) (rs : RunL) (sn : List Int) (hm : mem.length ≤ 2000000) (hl : rs.length ≤ 1000000) (hb : ∀ r ∈ rs, r.2.length ≤ 2000000) (hsn : sn.length ≤ 1000000) : Con Tryz.prog 7 [.agg [PV.v (.int .i64 sq), PV.sl false 4 (pvE mem), PV.sl false 1 (pvR rs), PV.sl false 1 (pvI sn)]] [] [.one (.v (.bool (okB sq mem rs sn)))] := by
 refine zAS func7 rfl rfl rfl rfl ?_
 have hle := zAk rs
 have hlm := zAF mem
 have hls := zAU sn
 refine zAB (zAA rfl (.run [] [1] rfl (zBT rfl 1 rfl rfl (by decide) rfl (by decide)) (.a rfl rfl .nil)) ?_)
 refine zAB ?_
 refine zAB ?_
 refine zAV (s' := mk [(1, .ptr 1 0)] [(1, [.vi sq, .p none (.sl false 4 (pvE mem)), .p none (.sl false 1 (pvR rs)), .p none (.sl false 1 (pvI sn))])] []) ?_ ?_
 · exact zAI ⟨rfl, trivial⟩ ⟨rfl, trivial⟩ trivial rfl
 rcases bfc (!(zA1 sq 0 1000000000000)) with h1 | h1
 ·
  have h1' := h1
  replace h1' : (zA1 sq 0 1000000000000) = true := zBI h1'
  rcases bfc (!(zAp mem)) with h2 | h2
  ·
   have h2' := h2
   replace h2' : (zAp mem) = true := zBI h2'
   rcases bfc (!(zBG rs)) with h3 | h3
   ·
    have h3' := h3
    replace h3' : (zBG rs) = true := zBI h3'
    refine zAA rfl (.r rfl (zAC rfl rfl underlying28 rfl sizeOf2 (by decide)) (.r rfl (zAD rfl rfl rfl isAgg2 rfl) (.run [1200] [] rfl (zAK rfl 1200 (X := []) en21 rfl (.val nod) (.cons (.one (.bor .v)) (.cons (.one (.bor .v)) (.cons (.one (.bor .v)) .nil))) (by decide) all_nil .nil (zB4 sq 0 1000000000000) rfl rfl (nle rfl)) (.r rfl (zAX (zA3 (b := zA1 sq 0 1000000000000) rfl rfl) (zAM h1)) (.m rfl rfl (.r rfl (zAC rfl rfl underlying28 rfl sizeOf24 (by decide)) (.r rfl (zAD rfl rfl rfl isAgg24 rfl) (.run [1700] [] rfl (zAK rfl 1700 (X := []) en22 rfl (.val nod) (.cons (.one (.bor (.sl nod))) .nil) (by decide) all_nil .nil (zC1 mem (by omega)) rfl rfl (nle rfl)) (.r rfl (zAX (zA3 (b := zAp mem) rfl rfl) (zAM h2)) (.r rfl (zA5 rfl rfl) (.m rfl rfl (.r rfl (zAC rfl rfl underlying28 rfl sizeOf25 (by decide)) (.r rfl (zAD rfl rfl rfl isAgg25 rfl) (.run [2300] [] rfl (zAK rfl 2300 (X := []) en23 rfl (.val nod) (.cons (.one (.bor (.sl nod))) .nil) (by decide) all_nil .nil (zHU rs (by omega) hb) rfl rfl (nle rfl)) (.r rfl (zAX (zA3 (b := zBG rs) rfl rfl) (zAM h3)) (.r rfl (zA5 rfl rfl) (.m rfl rfl (.r rfl (zAC rfl rfl underlying28 rfl sizeOf26 (by decide)) (.r rfl (zAD rfl rfl rfl isAgg26 rfl) (.run [2900] [] rfl (zAK rfl 2900 (X := []) en24 rfl (.val nod) (.cons (.one (.bor (.sl nod))) .nil) (by decide) all_nil .nil (zKE sn (by omega)) rfl rfl (nle rfl)) (.r rfl (zA3 (b := zBK sn) rfl rfl) (.r rfl (zA5 rfl rfl) .nil)))))))))))))))))))))) ?_
    refine zAb (t := (!(zBK sn))) rfl (fun h4 => ?_) (fun h4 => ?_)
    ·
     replace h4 : (zBK sn) = false := zBH h4
     refine zAB ?_
     refine zAV (s' := mk [] [] []) ?_ ?_
     · exact zAI trivial trivial trivial rfl
     refine zAA rfl (.a rfl rfl .nil) ?_
     refine zAO ?_
     exact ends [_] [] (.cons (.tmp (zAM (zGE (zOJ (by simpa using h4))))) .nil) (.cons (.one .v (.v _)) .nil) (by decide) trivial
    ·
     replace h4 : (zBK sn) = true := zBI h4
     refine zAL ?_
     refine zAV (s' := mk [(1, .ptr 1 0)] [(1, [.vi sq, .p none (.sl false 4 (pvE mem)), .p none (.sl false 1 (pvR rs)), .p none (.sl false 1 (pvI sn))])] []) ?_ ?_
     · exact zAI ⟨rfl, trivial⟩ ⟨rfl, trivial⟩ trivial rfl
     refine tr_made (k := 2) (e := 4) rfl rfl rfl rfl (fun bm => ?_)
     refine ⟨_, _, fun ob hob => (.run [] [3] rfl (zAl rfl 3 inf2 rfl (by decide) rfl (by decide)) (.r rfl (zAE rfl rfl rfl rfl rfl sizeOf2 rfl (nle rfl)) (.a rfl rfl (.a rfl rfl .nil)))), ?_⟩
     refine zBq ?_
     refine zBq ?_
     have hbase : zBf sq mem rs sn = true := by simp_all [zBf]
     have hbm := zDg (l := mem) (by assumption)
     have hbr := zFD (rs := rs) (by assumption)
     have hbs := zFB (sn := sn) (by assumption)
     have hev := zAF (ents rs)
     refine zBS rfl (fun ob hob => (.r rfl (zAC rfl rfl underlying28 rfl sizeOf25 (by decide)) (.r rfl (zAD rfl rfl rfl isAgg25 rfl) (.run [3500] [] rfl (zAK rfl 3500 (X := []) en25 rfl (.val nod) (.cons (.one (.bor (.sl nod))) .nil) (by decide) all_nil .nil (zDc rs (by omega) (by omega)) rfl rfl (nle rfl)) (.r rfl (zA2 rfl rfl underlying24) (.m rfl rfl .nil)))))) ?_
     refine zE5 ?_
     refine zI1 (σ := Nat) (fun _ => []) (fun i => mk [(1, .ptr 1 0), (3, .ptr 3 0), (4, .p none (.v (.map (some bm)))), (5, .vi 0), (35, .sl 3500 0 ((pvE (ents rs)).length)), (36, .vi ((pvE (ents rs)).length : Int)), (37, .vi (i:Int))] [(1, [.vi sq, .p none (.sl false 4 (pvE mem)), .p none (.sl false 1 (pvR rs)), .p none (.sl false 1 (pvI sn))]), (3, [.vi (zCV ((ents rs).take i))])] [(3500, 4, pvE (ents rs))]) (fun i => i ≤ (ents rs).length) (fun i => (ents rs).length - i) 0 (by simp) (zAI ⟨rfl, rfl, rfl, rfl, rfl, rfl, (zAJ (by omega)), trivial⟩ ⟨rfl, rfl, trivial⟩ ⟨rfl, trivial⟩ rfl) rfl ?_
     rintro i hG
     replace hG : i ≤ (ents rs).length := hG
     refine zBq (zBS rfl (fun ob hob => (.r rfl (zA4 rfl rfl rfl) .nil)) ?_)
     refine zBq ?_
     refine zHO (t := decide ((i:Int) < ((pvE (ents rs)).length : Int))) rfl (fun h5 => ?_) (fun h5 => ?_)
     ·
      replace h5 := of_decide_eq_true h5
      refine zF9 ?_
      refine zBq ?_
      refine zE5 ?_
      refine zBq ?_
      obtain ⟨e, he⟩ : ∃ e, (ents rs)[i]? = some e := ⟨_, List.getElem?_eq_getElem (by omega)⟩
      refine zBS rfl (fun ob hob => (.r rfl (zAW i rfl rfl rfl rfl underlying24 sizeOf56 rfl rfl (by omega)) (.r rfl (zBB rfl rfl rfl (zAw he) isAgg56 sizeOf56 (nle rfl)) (.run [] [7] rfl (zAl rfl 7 zBb rfl (by decide) rfl (by decide)) (.r rfl (zAE rfl rfl rfl rfl rfl sizeOf56 rfl (nle rfl)) .nil))))) ?_
      refine zBS rfl (fun ob hob => (.r rfl (zAD rfl rfl rfl isAgg2 rfl) (.r rfl (zAC rfl rfl underlying56 rfl sizeOf54 (by decide)) (.r rfl (zAC rfl rfl underlying54 rfl sizeOf2 (by decide)) (.r rfl (zAD rfl rfl rfl isAgg2 rfl) (.r rfl (st_max rfl rfl rfl) (.r rfl (zAE rfl rfl rfl rfl rfl sizeOf2 rfl (nle rfl)) .nil))))))) ?_
      refine zBS rfl (fun ob hob => (.r rfl (zAe rfl rfl rfl (by omega)) (.m rfl rfl .nil))) ?_
      refine nxtM (Q := fun _ _ _ => False) (z := i) (i + 1) (rfl) ?_ ?_ ?_
      ·
       show (i + 1) ≤ (ents rs).length
       omega
      ·
       show (ents rs).length - (i + 1) < (ents rs).length - i
       omega
      · exact zAI ⟨rfl, rfl, rfl, rfl, rfl, rfl, (zAJ (by omega)), trivial⟩ ⟨rfl, (congrArg (fun z => some [AV.p none (.v (.int .i64 z))]) (zKt he).symm), trivial⟩ ⟨rfl, trivial⟩ rfl
     ·
      replace h5 := of_decide_eq_false h5
      refine zK9 ?_
      refine zBq ?_
      refine zBq ?_
      have hbl : zCV ((ents rs).take i) = zCV (ents rs) := by rw [List.take_of_length_le (by omega)]
      rw [hbl]
      have htt : (mem ++ ents rs).length = mem.length + (ents rs).length := List.length_append
      have htv := zAF (mem ++ ents rs)
      have hta : (pvE mem ++ pvE (ents rs)).length = (mem ++ ents rs).length := by rw [zIO, zAF]
      refine zEn zBD rfl (fun ob hob => (.r rfl (zAC rfl rfl underlying28 rfl sizeOf24 (by decide)) (.r rfl (zAD rfl rfl rfl isAgg24 rfl) (.run [4900] [] rfl (zAK rfl 4900 (X := []) en26 rfl (.val nod) (.cons (.one (.bor (.sl nod))) .nil) (by decide) all_nil .nil (zDi mem (by omega)) rfl rfl (nle rfl)) (.r rfl (zAC rfl rfl underlying28 rfl sizeOf25 (by decide)) (.r rfl (zAD rfl rfl rfl isAgg25 rfl) (.run [5200] [] rfl (zAK rfl 5200 (X := []) en25 rfl (.val nod) (.cons (.one (.bor (.sl nod))) .nil) (by decide) all_nil .nil (zDc rs (by omega) (by omega)) rfl rfl (nle rfl)) (.run [4900] [] rfl (zAq rfl 4900 (ib := 4900) (len := ((pvE mem) ++ (pvE (ents rs))).length) rfl rfl (.row (len := (pvE mem).length) (xs := pvE mem) rfl rfl (.inl rfl)) (.give (len := (pvE (ents rs)).length) (xs := pvE (ents rs)) rfl rfl) underlying24 (sk underlying24 rfl) zBb rfl (by decide) (by decide) (by decide) List.length_append (by simp only [maxLen, List.length_append, List.length_cons, List.length_nil, zAF]; omega) (by simp only [maxLen, List.length_append, List.length_cons, List.length_nil, zAF]; omega)) (.r rfl (zAX (zA2 rfl rfl underlying24) ((show (AV.p none (.v (.int .i64 ((pvE mem ++ pvE (ents rs)).length : Int)))) = AV.p none (.v (.int .i64 ((mem ++ ents rs).length : Int))) from zAJ (by omega)))) (.m rfl rfl .nil)))))))))) (by kernel_rfl) ?_
      have hr6 : (pvE mem) ++ (pvE (ents rs)) = pvE (mem ++ ents rs) := by exact zIO _ _
      have hp7 : (.sl 4900 0 (((pvE mem) ++ (pvE (ents rs))).length) : AV) = .sl 4900 0 ((pvE (mem ++ ents rs)).length) := by simp only [hr6]
      refine zE4 (s' := mk [(1, .ptr 1 0), (3, .ptr 3 0), (4, .p none (.v (.map (some bm)))), (5, .vi 0), (53, .sl 4900 0 ((pvE (mem ++ ents rs)).length)), (54, .vi ((mem ++ ents rs).length:Int)), (55, .vi 0)] [(1, [.vi sq, .p none (.sl false 4 (pvE mem)), .p none (.sl false 1 (pvR rs)), .p none (.sl false 1 (pvI sn))]), (3, [.vi (zCV (ents rs))])] [(4900, 4, pvE (mem ++ ents rs))]) ?_ ?_
      · exact zAI ⟨rfl, rfl, rfl, rfl, hp7, rfl, rfl, trivial⟩ ⟨rfl, rfl, trivial⟩ ⟨(congrArg (fun x => some (4, x)) hr6), trivial⟩ rfl
      refine zE5 ?_
      refine zI1 (σ := Nat) (fun i1 => zD7 ((mem ++ ents rs).take i1)) (fun i1 => mk [(1, .ptr 1 0), (3, .ptr 3 0), (4, .p none (.v (.map (some bm)))), (5, .vi (i1:Int)), (53, .sl 4900 0 ((pvE (mem ++ ents rs)).length)), (54, .vi ((mem ++ ents rs).length:Int)), (55, .vi (i1:Int))] [(1, [.vi sq, .p none (.sl false 4 (pvE mem)), .p none (.sl false 1 (pvR rs)), .p none (.sl false 1 (pvI sn))]), (3, [.vi (zCV (ents rs))])] [(4900, 4, pvE (mem ++ ents rs))]) (fun i1 => i1 ≤ (mem ++ ents rs).length ∧ i1 ≤ 400 ∧ Seqs sq (mem ++ ents rs) i1) (fun i1 => (mem ++ ents rs).length - i1) 0 ⟨Nat.zero_le _, Nat.zero_le _, zJC _ _⟩ (zAI ⟨rfl, rfl, rfl, (zAJ (by omega)), rfl, rfl, (zAJ (by omega)), trivial⟩ ⟨rfl, rfl, trivial⟩ ⟨rfl, trivial⟩ rfl) rfl ?_
      rintro i1 hG
      replace hG : i1 ≤ (mem ++ ents rs).length ∧ i1 ≤ 400 ∧ Seqs sq (mem ++ ents rs) i1 := hG
      obtain ⟨hi1, hi4, hS⟩ := hG
      refine zBq (zBS rfl (fun ob hob => (.r rfl (zA4 rfl rfl rfl) .nil)) ?_)
      refine zBq ?_
      refine zHO (t := decide ((i1:Int) < ((mem ++ ents rs).length:Int))) rfl (fun h8 => ?_) (fun h8 => ?_)
      ·
       replace h8 := of_decide_eq_true h8
       refine zF9 ?_
       refine zBq ?_
       refine zE5 ?_
       refine zBq ?_
       obtain ⟨x, hx⟩ : ∃ x, (mem ++ ents rs)[i1]? = some x := ⟨_, List.getElem?_eq_getElem (by omega)⟩
       have hxw := seq_wf (zIn (zEc hbase (List.mem_of_getElem? hx)))
       have hkl : (zD7 ((mem ++ ents rs).take i1)).length = i1 := by rw [zMJ, List.length_take]; omega
       refine zBS rfl (fun ob hob => (.r rfl (zAW i1 rfl rfl rfl rfl underlying24 sizeOf56 rfl rfl (by omega)) (.r rfl (zBB rfl rfl rfl (zAw hx) isAgg56 sizeOf56 (nle rfl)) (.run [] [9] rfl (zAl rfl 9 zBb rfl (by decide) rfl (by decide)) (.r rfl (zAE rfl rfl rfl rfl rfl sizeOf56 rfl (nle rfl)) .nil))))) ?_
       refine zBq ?_
       refine zBq (zBS rfl (fun ob hob => (.m rfl rfl (.r rfl (zAe rfl rfl rfl (by omega)) (.a rfl rfl .nil)))) ?_)
       refine zBq ?_
       refine zE4 (s' := mk [(1, .ptr 1 0), (3, .ptr 3 0), (4, .p none (.v (.map (some bm)))), (5, .vi ((i1:Int) + 1)), (9, .ptr 9 0), (53, .sl 4900 0 ((pvE (mem ++ ents rs)).length)), (54, .vi ((mem ++ ents rs).length:Int)), (55, .vi (i1:Int))] [(1, [.vi sq, .p none (.sl false 4 (pvE mem)), .p none (.sl false 1 (pvR rs)), .p none (.sl false 1 (pvI sn))]), (3, [.vi (zCV (ents rs))]), (9, [.vs x.user, .vi x.seq, .vi x.kind, .vs x.value])] [(4900, 4, pvE (mem ++ ents rs))]) ?_ ?_
       · exact zAI ⟨rfl, rfl, rfl, rfl, rfl, rfl, rfl, rfl, trivial⟩ ⟨rfl, rfl, rfl, trivial⟩ ⟨rfl, trivial⟩ rfl
       rcases bfc (decide (400 < ((i1:Int) + 1))) with h9 | h9
       ·
        have h9' := h9
        replace h9' := of_decide_eq_false h9'
        rcases bfc (decide (x.seq ∈ zD7 ((mem ++ ents rs).take i1))) with h10 | h10
        ·
         have h10' := h10
         replace h10' := of_decide_eq_false h10'
         refine zBS rfl (fun ob hob => (.m rfl rfl (.r rfl (zAX (zBF rfl rfl rfl) (zAM h9)) (.m rfl rfl (.m rfl rfl (.r rfl (zAC rfl rfl underlying56 rfl sizeOf54 (by decide)) (.r rfl (zAC rfl rfl underlying54 rfl sizeOf2 (by decide)) (.r rfl (zAD rfl rfl rfl isAgg2 rfl) (.r rfl (zAX (zI8 hob rfl underlying2 underlying4 underlying51 zb4 rfl rfl hxw) (zAM h10)) (.r rfl (zA5 rfl rfl) (.m rfl rfl (.r rfl (zAC rfl rfl underlying56 rfl sizeOf54 (by decide)) (.r rfl (zAC rfl rfl underlying54 rfl sizeOf2 (by decide)) (.r rfl (zAD rfl rfl rfl isAgg2 rfl) (.r rfl (zAC rfl rfl underlying28 rfl sizeOf2 (by decide)) (.r rfl (zAD rfl rfl rfl isAgg2 rfl) (.r rfl (zBF rfl rfl rfl) (.r rfl (zA5 rfl rfl) .nil)))))))))))))))))) ?_
         refine zHO (t := decide (sq < x.seq)) rfl (fun h11 => ?_) (fun h11 => ?_)
         ·
          replace h11 := of_decide_eq_true h11
          refine zBq ?_
          refine zE4 (s' := mk [] [] []) ?_ ?_
          · exact zAI trivial trivial trivial rfl
          refine zBS rfl (fun ob hob => (.a rfl rfl .nil)) ?_
          refine zFZ ?_
          exact ends [_] [] (.cons (.tmp (zAM (zJO (ok_big hx h11)))) .nil) (.cons (.one .v (.v _)) .nil) (by decide) trivial
         ·
          replace h11 := of_decide_eq_false h11
          refine zF9 ?_
          refine zE4 (s' := mk [(1, .ptr 1 0), (3, .ptr 3 0), (4, .p none (.v (.map (some bm)))), (5, .vi ((i1:Int) + 1)), (9, .ptr 9 0), (53, .sl 4900 0 ((pvE (mem ++ ents rs)).length)), (54, .vi ((mem ++ ents rs).length:Int)), (55, .vi (i1:Int)), (64, .p none (.v (.map (some bm)))), (65, .ptr 9 0), (66, .ptr 9 1), (67, .vi x.seq), (68, .vb false), (71, .ptr 9 0), (72, .ptr 9 1), (73, .vi x.seq), (74, .ptr 1 0), (75, .vi sq), (76, .vb (decide (sq < x.seq)))] [(1, [.vi sq, .p none (.sl false 4 (pvE mem)), .p none (.sl false 1 (pvR rs)), .p none (.sl false 1 (pvI sn))]), (3, [.vi (zCV (ents rs))]), (9, [.vs x.user, .vi x.seq, .vi x.kind, .vs x.value])] [(4900, 4, pvE (mem ++ ents rs))]) ?_ ?_
          · exact zAI ⟨rfl, rfl, rfl, rfl, rfl, rfl, rfl, rfl, rfl, rfl, rfl, rfl, rfl, rfl, rfl, rfl, rfl, rfl, rfl, trivial⟩ ⟨rfl, rfl, rfl, trivial⟩ ⟨rfl, trivial⟩ rfl
          refine zJ9 4 rfl (fun ob hob => (.m rfl rfl (.r rfl (zAC rfl rfl underlying56 rfl sizeOf54 (by decide)) (.r rfl (zAC rfl rfl underlying54 rfl sizeOf2 (by decide)) (.r rfl (zAD rfl rfl rfl isAgg2 rfl) .nil))))) rfl rfl rfl rfl rfl rfl rfl rfl underlying2 underlying4 underlying51 hxw (by rw [hkl]; simp only [maxLen]; omega) ?_
          refine zBS rfl (fun ob hob => (.r rfl (zAe rfl rfl rfl (by omega)) (.m rfl rfl .nil))) ?_
          refine nxtM (Q := fun _ _ _ => False) (z := i1) (i1 + 1) (zKH hx) ?_ ?_ ?_
          ·
           show (i1 + 1) ≤ (mem ++ ents rs).length ∧ (i1 + 1) ≤ 400 ∧ Seqs sq (mem ++ ents rs) (i1 + 1)
           exact ⟨by omega, by omega, zJD hS hx h11 (not_met h10')⟩
          ·
           show (mem ++ ents rs).length - (i1 + 1) < (mem ++ ents rs).length - i1
           omega
          · exact zAI ⟨rfl, rfl, rfl, (zAJ (by omega)), rfl, rfl, (zAJ (by omega)), trivial⟩ ⟨rfl, rfl, trivial⟩ ⟨rfl, trivial⟩ rfl
        ·
         have h10' := h10
         replace h10' := of_decide_eq_true h10'
         refine zBS rfl (fun ob hob => (.m rfl rfl (.r rfl (zAX (zBF rfl rfl rfl) (zAM h9)) (.m rfl rfl (.m rfl rfl (.r rfl (zAC rfl rfl underlying56 rfl sizeOf54 (by decide)) (.r rfl (zAC rfl rfl underlying54 rfl sizeOf2 (by decide)) (.r rfl (zAD rfl rfl rfl isAgg2 rfl) (.r rfl (zAX (zI8 hob rfl underlying2 underlying4 underlying51 zb4 rfl rfl hxw) (zAM h10)) (.r rfl (zA5 rfl rfl) (.m rfl rfl (.not rfl (.not rfl (.not rfl (.not rfl (.not rfl (.not rfl (.r rfl (zBZ rfl rfl) .nil)))))))))))))))))) ?_
         refine zHO (t := true) rfl (fun _ => ?_) (fun h => nomatch h)
         refine zBq ?_
         refine zE4 (s' := mk [] [] []) ?_ ?_
         · exact zAI trivial trivial trivial rfl
         refine zBS rfl (fun ob hob => (.a rfl rfl .nil)) ?_
         refine zFZ ?_
         exact ends [_] [] (.cons (.tmp (zAM (zJO (ok_met hx h10')))) .nil) (.cons (.one .v (.v _)) .nil) (by decide) trivial
       ·
        have h9' := h9
        replace h9' := of_decide_eq_true h9'
        refine zBS rfl (fun ob hob => (.m rfl rfl (.r rfl (zAX (zBF rfl rfl rfl) (zAM h9)) (.m rfl rfl (.not rfl (.not rfl (.not rfl (.not rfl (.not rfl (.r rfl (zBZ rfl rfl) (.m rfl rfl (.not rfl (.not rfl (.not rfl (.not rfl (.not rfl (.not rfl (.r rfl (zBZ rfl rfl) .nil)))))))))))))))))) ?_
        refine zHO (t := true) rfl (fun _ => ?_) (fun h => nomatch h)
        refine zBq ?_
        refine zE4 (s' := mk [] [] []) ?_ ?_
        · exact zAI trivial trivial trivial rfl
        refine zBS rfl (fun ob hob => (.a rfl rfl .nil)) ?_
        refine zFZ ?_
        exact ends [_] [] (.cons (.tmp (zAM (zJO (fun q => by have := q.few; omega)))) .nil) (.cons (.one .v (.v _)) .nil) (by decide) trivial
      ·
       replace h8 := of_decide_eq_false h8
       refine zK9 ?_
       refine zBq ?_
       refine zBq ?_
       have htl : (mem ++ ents rs).length ≤ 400 := (by omega)
       have hS : Seqs sq (mem ++ ents rs) (mem ++ ents rs).length := (fun j x hj hx => hS j x (by omega) hx)
       refine zBS rfl (fun ob hob => (.r rfl (zAC rfl rfl underlying28 rfl sizeOf24 (by decide)) (.r rfl (zAD rfl rfl rfl isAgg24 rfl) (.r rfl (zIE (bs := [3]) rfl rfl) (.run [8600] [3] rfl (zAK rfl 8600 (X := []) en27 rfl (.val nod) (.cons (.one (.bor (.sl nod))) (.cons (.one (.bor (.clo (.cons rfl (.cons .v .nil) .nil)))) .nil)) (by decide) all_nil .nil (zFq mem (by omega) 28 [[.v (.int .i64 (zCV (ents rs)))]] (zDy (zCV (ents rs))) en28 (fun x _ => zN0 x (zCV (ents rs)))) rfl rfl (nle rfl)) .nil))))) ?_
       refine zHO (t := decide (0 ≤ idxF (zDy (zCV (ents rs))) mem)) rfl (fun h12 => ?_) (fun h12 => ?_)
       ·
        replace h12 := of_decide_eq_true h12
        refine zBq (zBS rfl (fun ob hob => (.a rfl rfl .nil)) ?_)
        refine zFZ ?_
        exact ends [_] [] (.cons (.tmp (zAM (zJO (fun q => by have := q.mem; omega)))) .nil) (.cons (.one .v (.v _)) .nil) (by decide) trivial
       ·
        replace h12 := of_decide_eq_false h12
        refine zF9 ?_
        refine zBq ?_
        rcases Nat.eq_zero_or_pos sn.length with hz | hz
        ·
         refine zE4 (s' := mk [(1, .ptr 1 0)] [(1, [.vi sq, .p none (.sl false 4 (pvE mem)), .p none (.sl false 1 (pvR rs)), .p none (.sl false 1 (pvI sn))])] []) ?_ ?_
         · exact zAI ⟨rfl, trivial⟩ ⟨rfl, trivial⟩ trivial rfl
         rcases bfc (decide (((pvI sn).length : Int) = 0)) with h13 | h13
         ·
          have h13' := h13
          replace h13' := of_decide_eq_false h13'
          omega
         ·
          have h13' := h13
          replace h13' := of_decide_eq_true h13'
          refine zEn zBD rfl (fun ob hob => (.r rfl (zAC rfl rfl underlying28 rfl sizeOf26 (by decide)) (.r rfl (zAD rfl rfl rfl isAgg26 rfl) (.r rfl (zAa rfl rfl underlying26) (.r rfl (zAX (zA9 rfl rfl rfl) (zAM h13)) (.m rfl rfl (.not rfl (.not rfl (.not rfl (.not rfl (.not rfl (.not rfl (.not rfl (.not rfl (.not rfl (.not rfl (.not rfl (.r rfl (zBZ rfl rfl) (.a rfl rfl .nil))))))))))))))))))) (by kernel_rfl) ?_
          refine zFZ ?_
          exact ends [_] [] (.cons (.tmp (zAM (zO6 hbase htl hS h12 (by omega)))) .nil) (.cons (.one .v (.v _)) .nil) (by decide) trivial
        ·
         obtain ⟨x, hx⟩ : ∃ x, sn[sn.length - 1]? = some x := ⟨_, List.getElem?_eq_getElem (by omega)⟩
         refine zE4 (s' := mk [(1, .ptr 1 0)] [(1, [.vi sq, .p none (.sl false 4 (pvE mem)), .p none (.sl false 1 (pvR rs)), .p none (.sl false 1 (pvI sn))])] []) ?_ ?_
         · exact zAI ⟨rfl, trivial⟩ ⟨rfl, trivial⟩ trivial rfl
         rcases bfc (decide (((pvI sn).length : Int) = 0)) with h14 | h14
         ·
          have h14' := h14
          replace h14' := of_decide_eq_false h14'
          refine zEn zBD rfl (fun ob hob => (.r rfl (zAC rfl rfl underlying28 rfl sizeOf26 (by decide)) (.r rfl (zAD rfl rfl rfl isAgg26 rfl) (.r rfl (zAa rfl rfl underlying26) (.r rfl (zAX (zA9 rfl rfl rfl) (zAM h14)) (.m rfl rfl (.r rfl (zAC rfl rfl underlying28 rfl sizeOf26 (by decide)) (.r rfl (zAD rfl rfl rfl isAgg26 rfl) (.r rfl (zAC rfl rfl underlying28 rfl sizeOf26 (by decide)) (.r rfl (zAD rfl rfl rfl isAgg26 rfl) (.r rfl (zAa rfl rfl underlying26) (.r rfl (zAX (zAs rfl rfl rfl (by omega)) ((show (AV.p none (.v (.int .i64 (((pvI sn).length : Int) - 1)))) = AV.p none (.v (.int .i64 ((sn.length - 1 : Nat) : Int))) from zAJ (by omega)))) (.r rfl (zAf rfl rfl rfl underlying26 sizeOf2 rfl (by omega) (zBe hx)) (.r rfl (zAd rfl rfl isAgg2 rfl) (.r rfl (zAC rfl rfl underlying28 rfl sizeOf2 (by decide)) (.r rfl (zAD rfl rfl rfl isAgg2 rfl) (.r rfl (zBz rfl rfl rfl) (.r rfl (zA5 rfl rfl) (.a rfl rfl .nil))))))))))))))))))) (by kernel_rfl) ?_
          refine zFZ ?_
          exact ends [_] [] (.cons (.tmp (zAM (zO7 hbase htl hS h12 hx))) .nil) (.cons (.one .v (.v _)) .nil) (by decide) trivial
         ·
          have h14' := h14
          replace h14' := of_decide_eq_true h14'
          omega
   ·
    have h3' := h3
    replace h3' : (zBG rs) = false := zBH h3'
    refine zAA rfl (.r rfl (zAC rfl rfl underlying28 rfl sizeOf2 (by decide)) (.r rfl (zAD rfl rfl rfl isAgg2 rfl) (.run [1200] [] rfl (zAK rfl 1200 (X := []) en21 rfl (.val nod) (.cons (.one (.bor .v)) (.cons (.one (.bor .v)) (.cons (.one (.bor .v)) .nil))) (by decide) all_nil .nil (zB4 sq 0 1000000000000) rfl rfl (nle rfl)) (.r rfl (zAX (zA3 (b := zA1 sq 0 1000000000000) rfl rfl) (zAM h1)) (.m rfl rfl (.r rfl (zAC rfl rfl underlying28 rfl sizeOf24 (by decide)) (.r rfl (zAD rfl rfl rfl isAgg24 rfl) (.run [1700] [] rfl (zAK rfl 1700 (X := []) en22 rfl (.val nod) (.cons (.one (.bor (.sl nod))) .nil) (by decide) all_nil .nil (zC1 mem (by omega)) rfl rfl (nle rfl)) (.r rfl (zAX (zA3 (b := zAp mem) rfl rfl) (zAM h2)) (.r rfl (zA5 rfl rfl) (.m rfl rfl (.r rfl (zAC rfl rfl underlying28 rfl sizeOf25 (by decide)) (.r rfl (zAD rfl rfl rfl isAgg25 rfl) (.run [2300] [] rfl (zAK rfl 2300 (X := []) en23 rfl (.val nod) (.cons (.one (.bor (.sl nod))) .nil) (by decide) all_nil .nil (zHU rs (by omega) hb) rfl rfl (nle rfl)) (.r rfl (zAX (zA3 (b := zBG rs) rfl rfl) (zAM h3)) (.r rfl (zA5 rfl rfl) (.m rfl rfl (.not rfl (.not rfl (.not rfl (.not rfl (.r rfl (zBZ rfl rfl) .nil)))))))))))))))))))))) ?_
    refine zAb (t := true) rfl (fun _ => ?_) (fun h => nomatch h)
    refine zAB ?_
    refine zAV (s' := mk [] [] []) ?_ ?_
    · exact zAI trivial trivial trivial rfl
    refine zAA rfl (.a rfl rfl .nil) ?_
    refine zAO ?_
    exact ends [_] [] (.cons (.tmp (zAM (zGE (zOK (by simpa using h3))))) .nil) (.cons (.one .v (.v _)) .nil) (by decide) trivial
  ·
   have h2' := h2
   replace h2' : (zAp mem) = false := zBH h2'
   refine zAA rfl (.r rfl (zAC rfl rfl underlying28 rfl sizeOf2 (by decide)) (.r rfl (zAD rfl rfl rfl isAgg2 rfl) (.run [1200] [] rfl (zAK rfl 1200 (X := []) en21 rfl (.val nod) (.cons (.one (.bor .v)) (.cons (.one (.bor .v)) (.cons (.one (.bor .v)) .nil))) (by decide) all_nil .nil (zB4 sq 0 1000000000000) rfl rfl (nle rfl)) (.r rfl (zAX (zA3 (b := zA1 sq 0 1000000000000) rfl rfl) (zAM h1)) (.m rfl rfl (.r rfl (zAC rfl rfl underlying28 rfl sizeOf24 (by decide)) (.r rfl (zAD rfl rfl rfl isAgg24 rfl) (.run [1700] [] rfl (zAK rfl 1700 (X := []) en22 rfl (.val nod) (.cons (.one (.bor (.sl nod))) .nil) (by decide) all_nil .nil (zC1 mem (by omega)) rfl rfl (nle rfl)) (.r rfl (zAX (zA3 (b := zAp mem) rfl rfl) (zAM h2)) (.r rfl (zA5 rfl rfl) (.m rfl rfl (.not rfl (.not rfl (.not rfl (.not rfl (.r rfl (zBZ rfl rfl) (.m rfl rfl (.not rfl (.not rfl (.not rfl (.not rfl (.r rfl (zBZ rfl rfl) .nil)))))))))))))))))))))) ?_
   refine zAb (t := true) rfl (fun _ => ?_) (fun h => nomatch h)
   refine zAB ?_
   refine zAV (s' := mk [] [] []) ?_ ?_
   · exact zAI trivial trivial trivial rfl
   refine zAA rfl (.a rfl rfl .nil) ?_
   refine zAO ?_
   exact ends [_] [] (.cons (.tmp (zAM (zGE (zOL (by simpa using h2))))) .nil) (.cons (.one .v (.v _)) .nil) (by decide) trivial
 ·
  have h1' := h1
  replace h1' : (zA1 sq 0 1000000000000) = false := zBH h1'
  refine zAA rfl (.r rfl (zAC rfl rfl underlying28 rfl sizeOf2 (by decide)) (.r rfl (zAD rfl rfl rfl isAgg2 rfl) (.run [1200] [] rfl (zAK rfl 1200 (X := []) en21 rfl (.val nod) (.cons (.one (.bor .v)) (.cons (.one (.bor .v)) (.cons (.one (.bor .v)) .nil))) (by decide) all_nil .nil (zB4 sq 0 1000000000000) rfl rfl (nle rfl)) (.r rfl (zAX (zA3 (b := zA1 sq 0 1000000000000) rfl rfl) (zAM h1)) (.m rfl rfl (.not rfl (.not rfl (.not rfl (.not rfl (.r rfl (zBZ rfl rfl) (.m rfl rfl (.not rfl (.not rfl (.not rfl (.not rfl (.r rfl (zBZ rfl rfl) (.m rfl rfl (.not rfl (.not rfl (.not rfl (.not rfl (.r rfl (zBZ rfl rfl) .nil)))))))))))))))))))))) ?_
  refine zAb (t := true) rfl (fun _ => ?_) (fun h => nomatch h)
  refine zAB ?_
  refine zAV (s' := mk [] [] []) ?_ ?_
  · exact zAI trivial trivial trivial rfl
  refine zAA rfl (.a rfl rfl .nil) ?_
  refine zAO ?_
  exact ends [_] [] (.cons (.tmp (zAM (zGE (zOM (by simpa using h1))))) .nil) (.cons (.one .v (.v _)) .nil) (by decide) trivial
end Go.Rl
namespace Go.Rl
def totI (d : Eng) : List Ent := d.mem ++ ents (tagT d.runs)
def allI (d : Eng) : List Ent := zCR cmpK (totI d)
noncomputable def okI (d : Eng) : Bool := okB d.seq d.mem (tagT d.runs) d.snaps
def askI (d : Eng) (a : Int) : Int := if a = -1 then d.seq else a
theorem zMq {d : Eng} (hb : zBf d.seq d.mem (tagT d.runs) d.snaps = true) : Small d := by
 simp only [zBf, Bool.and_eq_true, zA1, decide_eq_true_eq] at hb
 obtain ⟨h1, h2, h3, h4⟩ := hb
 have r := zFD h3
 rw [zBv, zCK] at r
 exact ⟨zDg h2, r.1, r.2, zFB h4, h1⟩
theorem zCC {d : Eng} (h : okB d.seq d.mem (tagT d.runs) d.snaps = true) : Small d := zMq (zD0 h).1
theorem zFC {sq : Int} {l : List Ent} (h : Seqs sq l l.length) : l.Pairwise (fun x y => x.seq ≠ y.seq) :=
 List.pairwise_iff_getElem.2 fun i j hi hj hij => (h j _ hj (List.getElem?_eq_getElem hj)).2 i _ hij (List.getElem?_eq_getElem hi)
theorem zKF {sq : Int} {l : List Ent} (h1 : l.Pairwise (fun x y => x.seq ≠ y.seq)) (h2 : ∀ e ∈ l, e.seq ≤ sq) : Seqs sq l l.length := fun j x _ hx =>
 ⟨h2 x (List.mem_of_getElem? hx), fun k y hk hy => by
  have := List.pairwise_iff_getElem.1 h1 k j (List.getElem?_eq_some_iff.1 hy).1 (List.getElem?_eq_some_iff.1 hx).1 hk
  rw [(List.getElem?_eq_some_iff.1 hx).2, (List.getElem?_eq_some_iff.1 hy).2] at this
  exact this⟩
theorem zKG {sq : Int} {l : List Ent} (h : Seqs sq l l.length) : ∀ e ∈ l, e.seq ≤ sq := fun e he => by
 obtain ⟨i, hi⟩ := List.getElem?_of_mem he
 exact (h i e (List.getElem?_eq_some_iff.1 hi).1 hi).1
theorem zKV {sq : Int} {mem : List Ent} {rs : RunL} {sn : List Int} (h : okB sq mem rs sn = true) : Dist cmpK (mem ++ ents rs) := zJj (zFC (zD0 h).2.seqs)
theorem zKA {d : Eng} (h : okB d.seq d.mem (tagT d.runs) d.snaps = true) : (totI d).length ≤ 400 := (zD0 h).2.few
theorem zIw {d : Eng} (h : okB d.seq d.mem (tagT d.runs) d.snaps = true) : (allI d).length ≤ 400 := by rw [allI, zEF]; exact zKA h
noncomputable def getI (d : Eng) (u : ByteArray) (a : Int) : Int × ByteArray := if okI d = true then (if zFW d a = true then getE (allI d) u (askI d a) else (3, ⟨#[]⟩)) else (3, ⟨#[]⟩)
def zH1 (f t : ByteArray) (l : List Pr) : List Pr := l.filter (fun x => !outP f t x)
noncomputable def zD8 (d : Eng) (a : Int) (f t : ByteArray) : List Pr × Int := if okI d = true then (if zFW d a = true then (zH1 f t (visF (allI d) (askI d a)), 0) else ([], 4)) else ([], 1)
noncomputable def writeI (d : Eng) (ops : List Bop) : Eng × Int := if okI d = true then (if zBX (d.seq + 1) ops = false then (d, 2) else if 400 < (totI d).length + ops.length then (d, 3) else (⟨d.seq + (ops.length : Int), zCR cmpK (d.mem ++ zBg (d.seq + 1) ops), d.runs, d.snaps⟩, 0)) else (Eng.nil, 1)
variable {d : Eng} {u f t : ByteArray} {a : Int} {ops : List Bop}
theorem no_ok (h : okB d.seq d.mem (tagT d.runs) d.snaps = false) : ¬ okI d = true := fun q => by rw [okI, h] at q; cases q
theorem scan_w (h : okB d.seq d.mem (tagT d.runs) d.snaps = false) : zD8 d a f t = ([], 1) := if_neg (no_ok h)
theorem scan_n (h : okB d.seq d.mem (tagT d.runs) d.snaps = true) (h1 : zFW d a = false) : zD8 d a f t = ([], 4) := by rw [zD8, if_pos (show okI d = true from h), if_neg (by rw [h1]; decide)]
theorem zND (h : okB d.seq d.mem (tagT d.runs) d.snaps = true) (h1 : zFW d a = true) : zD8 d a f t = (zH1 f t (visF (allI d) (askI d a)), 0) := by rw [zD8, if_pos (show okI d = true from h), if_pos h1]
theorem zIB (d : Eng) : (totI d).length = d.mem.length + (ents (tagT d.runs)).length := by rw [totI, List.length_append]
theorem zPf {s : Int} {ops : List Bop} {e : Ent} (he : e ∈ zBg s ops) : s ≤ e.seq ∧ e.seq < s + ops.length := by
 obtain ⟨i, hi⟩ := List.getElem?_of_mem he
 obtain ⟨hlt, hx⟩ := List.getElem?_eq_some_iff.1 hi
 rw [zC5] at hlt
 rw [← hx]
 simp only [zBg, List.getElem_mapIdx, bent]
 omega
end Go.Rl
namespace Go.Rl
open Go.Proofs Go.Proofs.Tryz
set_option maxRecDepth 1000000
set_option maxHeartbeats 2000000
theorem en7 : En Tryz.prog 7 := zAn func7 (by decide) rfl
theorem en41 : En Tryz.prog 41 := zAn func41 (by decide) rfl
theorem en44 : En Tryz.prog 44 := zAn func44 (by decide) rfl
theorem en43 : En Tryz.prog 43 := zAn func43 (by decide) rfl
theorem en42 : En Tryz.prog 42 := zAn func42 (by decide) rfl
theorem en34 : En Tryz.prog 34 := zAn func34 (by decide) rfl
theorem zB6 (d : Eng) (h : EB d) : Con Tryz.prog 7 [.agg [.v (.int .i64 d.seq), .sl false 4 (pvE d.mem), .sl false 1 (pvR (tagT d.runs)), .sl false 1 (pvI d.snaps)]] [] [.one (.v (.bool (okB d.seq d.mem (tagT d.runs) d.snaps)))] := zJJ d.seq d.mem (tagT d.runs) d.snaps h.mem h.tag h.b h.snaps
theorem zL1 (d : Eng) (h : Small d) : Con Tryz.prog 34 [.agg [.v (.int .i64 d.seq), .sl false 4 (pvE d.mem), .sl false 1 (pvR (tagT d.runs)), .sl false 1 (pvI d.snaps)]] [] [.agg [.v (.int .i64 d.seq), .sl true 4 (pvE d.mem), .sl true 1 (pvR (tagT d.runs)), .sl true 1 (pvI d.snaps)]] := by
 have q := zMk d.seq d.mem (tagT d.runs) d.snaps (by rw [zCK]; have := h.mem; have := h.ents; omega) h.eb.tag h.eb.snaps
 rwa [zKR] at q
theorem dbAll_d (d : Eng) (h : okB d.seq d.mem (tagT d.runs) d.snaps = true) : Con Tryz.prog 44 [.agg [.v (.int .i64 d.seq), .sl false 4 (pvE d.mem), .sl false 1 (pvR (tagT d.runs)), .sl false 1 (pvI d.snaps)]] [] [.one (.sl true 4 (pvE (allI d)))] := zN1 d.seq d.mem (tagT d.runs) d.snaps (by have := (zCC h).mem; have := (zCC h).ents; rw [zCK]; omega) (zCC h).eb.tag (zCC h).eb.snaps (zKV h)
theorem asOf_d (d : Eng) (a : Int) (h : d.snaps.length ≤ 2000000) : Con Tryz.prog 41 [.agg [.v (.int .i64 d.seq), .sl false 4 (pvE d.mem), .sl false 1 (pvR (tagT d.runs)), .sl false 1 (pvI d.snaps)], .one (.v (.int .i64 a))] [] [.one (.v (.int .i64 (askI d a))), .one (.v (.bool (zFW d a)))] := zPh d.seq d.mem (tagT d.runs) d.snaps a h
theorem zPJ (d : Eng) (h : Small d) : Con Tryz.prog 25 [.one (PV.sl false 1 (pvR (tagT d.runs)))] [] [.one (.sl true 4 (pvE (ents (tagT d.runs))))] := zDc (tagT d.runs) (by rw [zCK]; have := h.ents; omega) (by rw [zBv]; have := h.runs; omega)
theorem zDX (d : Eng) (hD : EB d) (a : Int) (f t : ByteArray) : Con Tryz.prog 12 [.agg [PV.v (.int .i64 d.seq), PV.sl false 4 (pvE d.mem), PV.sl false 1 (pvR (tagT d.runs)), PV.sl false 1 (pvI d.snaps)], .one (PV.v (.int .i64 a)), .one (PV.v (.string f)), .one (PV.v (.string t))] [] [.one (.sl true 2 (pvP (zD8 d a f t).1)), .one (.v (.int .i64 ((zD8 d a f t).2)))] := by
 refine zAS func12 rfl rfl rfl rfl ?_
 have hl1 := zAF d.mem
 have hl2 := zAk (tagT d.runs)
 have hl3 := zAU d.snaps
 have hl4 := zBv d.runs
 refine zAB (zAA rfl (.run [] [4] rfl (zBT rfl 4 rfl rfl (by decide) rfl (by decide)) (.a rfl rfl (.a rfl rfl .nil))) ?_)
 refine zAB ?_
 refine zAB (zAA rfl (.r rfl (zAG rfl rfl rfl isAgg28 sizeOf28 (nle rfl)) (.run [1300] [] rfl (zAK rfl 1300 (X := []) en7 rfl (.val nod) (.cons (.agg (.cons (.bor .v) (.cons (.bor (.sl nod)) (.cons (.bor (.sl nod)) (.cons (.bor (.sl nod)) .nil))))) .nil) (by decide) all_nil .nil (zB6 d hD) rfl rfl (nle rfl)) (.r rfl (zA3 (b := okB d.seq d.mem (tagT d.runs) d.snaps) rfl rfl) .nil))) ?_)
 refine zAb (t := (!(okB d.seq d.mem (tagT d.runs) d.snaps))) rfl (fun h1 => ?_) (fun h1 => ?_)
 ·
  replace h1 : (okB d.seq d.mem (tagT d.runs) d.snaps) = false := zBH h1
  refine zAB ?_
  have hw : okB d.seq d.mem (tagT d.runs) d.snaps = false := by simpa using h1
  rw [scan_w hw]
  refine zAA rfl (.a rfl rfl (.a rfl rfl .nil)) ?_
  refine zAO ?_
  exact ends [_, _] [] (.cons (.tmp rfl) (.cons (.tmp rfl) .nil)) (.cons (.one (.nil _) (.sl _ _ (fun _ h => nomatch h))) (.cons (.one .v (.v _)) .nil)) (by decide) trivial
 ·
  replace h1 : (okB d.seq d.mem (tagT d.runs) d.snaps) = true := zBI h1
  refine zAL ?_
  refine zAB ?_
  have hok : okB d.seq d.mem (tagT d.runs) d.snaps = true := by simpa using h1
  have hsm := zCC hok
  have hm1 := hsm.mem
  have hm2 := hsm.runs
  have hm3 := hsm.snaps
  have hm4 := hsm.seq
  have hal := zIw hok
  have hav := zAF (allI d)
  refine zAA rfl (.r rfl (zAG rfl rfl rfl isAgg28 sizeOf28 (nle rfl)) (.m rfl rfl (.run [1800, 1801] [] rfl (zAK rfl 1800 (X := []) en41 rfl (.val nod) (.cons (.agg (.cons (.bor .v) (.cons (.bor (.sl nod)) (.cons (.bor (.sl nod)) (.cons (.bor (.sl nod)) .nil))))) (.cons (.one (.bor .v)) .nil)) (by decide) all_nil .nil (asOf_d d a (by omega)) rfl rfl (nle rfl)) (.m rfl rfl (.r rfl (zAm rfl rfl rfl) (.r rfl (zAm rfl rfl rfl) (.a rfl rfl (.a rfl rfl .nil)))))))) ?_
  refine zAB ?_
  refine zAB (zAA rfl (.m rfl rfl (.r rfl (zA3 (b := zFW d a) rfl rfl) .nil)) ?_)
  refine zAb (t := (!(zFW d a))) rfl (fun h2 => ?_) (fun h2 => ?_)
  ·
   replace h2 : (zFW d a) = false := zBH h2
   refine zAB ?_
   have hak : zFW d a = false := by simpa using h2
   rw [scan_n hok hak]
   refine zAV (s' := mk [] [] []) ?_ ?_
   · exact zAI trivial trivial trivial rfl
   refine zAA rfl (.a rfl rfl (.a rfl rfl .nil)) ?_
   refine zAO ?_
   exact ends [_, _] [] (.cons (.tmp rfl) (.cons (.tmp rfl) .nil)) (.cons (.one (.nil _) (.sl _ _ (fun _ h => nomatch h))) (.cons (.one .v (.v _)) .nil)) (by decide) trivial
  ·
   replace h2 : (zFW d a) = true := zBI h2
   refine zAL ?_
   refine zAB ?_
   have hak : zFW d a = true := by simpa using h2
   rw [zND hok hak]
   have hul := zE3 (allI d)
   have hvl := zF8 (allI d) (askI d a) (zAr (allI d))
   rw [← visF] at hvl
   refine zAV (s' := mk [(2, .vs f), (3, .vs t), (4, .ptr 4 0), (10, .vi (askI d a))] [(4, [.vi d.seq, .p none (.sl false 4 (pvE d.mem)), .p none (.sl false 1 (pvR (tagT d.runs))), .p none (.sl false 1 (pvI d.snaps))])] []) ?_ ?_
   · exact zAI ⟨rfl, rfl, rfl, rfl, trivial⟩ ⟨rfl, trivial⟩ trivial rfl
   refine zAA rfl (.r rfl (zAG rfl rfl rfl isAgg28 sizeOf28 (nle rfl)) (.run [2400] [] rfl (zAK rfl 2400 (X := []) en44 rfl (.val nod) (.cons (.agg (.cons (.bor .v) (.cons (.bor (.sl nod)) (.cons (.bor (.sl nod)) (.cons (.bor (.sl nod)) .nil))))) .nil) (by decide) all_nil .nil (dbAll_d d hok) rfl rfl (nle rfl)) (.m rfl rfl (.run [2400, 2600] [] rfl (zAK rfl 2600 (X := []) en43 rfl (.val nod) (.cons (.one (.bor (.all (len := (pvE (allI d)).length) (xs := pvE (allI d)) rfl rfl (by decide)))) (.cons (.one (.bor .v)) .nil)) (by decide) all_nil .nil (zJ5 (allI d) (askI d a) (by omega)) rfl rfl (nle rfl)) (.m rfl rfl (.m rfl rfl (.run [2600, 2900] [] rfl (zAK rfl 2900 (X := [2600]) en42 rfl (.val nod) (.cons (.one (.own (len := (pvP (visF (allI d) (askI d a))).length) (xs := pvP (visF (allI d) (askI d a))) rfl rfl)) (.cons (.one (.bor .v)) (.cons (.one (.bor .v)) .nil))) (by decide) (all_cons rfl all_nil) (.gone .nil) (zKq (visF (allI d) (askI d a)) f t (by omega)) rfl rfl (nle rfl)) (.a rfl rfl (.a rfl rfl .nil))))))))) ?_
   refine zAO ?_
   exact ends [_, _] [2900] (.cons (.tmp rfl) (.cons (.tmp rfl) .nil)) (.cons (.one (.row (len := (pvP (zH1 f t (visF (allI d) (askI d a)))).length) (xs := pvP (zH1 f t (visF (allI d) (askI d a)))) rfl rfl) (.sl _ _ (FlatP.clean (zDO _)))) (.cons (.one .v (.v _)) .nil)) (by decide) trivial
end Go.Rl
namespace Go.Rl
def KOK (l : List Ent) : Prop := ∀ x ∈ l, zCg x.user x.seq x.kind = true
theorem KOK.perm {l m : List Ent} (h : KOK l) (p : m.Perm l) : KOK m := fun x hx => h x (p.mem_iff.1 hx)
theorem KOK.left {l m : List Ent} (h : KOK (l ++ m)) : KOK l := fun x hx => h x (List.mem_append_left _ hx)
theorem KOK.right {l m : List Ent} (h : KOK (l ++ m)) : KOK m := fun x hx => h x (List.mem_append_right _ hx)
theorem KOK.tail {l : List Ent} {e : Ent} (h : KOK (e :: l)) : KOK l := fun x hx => h x (by simp [hx])
theorem zLm {α : Type} (e : α) (l m : List α) : (l ++ (e :: m)).Perm (e :: l ++ m) := List.perm_middle
theorem zLU : ∀ (l out : List Ent), KOK (l ++ out) → Dist cmpK (l ++ out) → Srt cmpK out → Srt cmpK (zBl out l) ∧ (zBl out l).Perm (l ++ out)
 | [], out, _, _, hs => ⟨hs, .refl _⟩
 | e :: l, out, hk, hd, hs => by
  have hd' := List.pairwise_cons.1 hd
  have hne : ∀ y ∈ out, cmpK y e < 0 ∨ cmpK e y < 0 := fun y hy => (hd'.1 y (List.mem_append_right _ hy)).symm
  have hp : putF out e = insC cmpK e out := zLY (hk e (by simp)) (fun x hx => hk x (by simp [hx])) hne
  have hpm : (l ++ putF out e).Perm (e :: l ++ out) := by rw [hp]; exact ((zFJ e out).append_left l).trans (zLm e l out)
  have := zLU l (putF out e) (hk.perm hpm) (zBP hpm hd) (by rw [hp]; exact zId cmpK_ok hs (fun y hy => (hne y hy).symm))
  exact ⟨this.1, this.2.trans hpm⟩
theorem zFj : ∀ ls : List (List Ent), KOK (zBp ls) → Dist cmpK (zBp ls) → Srt cmpK (zAy ls) ∧ (zAy ls).Perm (zBp ls)
 | [], _, _ => ⟨List.Pairwise.nil, .refl _⟩
 | l :: ls, hk, hd => by
  have hk : KOK (l ++ zBp ls) := hk
  have hd : Dist cmpK (l ++ zBp ls) := hd
  obtain ⟨h1, h2⟩ := zFj ls hk.right (List.pairwise_append.1 hd).2.1
  have hp : (l ++ zAy ls).Perm (l ++ zBp ls) := h2.append_left l
  have := zLU l (zAy ls) (hk.perm hp) (zBP hp hd) h1
  exact ⟨this.1, this.2.trans hp⟩
theorem zI2 (d : Eng) : zBp (d.mem :: d.runs) = totI d := by rw [totI, zCK]; rfl
theorem ent_kok {l : List Ent} (h : ∀ e ∈ l, zBh e = true) : KOK l := fun e he => zFM (h e he)
theorem zLn {d : Eng} (hk : KOK (totI d)) (hd : Dist cmpK (totI d)) : zAy (d.mem :: d.runs) = allI d := by
 rw [← zI2] at hk hd
 obtain ⟨h1, h2⟩ := zFj _ hk hd
 rw [allI, ← zI2]
 exact zGS cmpK_ok h1 h2 hd
theorem zNM (e : Ent) (r : List Ent × Bool) (x : Ent) : (putS e r x).1.length + (if (putS e r x).2 = true then 0 else 1) + (if kcmp x e = 0 then 1 else 0) ≤ r.1.length + (if r.2 = true then 0 else 1) + 1 := by
 obtain ⟨l, d⟩ := r
 unfold putS
 cases d <;> by_cases h : 0 ≤ kcmp x e <;> by_cases h2 : kcmp x e = 0 <;> simp [h, h2] <;> omega
theorem zLW {l : List Ent} {e : Ent} : ∀ i, i ≤ l.length → (∃ x ∈ l.take i, kcmp x e = 0) → (putN l e i).1.length + (if (putN l e i).2 = true then 0 else 1) ≤ i
 | 0, _, h => by obtain ⟨x, hx, _⟩ := h; simp at hx
 | i + 1, hi, h => by
  obtain ⟨y, hy⟩ : ∃ y, l[i]? = some y := ⟨_, List.getElem?_eq_getElem (by omega)⟩
  obtain ⟨x, hx, h0⟩ := h
  rw [List.take_add_one, hy] at hx
  rw [zD9 hy]
  have h1 := zNM e (putN l e i) y
  have h2 := zGC l e i
  rcases List.mem_append.1 hx with hx | hx
  ·
   have := zLW i (by omega) ⟨x, hx, h0⟩
   omega
  ·
   simp at hx
   subst hx
   rw [if_pos h0] at h1
   omega
theorem zOz {l : List Ent} {e : Ent} (h : ∃ x ∈ l, kcmp x e = 0) : (putF l e).length ≤ l.length := by
 have := zLW (l := l) (e := e) l.length (Nat.le_refl _) (by rw [List.take_length]; exact h)
 unfold putF
 split
 · rename_i h; rw [if_pos h] at this; omega
 · rename_i h; rw [if_neg h] at this; simp; omega
theorem zJH : ∀ (l out : List Ent), KOK (l ++ out) → Dist cmpK out → Srt cmpK out → (zBl out l).length = l.length + out.length → Dist cmpK (l ++ out)
 | [], _, _, hd, _, _ => hd
 | e :: l, out, hk, hd, hs, hl => by
  have h1 := zDP l (putF out e)
  have h2 : (zBl out (e :: l)).length = (zBl (putF out e) l).length := rfl
  have h3 := zLX out e
  simp only [List.length_cons] at hl
  have hne : ∀ y ∈ out, cmpK y e < 0 ∨ cmpK e y < 0 := fun y hy => by
   have h0 : kcmp y e ≠ 0 := fun q => by have := zOz ⟨y, hy, q⟩; omega
   rw [zDW (hk y (by simp [hy])) (hk e (by simp))] at h0
   by_cases h4 : LessE y e
   · exact .inl (by rw [zDx h4]; decide)
   ·
    refine .inr ?_
    by_cases h5 : LessE e y
    · rw [zDx h5]; decide
    ·
     exfalso
     refine h0 (zG8 ?_ ?_ ?_)
     all_goals
      unfold LessE at h4 h5
      have hu : y.user = e.user := zGp (by cases q : ltB y.user e.user with | false => rfl | true => exact absurd (.inl q) h4) (by cases q : ltB e.user y.user with | false => rfl | true => exact absurd (.inl q) h5)
      have h6 : ¬ (e.seq < y.seq ∨ (y.seq = e.seq ∧ e.kind < y.kind)) := fun q => h4 (.inr ⟨hu, q⟩)
      have h7 : ¬ (y.seq < e.seq ∨ (e.seq = y.seq ∧ y.kind < e.kind)) := fun q => h5 (.inr ⟨hu.symm, q⟩)
      first | exact hu | omega
  have hp : putF out e = insC cmpK e out := zLY (hk e (by simp)) (fun x hx => hk x (by simp [hx])) hne
  have hpe : (putF out e).Perm (e :: out) := by rw [hp]; exact zFJ e out
  have hpm : (l ++ putF out e).Perm (e :: l ++ out) := (hpe.append_left l).trans (zLm e l out)
  have hde : Dist cmpK (putF out e) := zBP hpe (List.pairwise_cons.2 ⟨fun y hy => (hne y hy).symm, hd⟩)
  have := zJH l (putF out e) (hk.perm hpm) hde (by rw [hp]; exact zId cmpK_ok hs (fun y hy => (hne y hy).symm)) (by rw [hpe.length_eq]; simp only [List.length_cons]; omega)
  exact zBP hpm.symm this
theorem zGm : ∀ ls : List (List Ent), KOK (zBp ls) → (zAy ls).length = (zBp ls).length → Dist cmpK (zBp ls)
 | [], _, _ => List.Pairwise.nil
 | l :: ls, hk, hl => by
  have hk : KOK (l ++ zBp ls) := hk
  have h1 := zDP l (zAy ls)
  have h2 := zC3 ls
  have h3 : (zAy (l :: ls)).length = (zBl (zAy ls) l).length := rfl
  have h4 : (zBp (l :: ls)).length = l.length + (zBp ls).length := by simp [zBp]
  have ih := zGm ls hk.right (by omega)
  obtain ⟨h5, h6⟩ := zFj ls hk.right ih
  have hp : (l ++ zAy ls).Perm (l ++ zBp ls) := h6.append_left l
  have := zJH l (zAy ls) (hk.perm hp) (zBP h6 ih) h5 (by omega)
  exact zBP hp.symm this
theorem zMH {s : List Int} (h : zBK s = true) {j : Nat} {y x : Int} (hy : s[j]? = some y) (hx : s[j + 1]? = some x) : y < x := by
 cases hn : zCB s (j + 1) x with
 | false => rw [zES hx hn] at h; cases h
 | true =>
  simp only [zCB, Bool.and_eq_true, Nat.add_sub_cancel, hy] at hn
  simpa using hn.2
theorem zM9 {s : List Int} (h : zBK s = true) {j : Nat} {x : Int} (hx : s[j]? = some x) : 0 ≤ x ∧ x ≤ 1000000000000 := by
 cases hn : zCB s j x with
 | false => rw [zES hx hn] at h; cases h
 | true =>
  simp only [zCB, Bool.and_eq_true, zA1, decide_eq_true_eq] at hn
  exact hn.1
theorem zLJ {s : List Int} (h : zBK s = true) {i : Nat} {y : Int} (hy : s[i]? = some y) : ∀ (j : Nat) {x : Int}, i < j → s[j]? = some x → y < x
 | 0, _, hij, _ => absurd hij (Nat.not_lt_zero _)
 | j + 1, x, hij, hx => by
  have hlt := (List.getElem?_eq_some_iff.1 hx).1
  obtain ⟨z, hz⟩ : ∃ z, s[j]? = some z := ⟨_, List.getElem?_eq_getElem (by omega)⟩
  have h1 := zMH h hz hx
  by_cases e : i = j
  · subst e; rw [hy] at hz; cases hz; exact h1
  ·
   have := zLJ h hy j (by omega) hz
   omega
theorem zMg {l : List Ent} {z : Int} : ∀ {a : Int}, z < l.foldl (fun a e => min a e.seq) a ↔ z < a ∧ ∀ e ∈ l, z < e.seq := by
 induction l with
 | nil => intro a; simp
 | cons x l ih =>
  intro a
  rw [List.foldl_cons, ih]
  constructor
  ·
   rintro ⟨h1, h2⟩
   refine ⟨by omega, fun e he => ?_⟩
   rcases List.mem_cons.1 he with rfl | he
   · omega
   · exact h2 e he
  ·
   rintro ⟨h1, h2⟩
   have := h2 x (by simp)
   exact ⟨by omega, fun e he => h2 e (by simp [he])⟩
theorem zLp {l : List Ent} {z : Int} : z < zCU l ↔ z < 1000000000000 ∧ ∀ e ∈ l, z < e.seq := zMg
theorem zFV {l m : List Ent} (hl : ∀ e ∈ l, 0 ≤ e.seq) : idxF (zDy (zCV m)) l < 0 ↔ ∀ e ∈ l, ∀ x ∈ m, x.seq < e.seq := by
 rw [zEH]
 constructor
 ·
  intro h e he x hx
  have := h e he
  simp only [zDy, decide_eq_false_iff_not] at this
  exact (zJz (hl e he)).1 (by omega) x hx
 ·
  intro h e he
  have := (zJz (l := m) (hl e he)).2 (h e he)
  simp only [zDy, decide_eq_false_iff_not]
  omega
theorem zH4 {z : Int} {rs : RunL} : zF4 z rs rs.length ↔ ∀ x ∈ ents rs, x.seq < z := by
 constructor
 ·
  intro h x hx
  simp only [ents, zBp, List.mem_flatten, rows, List.mem_map] at hx
  obtain ⟨l, ⟨r, hr, rfl⟩, hl⟩ := hx
  obtain ⟨j, hj⟩ := List.getElem?_of_mem hr
  obtain ⟨k, hk⟩ := List.getElem?_of_mem hl
  exact h j r (List.getElem?_eq_some_iff.1 hj).1 hj k x (List.getElem?_eq_some_iff.1 hk).1 hk
 ·
  intro h j r _ hj k x _ hk
  refine h x ?_
  simp only [ents, zBp, List.mem_flatten, rows, List.mem_map]
  exact ⟨r.2, ⟨r, List.mem_of_getElem? hj, rfl⟩, List.mem_of_getElem? hk⟩
theorem zH9 {sq : Int} {sn : List Int} (h : zBK sn = true) : UpTo sq sn sn.length ↔ ∀ z, sn[sn.length - 1]? = some z → z ≤ sq := by
 constructor
 ·
  intro hu z hz
  exact hu _ z (List.getElem?_eq_some_iff.1 hz).1 hz
 ·
  intro hl j x hj hx
  obtain ⟨z, hz⟩ : ∃ z, sn[sn.length - 1]? = some z := ⟨_, List.getElem?_eq_getElem (by omega)⟩
  have h1 := hl z hz
  by_cases e : j = sn.length - 1
  · subst e; rw [hx] at hz; cases hz; exact h1
  ·
   have := zLJ h hx (sn.length - 1) (by omega) hz
   omega
structure ER (d : Eng) : Prop where
 lt : ∀ e ∈ ents (tagT d.runs), e.seq < 1000000000000
theorem ok_iff {d : Eng} (hR : ER d) (hb : zBf d.seq d.mem (tagT d.runs) d.snaps = true) : IOk d.seq d.mem (tagT d.runs) d.snaps ↔ SOk d.seq d.mem (tagT d.runs) d.snaps := by
 have hk : KOK (totI d) := ent_kok (fun _ he => zEc hb he)
 have h0 : ∀ e ∈ d.mem, 0 ≤ e.seq := fun e he => (zIn (zEc hb (List.mem_append_left _ he))).1
 have hsn : zBK d.snaps = true := by simp only [zBf, Bool.and_eq_true] at hb; exact hb.2.2.2
 have ha : allS d.mem (tagT d.runs) = zAy (d.mem :: d.runs) := zOO _ _
 have hlen : (totI d).length = d.mem.length + (ents (tagT d.runs)).length := zIB d
 constructor
 ·
  intro h
  have hpw := zFC h.seqs
  have hd : Dist cmpK (totI d) := zJj hpw
  have hm := zLn hk hd
  have hp : (allI d).Perm (totI d) := zBn _
  refine ⟨by have := h.few; rw [List.length_append] at this; exact this, by rw [ha, hm, hp.length_eq]; exact hlen.symm, ?_, (zH9 hsn).2 h.last, zH4.2 (fun x hx => zLp.2 ⟨hR.lt x hx, fun e he => (zFV h0).1 h.mem e he x hx⟩)⟩
  rw [ha, hm]
  exact zKF ((hp.pairwise_iff (fun q => q.symm)).2 hpw) (fun e he => zKG h.seqs e (hp.mem_iff.1 he))
 ·
  intro h
  have hfull : (zAy (d.mem :: d.runs)).length = (zBp (d.mem :: d.runs)).length := by rw [zI2, hlen, ← ha]; exact h.all.symm
  have hd : Dist cmpK (totI d) := by have := zGm (d.mem :: d.runs) (by rw [zI2]; exact hk) hfull; rwa [zI2] at this
  have hm := zLn hk hd
  have hp : (allI d).Perm (totI d) := zBn _
  have hs := h.seqs
  rw [ha, hm] at hs
  have hpw := (hp.pairwise_iff (fun q => q.symm)).1 (zFC hs)
  refine ⟨by have := h.few; rw [List.length_append]; exact this, zKF hpw (fun e he => zKG hs e (hp.mem_iff.2 he)), (zFV h0).2 (fun e he x hx => ?_), (zH9 hsn).1 h.upto⟩
  exact (zLp.1 (zH4.1 h.below x hx)).2 e he
theorem zNX {d : Eng} (hR : ER d) : okB d.seq d.mem (tagT d.runs) d.snaps = zBN d.seq d.mem (tagT d.runs) d.snaps := by
 unfold okB zBN
 cases hb : zBf d.seq d.mem (tagT d.runs) d.snaps with
 | false => rfl
 | true => simp only [Bool.true_and, decide_eq_decide]; exact ok_iff hR hb
end Go.Rl
namespace Go.Rl
structure EN (N : Int) (d : Eng) : Prop where
 pos : 0 ≤ N
 seq : d.seq ≤ N
 mem : ∀ e ∈ d.mem, e.seq ≤ N
 runs : ∀ e ∈ zBp d.runs, e.seq ≤ N
theorem EN.mono {N M : Int} {d : Eng} (h : EN N d) (hm : N ≤ M) : EN M d := ⟨by have := h.pos; omega, by have := h.seq; omega, fun e he => by have := h.mem e he; omega, fun e he => by have := h.runs e he; omega⟩
theorem zHr {N : Int} (h : 0 ≤ N) : EN N Eng.nil := ⟨h, h, fun _ he => (by cases he), fun _ he => (by cases he)⟩
theorem zOw {e : Ent} {r : List Ent × Bool} {x y : Ent} (h : y ∈ (putS e r x).1) : y ∈ r.1 ∨ y = e ∨ y = x := by
 obtain ⟨l, d⟩ := r
 unfold putS at h
 cases d <;> by_cases h1 : 0 ≤ kcmp x e <;> by_cases h2 : kcmp x e = 0 <;> simp [h1, h2] at h <;> first | (exact .inl h) | (rcases h with h | h <;> simp [h]) | (rcases h with h | h | h <;> simp [h]) | simp [h]
theorem zIQ {l : List Ent} {e y : Ent} : ∀ i, i ≤ l.length → y ∈ (putN l e i).1 → y = e ∨ y ∈ l
 | 0, _, h => by simp [putN] at h
 | i + 1, hi, h => by
  obtain ⟨x, hx⟩ : ∃ x, l[i]? = some x := ⟨_, List.getElem?_eq_getElem (by omega)⟩
  rw [zD9 hx] at h
  rcases zOw h with h | h | h
  · exact zIQ i (by omega) h
  · exact .inl h
  · exact .inr (h ▸ List.mem_of_getElem? hx)
theorem zOy {l : List Ent} {e y : Ent} (h : y ∈ putF l e) : y = e ∨ y ∈ l := by
 unfold putF at h
 split at h
 · exact zIQ _ (Nat.le_refl _) h
 ·
  rcases List.mem_append.1 h with h | h
  · exact zIQ _ (Nat.le_refl _) h
  · exact .inl (by simpa using h)
theorem zIP : ∀ {l out : List Ent} {y : Ent}, y ∈ zBl out l → y ∈ l ∨ y ∈ out
 | [], _, _, h => .inr h
 | e :: l, out, y, h => by
  have h : y ∈ zBl (putF out e) l := h
  rcases zIP h with h | h
  · exact .inl (by simp [h])
  ·
   rcases zOy h with h | h
   · exact .inl (by simp [h])
   · exact .inr h
theorem zHh : ∀ {ls : List (List Ent)} {y : Ent}, y ∈ zAy ls → y ∈ zBp ls
 | [], _, h => by cases h
 | l :: ls, y, h => by
  have h : y ∈ zBl (zAy ls) l := h
  show y ∈ l ++ zBp ls
  rcases zIP h with h | h
  · exact List.mem_append_left _ h
  · exact List.mem_append_right _ (zHh h)
theorem zJr {l : List Ent} {s : List Int} {x : Ent} (h : x ∈ zCQ l s) : x ∈ l := by
 obtain ⟨_, q, _, _, hq⟩ := zEN (fun z hz => by
  obtain ⟨k, h1, _, h3⟩ := zDY (n := l.length) hz
  exact ⟨k, h1, h3⟩) (Nat.le_refl _) h
 exact List.mem_of_getElem? hq
theorem zPR {N : Int} {d : Eng} (h : EN N d) : EN N (zBj d).1 := by
 unfold zBj
 split
 ·
  split
  · exact h
  ·
   split
   · exact h
   · exact ⟨h.pos, h.seq, fun _ he => (by cases he), fun e he => (List.mem_append.1 (show e ∈ d.mem ++ zBp d.runs from he)).elim (h.mem e) (h.runs e)⟩
 · exact zHr h.pos
theorem snap_en {N : Int} {d : Eng} (h : EN N d) : EN N (zB9 d).1 := by
 unfold zB9
 split
 ·
  split
  · exact h
  ·
   split
   · exact h
   · exact ⟨h.pos, h.seq, h.mem, h.runs⟩
 · exact zHr h.pos
theorem free_en {N a : Int} {d : Eng} (h : EN N d) : EN N (zB8 d a).1 := by
 unfold zB8
 split
 · exact ⟨h.pos, h.seq, h.mem, h.runs⟩
 · exact zHr h.pos
theorem zMn {N : Int} {d : Eng} (h : EN N d) : EN N (zA8 d).1 := by
 unfold zA8
 split
 ·
  split
  · exact h
  ·
   refine ⟨h.pos, h.seq, h.mem, fun e he => h.runs e ?_⟩
   have he : e ∈ zBp (if 0 < (zCQ (zAy d.runs) d.snaps).length then [zCQ (zAy d.runs) d.snaps] else []) := he
   split at he
   ·
    simp only [zBp, List.flatten_cons, List.flatten_nil, List.append_nil] at he
    exact zHh (zJr he)
   · cases he
 · exact zHr h.pos
theorem zOT {N : Int} {d : Eng} {ops : List Bop} (h : EN N d) (hn : ops.length ≤ 100) : EN (N + 100) (zBc d ops).1 := by
 have hp := h.pos
 have hs := h.seq
 unfold zBc
 split
 ·
  split
  · exact h.mono (by omega)
  ·
   split
   · exact h.mono (by omega)
   ·
    refine ⟨by omega, by show d.seq + (ops.length : Int) ≤ N + 100; omega, fun e he => ?_, fun e he => by have := h.runs e he; omega⟩
    rcases zIP he with he | he
    ·
     have := zPf he
     omega
    ·
     have := h.mem e he
     omega
 · exact zHr (by omega)
theorem zNy {N : Int} {bs : List Nat} {x : Eng × Nat} (h : EN N x.1) : EN (N + 100) (zCh bs x).1 := by
 have hk : EN (N + 100) x.1 := h.mono (by omega)
 unfold zCh
 split
 ·
  dsimp only
  split
  · exact (zPR h).mono (by omega)
  · exact hk
 split
 ·
  dsimp only
  split
  · exact (snap_en h).mono (by omega)
  · exact hk
 split
 ·
  dsimp only
  split
  · exact (zMn h).mono (by omega)
  · exact hk
 split
 ·
  split
  ·
   dsimp only
   split
   · exact (free_en h).mono (by omega)
   · exact hk
  · exact hk
 ·
  dsimp only
  split
  · exact zOT h (by have := zGD bs (zAH bs x.2 7); omega)
  · exact hk
theorem zJl {bs : List Nat} : ∀ (i : Nat) (x : Eng × Nat) {N : Int}, EN N x.1 → EN (N + 100 * i) (zCi bs i x).1
 | 0, _, _, h => h.mono (by omega)
 | i + 1, x, N, h => (zJl i (zCh bs x) (zNy h)).mono (by omega)
theorem zOE (bs : List Nat) (p : Nat) : zAh bs p 9 ≤ 9 := by
 unfold zAh
 rw [if_neg (by decide), if_pos (by decide)]
 omega
theorem dbV_er (bs : List Nat) (p : Nat) : ER (dbV bs p) := by
 have h : EN (0 + 100 * (zAh bs p 9 : Nat)) (zCx bs p).1 := zJl _ (Eng.nil, zAH bs p 9) (zHr (Int.le_refl 0))
 have h9 := zOE bs p
 have hr : (dbV bs p).runs = (zCx bs p).1.runs := by
  unfold dbV zJk zIq
  split <;> split <;> rfl
 refine ⟨fun e he => ?_⟩
 rw [zCK, hr] at he
 have := h.runs e he
 omega
end Go.Rl
namespace Go.Rl
variable {d : Eng} {u : ByteArray} {a p : Int} {l : List Ent}
theorem zH5 (h : okB d.seq d.mem (tagT d.runs) d.snaps = true) : zCm (allI d) := zGQ ((zDd cmpK_ok (zKV h)).imp zDQ)
theorem zEQ (hl : zCm l) : (visF l p).Pairwise (fun x y => ltB x.user y.user = true) := zDk (zD5 hl)
theorem zJx {s : List Pr} : zH1 ⟨#[]⟩ ⟨#[]⟩ s = s := by
 unfold zH1
 rw [List.filter_eq_self]
 intro x _
 have : ltB x.user ⟨#[]⟩ = false := by
  have he : (⟨#[]⟩ : ByteArray).toList = [] := by rw [ByteArray.toList]; unfold ByteArray.toList.loop; rfl
  unfold ltB
  rw [he]
  cases x.user.toList <;> rfl
 simp [outP, this]
end Go.Rl
namespace Go.Rl
def opPr (o : Bop) : Pr := ⟨o.user, o.value⟩
def foldS (o : Bop) (r : List Pr × Bool) (x : Pr) : List Pr × Bool :=
 let r1 := if (!r.2 && !ltB x.user o.user) = true then (r.1 ++ [opPr o], true) else r
 if x.user ≠ o.user then (r1.1 ++ [x], r1.2) else r1
def foldN (l : List Pr) (o : Bop) (k : Nat) : List Pr × Bool := (l.take k).foldl (foldS o) ([], decide (o.kind = 0))
def foldO (l : List Pr) (o : Bop) : List Pr := if (foldN l o l.length).2 = true then (foldN l o l.length).1 else (foldN l o l.length).1 ++ [opPr o]
def foldF (l : List Pr) (ops : List Bop) : List Pr := ops.foldl foldO l
def PSort (l : List Pr) : Prop := l.Pairwise (fun x y => ltB x.user y.user = true)
def FoldA (l : List Pr) (o : Bop) (k : Nat) (r : List Pr × Bool) : Prop := r.2 = false ∧ o.kind ≠ 0 ∧ r.1 = l.take k ∧ ∀ y ∈ l.take k, ltB y.user o.user = true
def FoldB (l : List Pr) (o : Bop) (k : Nat) (r : List Pr × Bool) : Prop := r.2 = true ∧ (∀ x, x ∈ r.1 ↔ (x ∈ l.take k ∧ x.user ≠ o.user) ∨ (o.kind ≠ 0 ∧ x = opPr o)) ∧ PSort r.1 ∧ (o.kind ≠ 0 → ∃ y ∈ l.take k, ltB y.user o.user = false)
theorem zJI {l m : List Pr} (hl : PSort l) (hm : PSort m) (h : ∀ x, x ∈ l ↔ x ∈ m) : l = m :=
 zFe (R := fun x y : Pr => ltB x.user y.user = true) (fun _ q => by rw [zDF] at q; cases q) (fun _ _ q r => by rw [zGq q] at r; cases r) hl hm h
theorem zMr {u : ByteArray} {p : Int} {e : Ent} : asOf u p e = true ↔ e.user = u ∧ e.seq ≤ p := by simp [asOf]
end Go.Rl
namespace Go.Rl
variable {d : Eng} {ops : List Bop}
def wrote (d : Eng) (ops : List Bop) : Eng := ⟨d.seq + (ops.length : Int), zCR cmpK (d.mem ++ zBg (d.seq + 1) ops), d.runs, d.snaps⟩
theorem zIH (h : okB d.seq d.mem (tagT d.runs) d.snaps = true) : zD8 d (-1) ⟨#[]⟩ ⟨#[]⟩ = (visF (allI d) d.seq, 0) := by
 rw [zND h (by simp [zFW]), zJx]
 simp [askI]
theorem zLh (h : okB d.seq d.mem (tagT d.runs) d.snaps = true) : EB d := (zCC h).eb
end Go.Rl
namespace Go.Rl
end Go.Rl
namespace Go.Rl
noncomputable def zCD (d : Eng) : Eng × Int := if okI d = true then (if d.mem.length = 0 then (d, 4) else if 19 ≤ d.runs.length then (d, 3) else (⟨d.seq, [], d.mem :: d.runs, d.snaps⟩, 0)) else (Eng.nil, 1)
noncomputable def snapI (d : Eng) : Eng × Int × Int := if okI d = true then (if atI d.snaps d.seq = true then (d, d.seq, 0) else if d.snaps.length = 20 then (d, 0, 3) else (⟨d.seq, d.mem, d.runs, d.snaps ++ [d.seq]⟩, d.seq, 0)) else (Eng.nil, 0, 1)
def idxI (s : List Int) (a : Int) : Int := idxF (fun x => decide (a = x)) s
noncomputable def freeI (d : Eng) (a : Int) : Eng × Int := if okI d = true then (if idxI d.snaps a < 0 then (d, 4) else (⟨d.seq, d.mem, d.runs, d.snaps.eraseIdx (idxI d.snaps a).toNat⟩, 0)) else (Eng.nil, 1)
def rowI (d : Eng) : List Ent := zCR cmpK (ents (tagT d.runs))
def zDC (l : List Ent) : List (List Ent) := if 0 < l.length then [l] else []
noncomputable def zBR (d : Eng) : Eng × Int := if okI d = true then (if d.runs.length = 0 then (d, 4) else (⟨d.seq, d.mem, zDC (zCQ (rowI d) d.snaps), d.snaps⟩, 0)) else (Eng.nil, 1)
variable {d : Eng} {a : Int}
theorem zPQ (h : okB d.seq d.mem (tagT d.runs) d.snaps = false) : zCD d = (Eng.nil, 1) := if_neg (no_ok h)
theorem zLv (h : okB d.seq d.mem (tagT d.runs) d.snaps = true) (h1 : d.mem.length = 0) : zCD d = (d, 4) := by rw [zCD, if_pos (show okI d = true from h), if_pos h1]
theorem zLu (h : okB d.seq d.mem (tagT d.runs) d.snaps = true) (h1 : ¬ d.mem.length = 0) (h2 : 19 ≤ d.runs.length) : zCD d = (d, 3) := by rw [zCD, if_pos (show okI d = true from h), if_neg h1, if_pos h2]
theorem zLt (h : okB d.seq d.mem (tagT d.runs) d.snaps = true) (h1 : ¬ d.mem.length = 0) (h2 : ¬ 19 ≤ d.runs.length) : zCD d = (⟨d.seq, [], d.mem :: d.runs, d.snaps⟩, 0) := by rw [zCD, if_pos (show okI d = true from h), if_neg h1, if_neg h2]
theorem zN6 (h : okB d.seq d.mem (tagT d.runs) d.snaps = false) : zBR d = (Eng.nil, 1) := if_neg (no_ok h)
theorem zKo (h : okB d.seq d.mem (tagT d.runs) d.snaps = true) (h1 : d.runs.length = 0) : zBR d = (d, 4) := by rw [zBR, if_pos (show okI d = true from h), if_pos h1]
theorem zKn (h : okB d.seq d.mem (tagT d.runs) d.snaps = true) (h1 : ¬ d.runs.length = 0) : zBR d = (⟨d.seq, d.mem, zDC (zCQ (rowI d) d.snaps), d.snaps⟩, 0) := by rw [zBR, if_pos (show okI d = true from h), if_neg h1]
theorem zJF (h : okB d.seq d.mem (tagT d.runs) d.snaps = true) : Dist cmpK (ents (tagT d.runs)) := (List.pairwise_append.1 (zKV h)).2.1
theorem zLN (d : Eng) : (rowI d).length = (ents (tagT d.runs)).length := zEF _
theorem zHV (h : okB d.seq d.mem (tagT d.runs) d.snaps = true) : (rowI d).length ≤ 400 := by
 have := zKA h
 have := zIB d
 have := zLN d
 omega
theorem zGZ (h : okB d.seq d.mem (tagT d.runs) d.snaps = true) : zAp (rowI d) = true :=
 zNt ((zDd cmpK_ok (zJF h)).imp zDQ) (zHV h) (fun _ he => zEc (zD0 h).1 (List.mem_append_right _ ((zBn _).mem_iff.1 he)))
theorem zDp (h : okB d.seq d.mem (tagT d.runs) d.snaps = true) : zBK d.snaps = true := by
 have hb := (zD0 h).1
 simp only [zBf, Bool.and_eq_true] at hb
 exact hb.2.2.2
theorem zGF (h : okB d.seq d.mem (tagT d.runs) d.snaps = true) : zA1 d.seq 0 1000000000000 = true ∧ zAp d.mem = true ∧ zBG (tagT d.runs) = true := by
 have hb := (zD0 h).1
 simp only [zBf, Bool.and_eq_true] at hb
 exact ⟨hb.1, hb.2.1, hb.2.2.1⟩
theorem zN7 (h : okB d.seq d.mem (tagT d.runs) d.snaps = true) : zCQ (rowI d) d.snaps = zBO (rowI d) d.snaps true := (zDw (zGZ h) (zDp h)).symm
end Go.Rl
namespace Go.Rl
abbrev OkD (d : Eng) : Prop := okB d.seq d.mem (tagT d.runs) d.snaps = true
variable {d : Eng} {a p : Int}
theorem at_iff {s : List Int} {a : Int} : atI s a = true ↔ a ∈ s := by
 unfold atI
 rw [decide_eq_true_eq]
 constructor
 ·
  intro h
  refine Classical.byContradiction fun q => ?_
  have := (zEH (p := fun x => decide (a = x)) (l := s)).2 (fun x hx => decide_eq_false (fun e => q (e ▸ hx)))
  omega
 ·
  intro h
  refine Classical.byContradiction fun q => ?_
  have := (zEH (p := fun x => decide (a = x)) (l := s)).1 (by omega) a h
  simp at this
theorem zOj {s : List Int} {sq : Int} (h : zBK s = true) (hl : ∀ z, s[s.length - 1]? = some z → z ≤ sq) : ∀ x ∈ s, x ≤ sq := fun x hx => by
 obtain ⟨j, hj⟩ := List.getElem?_of_mem hx
 exact (zH9 h).2 hl j x (List.getElem?_eq_some_iff.1 hj).1 hj
theorem zNA (h : OkD d) : ∀ x ∈ d.snaps, x ≤ d.seq := zOj (zDp h) (zD0 h).2.last
theorem snap_b (h : OkD d) : ∀ x ∈ d.snaps, 0 ≤ x ∧ x ≤ 1000000000000 := fun x hx => by
 obtain ⟨j, hj⟩ := List.getElem?_of_mem hx
 exact zM9 (zDp h) hj
theorem seq_b (h : OkD d) : 0 ≤ d.seq ∧ d.seq ≤ 1000000000000 := by simpa [zA1] using (zGF h).1
theorem zPe (h : OkD d) : ∀ e ∈ d.mem, ∀ x ∈ ents (tagT d.runs), x.seq < e.seq := (zFV (fun e he => (zIn (zEc (zD0 h).1 (List.mem_append_left _ he))).1)).1 (zD0 h).2.mem
theorem ok_of {d : Eng} (h1 : 0 ≤ d.seq ∧ d.seq ≤ 1000000000000) (h2 : zAp d.mem = true) (h3 : zBG (tagT d.runs) = true) (h4 : zBK d.snaps = true) (h5 : (totI d).length ≤ 400) (h6 : (totI d).Pairwise (fun x y => x.seq ≠ y.seq)) (h7 : ∀ e ∈ totI d, e.seq ≤ d.seq)
  (h8 : ∀ e ∈ d.mem, ∀ x ∈ ents (tagT d.runs), x.seq < e.seq) (h9 : ∀ x ∈ d.snaps, x ≤ d.seq) : OkD d := by
 have hb : zBf d.seq d.mem (tagT d.runs) d.snaps = true := base_of (by simp [zA1, h1]) h2 h3 h4
 exact (zKU hb ⟨h5, zKF h6 h7, (zFV (fun e he => (zIn (zEc hb (List.mem_append_left _ he))).1)).2 h8, fun z hz => h9 z (List.mem_of_getElem? hz)⟩).symm
theorem zFt {ls : List (List Ent)} (h : zBG (tagT ls) = true) : ls.length ≤ 20 ∧ (∀ l ∈ ls, zAp l = true) ∧ (ents (tagT ls)).length ≤ 400 := by
 have h2 := zFD h
 rw [zBv] at h2
 simp only [zBG, Bool.and_eq_true, decide_eq_true_eq] at h
 refine ⟨h2.1, fun l hl => ?_, h2.2⟩
 have := zEH.1 h.2.1 (true, l) (List.mem_map.2 ⟨l, hl, rfl⟩)
 simpa using this
theorem zHT {ls : List (List Ent)} (h1 : ls.length ≤ 20) (h2 : ∀ l ∈ ls, zAp l = true) (h3 : (ents (tagT ls)).length ≤ 400) : zBG (tagT ls) = true := by
 simp only [zBG, Bool.and_eq_true, decide_eq_true_eq, zBv]
 refine ⟨h1, zEH.2 (fun r hr => ?_), h3⟩
 obtain ⟨l, hl, rfl⟩ := List.mem_map.1 hr
 simp [h2 l hl]
theorem zKk : zAp [] = true := by decide
theorem zPv (h : OkD d) : (totI d).length ≤ 400 := (zD0 h).2.few
theorem pw_of (h : OkD d) : (totI d).Pairwise (fun x y => x.seq ≠ y.seq) := zFC (zD0 h).2.seqs
theorem zPE (h : OkD d) : ∀ e ∈ totI d, e.seq ≤ d.seq := zKG (zD0 h).2.seqs
theorem zJg (h : OkD d) : OkD (zCD d).1 ∧ (zCD d).1.seq = d.seq ∧ (zCD d).1.snaps = d.snaps ∧ totI (zCD d).1 = totI d := by
 by_cases h1 : d.mem.length = 0
 · rw [zLv h h1]; exact ⟨h, rfl, rfl, rfl⟩
 ·
  by_cases h2 : 19 ≤ d.runs.length
  · rw [zLu h h1 h2]; exact ⟨h, rfl, rfl, rfl⟩
  ·
   rw [zLt h h1 h2]
   have ht : totI ⟨d.seq, [], d.mem :: d.runs, d.snaps⟩ = totI d := by
    simp only [totI, zCK, zBp, List.flatten_cons, List.nil_append]
   obtain ⟨_, hm, hr⟩ := zGF h
   have hr' := zFt hr
   have hf := zPv h
   refine ⟨ok_of (d := ⟨d.seq, [], d.mem :: d.runs, d.snaps⟩) (seq_b (d := d) h) zKk (zHT (by simp only [List.length_cons]; omega) (fun l hl => ?_) ?_) (zDp (d := d) h) (by rw [ht]; exact hf) (by rw [ht]; exact pw_of h) (by rw [ht]; exact zPE h) (fun _ he => by cases he) (zNA (d := d) h), rfl, rfl, ht⟩
   ·
    rcases List.mem_cons.1 hl with rfl | hl
    · exact hm
    · exact hr'.2.1 l hl
   ·
    rw [← ht, totI] at hf
    simpa using hf
theorem zEZ {l m r : List Ent} (hm : ∀ e, e ∈ l ↔ e ∈ m ∨ e ∈ r) (hb : ∀ e ∈ m, ∀ x ∈ r, x.seq < e.seq) (u : ByteArray) (p : Int) (e : Ent) :
  zCv l u p e ↔ zCv m u p e ∨ ((∀ x ∈ m, asOf u p x = false) ∧ zCv r u p e) := by
 constructor
 ·
  rintro ⟨h1, h2, h3⟩
  rcases (hm e).1 h1 with q | q
  · exact .inl ⟨q, h2, fun x hx hp => h3 x ((hm x).2 (.inl hx)) hp⟩
  ·
   refine .inr ⟨fun x hx => ?_, q, h2, fun x hx hp => h3 x ((hm x).2 (.inr hx)) hp⟩
   cases hp : asOf u p x with
   | false => rfl
   | true =>
    exfalso
    have h4 := hb x hx e q
    have h5 := zMr.1 hp
    have h6 := zMr.1 h2
    rcases h3 x ((hm x).2 (.inl hx)) hp with rfl | h7
    · omega
    ·
     unfold LessE at h7
     rw [h5.1, h6.1, zDF] at h7
     rcases h7 with h7 | ⟨_, h7⟩
     · cases h7
     · omega
 ·
  rintro (⟨h1, h2, h3⟩ | ⟨hn, h1, h2, h3⟩)
  ·
   refine ⟨(hm e).2 (.inl h1), h2, fun x hx hp => ?_⟩
   rcases (hm x).1 hx with q | q
   · exact h3 x q hp
   ·
    have h4 := hb e h1 x q
    refine .inr (.inr ⟨?_, .inl h4⟩)
    rw [(zMr.1 h2).1, (zMr.1 hp).1]
  ·
   refine ⟨(hm e).2 (.inr h1), h2, fun x hx hp => ?_⟩
   rcases (hm x).1 hx with q | q
   · rw [hn x q] at hp; cases hp
   · exact h3 x q hp
theorem vis_two {l l' m r r' : List Ent} {p : Int} (hl : zCm l) (hl' : zCm l') (hr : zCm r) (hr' : zCm r') (hm : ∀ e, e ∈ l ↔ e ∈ m ∨ e ∈ r) (hm' : ∀ e, e ∈ l' ↔ e ∈ m ∨ e ∈ r') (hb : ∀ e ∈ m, ∀ x ∈ r, x.seq < e.seq) (hb' : ∀ e ∈ m, ∀ x ∈ r', x.seq < e.seq) (hv : visF r' p = visF r p) : visF l' p = visF l p := by
 refine zJI (zEQ hl') (zEQ hl) (fun x => ?_)
 have h2 : (∃ e, zCv r' x.user p e ∧ e.kind ≠ 0 ∧ e.value = x.value) ↔ (∃ e, zCv r x.user p e ∧ e.kind ≠ 0 ∧ e.value = x.value) := by rw [← zD4 hr', ← zD4 hr, hv]
 rw [zD4 hl', zD4 hl]
 constructor
 ·
  rintro ⟨e, he, hk⟩
  rcases (zEZ hm' hb' x.user p e).1 he with q | ⟨q1, q2⟩
  · exact ⟨e, (zEZ hm hb x.user p e).2 (.inl q), hk⟩
  ·
   obtain ⟨e2, q3, q4⟩ := h2.1 ⟨e, q2, hk⟩
   exact ⟨e2, (zEZ hm hb x.user p e2).2 (.inr ⟨q1, q3⟩), q4⟩
 ·
  rintro ⟨e, he, hk⟩
  rcases (zEZ hm hb x.user p e).1 he with q | ⟨q1, q2⟩
  · exact ⟨e, (zEZ hm' hb' x.user p e).2 (.inl q), hk⟩
  ·
   obtain ⟨e2, q3, q4⟩ := h2.2 ⟨e, q2, hk⟩
   exact ⟨e2, (zEZ hm' hb' x.user p e2).2 (.inr ⟨q1, q3⟩), q4⟩
theorem zNg {l : List Ent} {p q : Int} (hp : ∀ e ∈ l, e.seq ≤ p) (hq : p ≤ q) (u : ByteArray) (e : Ent) : zCv l u q e ↔ zCv l u p e := by
 have key : ∀ x ∈ l, (asOf u q x = true ↔ asOf u p x = true) := fun x hx => by
  rw [zMr, zMr]
  have := hp x hx
  exact ⟨fun h => ⟨h.1, this⟩, fun h => ⟨h.1, by omega⟩⟩
 constructor
 ·
  rintro ⟨h1, h2, h3⟩
  exact ⟨h1, (key e h1).1 h2, fun x hx hy => h3 x hx ((key x hx).2 hy)⟩
 ·
  rintro ⟨h1, h2, h3⟩
  exact ⟨h1, (key e h1).2 h2, fun x hx hy => h3 x hx ((key x hx).1 hy)⟩
theorem zK6 {l : List Ent} {p q : Int} (hl : zCm l) (hp : ∀ e ∈ l, e.seq ≤ p) (hq : p ≤ q) : visF l q = visF l p := by
 refine zJI (zEQ hl) (zEQ hl) (fun x => ?_)
 rw [zD4 hl, zD4 hl]
 simp only [zNg hp hq]
theorem zJq (h : OkD d) : zCm (zCQ (rowI d) d.snaps) := by
 have := (zFO (b := true) (zGZ h) (zDp h)).2.1
 rw [zN7 h]
 exact zDv this
theorem zGY (h : OkD d) : zCm (rowI d) := zDv (zGZ h)
theorem zGB {e : Ent} : e ∈ rowI d ↔ e ∈ ents (tagT d.runs) := (zBn _).mem_iff
theorem zEA (l : List Ent) : ents (tagT (zDC l)) = l := by
 rw [zCK]
 unfold zDC
 split
 · simp [zBp]
 ·
  have : l.length = 0 := by omega
  simp [zBp, List.length_eq_zero_iff.1 this]
theorem zGh (l : List Ent) : (zDC l).length ≤ 1 := by
 unfold zDC
 split <;> simp
theorem zG5 (h : OkD d) : OkD (zBR d).1 ∧ (zBR d).1.seq = d.seq ∧ (zBR d).1.snaps = d.snaps ∧ (zBR d).1.runs.length ≤ 1 ∧ ((zBR d).2 = 0 ∨ (zBR d).2 = 4) ∧ ∀ p, p ∈ d.snaps ∨ p = d.seq → visF (allI (zBR d).1) p = visF (allI d) p := by
 by_cases h1 : d.runs.length = 0
 ·
  rw [zKo h h1]
  exact ⟨h, rfl, rfl, by show d.runs.length ≤ 1; omega, .inr rfl, fun _ _ => rfl⟩
 ·
  rw [zKn h h1]
  obtain ⟨hvis, hok, _⟩ := zFO (b := true) (zGZ h) (zDp h)
  rw [← zN7 h] at hvis hok
  have hsub0 : ∀ e ∈ zCQ (rowI d) d.snaps, e ∈ rowI d := fun e he => zJr he
  have hlen0 := zJs (rowI d) d.snaps
  have hcs := zJq h
  generalize zCQ (rowI d) d.snaps = c at hvis hok hsub0 hlen0 hcs ⊢
  have hsub : ∀ e ∈ c, e ∈ ents (tagT d.runs) := fun e he => zGB.1 (hsub0 e he)
  have hlen : c.length ≤ (ents (tagT d.runs)).length := by
   have := zLN d
   omega
  have hbel := zPe h
  have hpw' := List.pairwise_append.1 (pw_of h)
  have hpc : c.Pairwise (fun x y => x.seq ≠ y.seq) := List.pairwise_iff_getElem.2 fun i j hi hj hij => by
   have hlt := hcs i j _ _ hij (List.getElem?_eq_getElem hi) (List.getElem?_eq_getElem hj)
   obtain ⟨x, hx⟩ := List.getElem?_of_mem (hsub _ (List.getElem_mem hi))
   obtain ⟨y, hy⟩ := List.getElem?_of_mem (hsub _ (List.getElem_mem hj))
   obtain ⟨hx1, hx2⟩ := List.getElem?_eq_some_iff.1 hx
   obtain ⟨hy1, hy2⟩ := List.getElem?_eq_some_iff.1 hy
   have hxy : x ≠ y := fun q => by
    subst q
    rw [hx2] at hy2
    rw [← hy2] at hlt
    exact hlt.irrefl
   rw [← hx2, ← hy2]
   rcases Nat.lt_or_gt_of_ne hxy with q | q
   · exact List.pairwise_iff_getElem.1 hpw'.2.1 x y hx1 hy1 q
   · exact (List.pairwise_iff_getElem.1 hpw'.2.1 y x hy1 hx1 q).symm
  obtain ⟨b, hb⟩ : ∃ b : Eng, b = ⟨d.seq, d.mem, zDC c, d.snaps⟩ := ⟨_, rfl⟩
  have hb1 : b.seq = d.seq := by rw [hb]
  have hb2 : b.mem = d.mem := by rw [hb]
  have hb3 : b.runs = zDC c := by rw [hb]
  have hb4 : b.snaps = d.snaps := by rw [hb]
  have htot : totI b = d.mem ++ c := by rw [totI, hb2, hb3, zEA]
  have hokd : OkD b := by
   refine ok_of (by rw [hb1]; exact seq_b h) (by rw [hb2]; exact (zGF h).2.1) (by
    rw [hb3]
    refine zHT (Nat.le_trans (zGh _) (by decide)) (fun l hl => ?_) (by rw [zEA]; have := (zFt (zGF h).2.2).2.2; omega)
    unfold zDC at hl
    split at hl
    · rw [List.mem_singleton] at hl; subst hl; exact hok
    · cases hl) (by rw [hb4]; exact zDp h) ?_ ?_ (fun e he => ?_) (fun e he x hx => ?_) (by rw [hb4, hb1]; exact zNA h)
   ·
    rw [htot, List.length_append]
    have := zPv h
    rw [totI, List.length_append] at this
    omega
   ·
    rw [htot]
    exact List.pairwise_append.2 ⟨hpw'.1, hpc, fun x hx y hy => hpw'.2.2 x hx y (hsub y hy)⟩
   ·
    rw [htot] at he
    rw [hb1]
    rcases List.mem_append.1 he with q | q
    · exact zPE h e (List.mem_append_left _ q)
    · exact zPE h e (List.mem_append_right _ (hsub e q))
   ·
    rw [hb3, zEA] at hx
    rw [hb2] at he
    exact hbel e he x (hsub x hx)
  rw [← hb]
  refine ⟨hokd, hb1, hb4, by show b.runs.length ≤ 1; rw [hb3]; exact zGh _, .inl rfl, fun p hp => ?_⟩
  show visF (allI b) p = visF (allI d) p
  refine vis_two (m := d.mem) (r := rowI d) (r' := c) (zH5 h) (zH5 hokd) (zGY h) hcs (fun e => ?_) (fun e => ?_) (fun e he x hx => hbel e he x (zGB.1 hx)) (fun e he x hx => hbel e he x (hsub x hx)) ?_
  · rw [allI, (zBn _).mem_iff, totI, List.mem_append, zGB]
  · rw [allI, (zBn _).mem_iff, htot, List.mem_append]
  ·
   rcases hp with hp | rfl
   · exact hvis p (List.mem_append_left _ hp)
   ·
    have h2 := seq_b h
    have h3 := hvis 1000000000000 (List.mem_append_right _ (by simp))
    have h4 : ∀ e ∈ rowI d, e.seq ≤ d.seq := fun e he => zPE h e (List.mem_append_right _ (zGB.1 he))
    rw [zK6 hcs (fun e he => h4 e (hsub0 e he)) h2.2, zK6 (zGY h) h4 h2.2] at h3
    exact h3
end Go.Rl
namespace Go.Rl
variable {d : Eng} {a p : Int} {ops : List Bop}
theorem zJn (hR : ER d) : (zBR d).2 = (zA8 d).2 := by
 have hs := zNX hR
 cases ho : zBN d.seq d.mem (tagT d.runs) d.snaps with
 | false => rw [ho] at hs; rw [zN6 hs, zPy ho]
 | true =>
  rw [ho] at hs
  by_cases h1 : d.runs.length = 0
  · rw [zKo hs h1, zPz ho h1]
  · rw [zKn hs h1, zPx ho h1]
theorem zKI (h : OkD d) (ha : a ∈ d.snaps) : zD8 d a ⟨#[]⟩ ⟨#[]⟩ = (visF (allI d) a, 0) := by
 have h1 := snap_b h a ha
 have h2 : ¬ a = -1 := by omega
 rw [zND h (by simp [zFW, at_iff.2 ha]), zJx]
 simp [askI, h2]
structure UnS (d a b : Eng) : Prop where
 ok : OkD d
 oka : OkD a
 okb : OkD b
 one : b.runs.length ≤ 1
 sa : ∀ p, p ∈ d.snaps ∨ p = -1 → ∃ l, zD8 d p ⟨#[]⟩ ⟨#[]⟩ = (l, 0) ∧ zD8 a p ⟨#[]⟩ ⟨#[]⟩ = (l, 0) ∧ zD8 b p ⟨#[]⟩ ⟨#[]⟩ = (l, 0)
theorem zMD (hR : ER d) : (okB d.seq d.mem (tagT d.runs) d.snaps = false ∧ zBN d.seq d.mem (tagT d.runs) d.snaps = false) ∨
  (okB d.seq d.mem (tagT d.runs) d.snaps = true ∧ zBN d.seq d.mem (tagT d.runs) d.snaps = true ∧ ∃ a ca b c b2 e, zCD d = (a, ca) ∧ zBR a = (b, c) ∧ (c = 0 ∨ c = 4) ∧ zBR d = (b2, e) ∧ (zA8 d).2 = e ∧ UnS d a b) := by
 have hs := zNX hR
 cases ho : zBN d.seq d.mem (tagT d.runs) d.snaps with
 | false => rw [ho] at hs; exact .inl ⟨hs, rfl⟩
 | true =>
  rw [ho] at hs
  refine .inr ⟨hs, rfl, (zCD d).1, (zCD d).2, (zBR (zCD d).1).1, (zBR (zCD d).1).2, (zBR d).1, (zBR d).2, rfl, rfl, ?_, rfl, (zJn hR).symm, ?_⟩
  · exact (zG5 (zJg hs).1).2.2.2.2.1
  ·
   obtain ⟨f1, f2, f3, f4⟩ := zJg hs
   obtain ⟨c1, c2, c3, c4, _, c6⟩ := zG5 f1
   refine ⟨hs, f1, c1, c4, fun p hp => ?_⟩
   have hall : allI (zCD d).1 = allI d := by rw [allI, f4, allI]
   rcases hp with hp | rfl
   ·
    refine ⟨visF (allI d) p, zKI hs hp, by rw [zKI f1 (by rw [f3]; exact hp), hall], ?_⟩
    rw [zKI c1 (by rw [c3, f3]; exact hp), c6 p (.inl (by rw [f3]; exact hp)), hall]
   ·
    refine ⟨visF (allI d) d.seq, zIH hs, by rw [zIH f1, hall, f2], ?_⟩
    rw [zIH c1, c2, c6 _ (.inr rfl), hall, f2]
structure SnS (d X : Eng) (f g x : Eng) (cf cg : Int) (l : List Pr) : Prop where
 okX : OkD X
 fl : zCD X = (f, cf)
 okf : OkD f
 cm : zBR f = (g, cg)
 okg : OkD g
 sc : zD8 g d.seq ⟨#[]⟩ ⟨#[]⟩ = ((zD8 d (-1) ⟨#[]⟩ ⟨#[]⟩).1, 0)
 fr : freeI g d.seq = (x, 0)
 okx : OkD x
 no : zD8 x d.seq ⟨#[]⟩ ⟨#[]⟩ = (l, 4)
end Go.Rl
namespace Go.Rl
open Go.RowKit
theorem zPT : ∀ {xs : List (List PV)}, (∀ es ∈ xs, es.length = 1) → xs.flatten.length = xs.length := fun h => by rw [zCJ h, Nat.mul_one]
theorem zLR {w w' : World} {p : PV} {xs : List (List PV)} {k c : Nat} {N : Array Value} {ty : TypeId} {u u' : Nat → Value} {n n' : Nat → List Nat} {Z Z' : Nat → Prop} (hlen : ∀ es ∈ xs, es.length = 1) (hk : w'.heap[k]? = some (.cells N ty (0, 0))) (hsz : N.size = c * 1) (hc : xs.length + 1 ≤ c) (hm : c ≤ maxLen)
  (h0 : N[0]? = some (u' 0)) (hj : ∀ j, j < xs.flatten.length → N[j + 1]? = some (u j)) (hp0 : PVO Z' w p (u' 0) (n' 0)) (hpj : ∀ j q, xs.flatten[j]? = some q → PVO Z w q (u j) (n j)) (hcl0 : Clean p) (hclj : ∀ es ∈ xs, ∀ q ∈ es, Clean q)
  (hw0 : ∀ b ∈ n' 0, w'.heap[b]? = w.heap[b]?) (hwj : ∀ j, j < xs.flatten.length → ∀ b ∈ n j, w'.heap[b]? = w.heap[b]?) :
  PVO no w' (.sl true 1 ([p] :: xs)) (.slice (some ⟨k, 0, none⟩) (xs.length + 1) c) (k :: (n' 0 ++ (List.range xs.flatten.length).flatMap n)) := by
 have hfl : ([p] :: xs).flatten.length = xs.flatten.length + 1 := by simp
 have := PVO.own (Z := no) (w := w') 1 ([p] :: xs) k c N ty (fun es he => by
  rcases List.mem_cons.1 he with rfl | he
  · rfl
  · exact hlen es he) hk hsz ⟨by simpa using hc, by omega⟩ hm (fun j => match j with | 0 => u' 0 | j + 1 => u j) (fun j => match j with | 0 => n' 0 | j + 1 => n j) (fun j hlt => by
  cases j with
  | zero => exact h0
  | succ j => exact hj j (by omega)) (fun j q hq => by
  cases j with
  | zero =>
   have : q = p := by simpa using hq.symm
   subst this
   exact (hp0.clean hcl0).mono (fun _ h => h.elim) hw0 (fun _ h => h)
  | succ j =>
   have hq : xs.flatten[j]? = some q := by simpa using hq
   have hlt := (List.getElem?_eq_some_iff.1 hq).1
   have hcl : Clean q := by
    obtain ⟨es, h1, h2⟩ := List.mem_flatten.1 (List.mem_of_getElem? hq)
    exact hclj es h1 q h2
   exact ((hpj j q hq).clean hcl).mono (fun _ h => h.elim) (hwj j hlt) (fun _ h => h))
 have e : (List.range ([p] :: xs).flatten.length).flatMap (fun j => match j with | 0 => n' 0 | j + 1 => n j) = n' 0 ++ (List.range xs.flatten.length).flatMap n := by
  rw [hfl, List.range_succ_eq_map, List.flatMap_cons, List.flatMap_map]
 rw [e] at this
 simpa using this
theorem zKm {P : Program} {f : FuncId} {E : TypeId}
  (shift : ∀ (k c n i vb vc : Nat) (cur vcur : Array Value) (ty vty : TypeId) (vs : List Value) (w : World), i < n → n + 1 ≤ c → c ≤ 9223372036854775807 → vb ≠ k → w.heap[k]? = some (.cells cur ty (0, 0)) → cur.size = c → w.heap[vb]? = some (.cells vcur vty (0, 0)) → vcur.size ≠ 0 → vs.length = 1 →
   (∀ (j : Nat) (v : Value), vs[j]? = some v → vcur[j]? = some v) → (∀ (j : Nat) (v : Value), j < n → cur[j]? = some v → v.oneCell' = true) → (∀ v ∈ vs, v.oneCell' = true) →
   Calls P f #[.slice (some ⟨k, 0, none⟩) n c, .int .i64 i, .slice (some ⟨vb, 0, none⟩) 1 vc] w fun e w' =>
    e = .returned (.slice (some ⟨k, 0, none⟩) (n + 1) c) ∧ w' = w.drew.setRow k (over (over cur.toList (i + 1) ((cur.toList.take n).drop i)) i vs).toArray)
  (grow : ∀ (k c n i vb vc : Nat) (cur vcur : Array Value) (ty vty : TypeId) (vs : List Value) (w : World), i < n → n ≤ c → c < n + 1 → n ≤ 1000000000 → vb ≠ k → w.heap[k]? = some (.cells cur ty (0, 0)) → cur.size = c → w.heap[vb]? = some (.cells vcur vty (0, 0)) → vs.length = 1 →
   (∀ (j : Nat) (v : Value), vs[j]? = some v → vcur[j]? = some v) → (∀ (j : Nat) (v : Value), j < n → cur[j]? = some v → v.oneCell' = true) → (∀ v ∈ vs, v.oneCell' = true) →
   Calls P f #[.slice (some ⟨k, 0, none⟩) n c, .int .i64 i, .slice (some ⟨vb, 0, none⟩) 1 vc] w fun e w' =>
    ∃ (G : Nat) (zs : List Value) (N : Array Value) (W : World), e = .returned (.slice (some ⟨w.heap.size, 0, none⟩) (n + 1) G) ∧ n + 1 ≤ G ∧ G ≤ maxLen ∧ zs.length = (G - n - 1) ∧
     N = (cur.toList.take i ++ vs ++ ((cur.toList.take n).drop i) ++ zs).toArray ∧ w' = W ∧ W.heap[w.heap.size]? = some (.cells N E (0, 0)) ∧ Same [] w W)
  (xs : List (List PV)) (p : PV) (hi : 0 < xs.length) (hl : xs.length ≤ 1000000000) (hx : ∀ es ∈ xs, ∀ q ∈ es, Clean q) (hp : Clean p) :
  Con P f [.one (.sl true 1 xs), .one (.v (.int .i64 ((0 : Nat) : Int))), .one (.sl true 1 [[p]])] [none, none] [.one (.sl true 1 ([p] :: xs))] := by
 intro Z w vs E' _ ha hZ hnd hlt
 cases ha with
 | cons h1 t1 => cases t1 with
 | cons h2 t2 => cases t2 with
 | cons h3 t3 =>
 cases t3
 cases h1 with
 | one h1 =>
 cases h2 with
 | one h2 =>
 cases h3 with
 | one h3 =>
 cases h1 with
 | nf hn => simp [PV.nf] at hn
 | own h1 =>
 cases h3 with
 | nf hn => simp [PV.nf] at hn
 | own h3 =>
 cases h2 with
 | nf _ h2 =>
 cases h2
 cases h1 with
 | nil => simp at hi
 | own _ _ k c cur ty hlen hk hcz hnc hm u n hcell hpp =>
 cases h3 with
 | own _ _ vb vc vcur vty hvlen hv hvz hvc hvm u' n' hvcell hvp =>
 have hml : maxLen ≤ 9223372036854775807 := by decide
 have hfl := zPT hlen
 have hnd' : (k :: ((List.range xs.flatten.length).flatMap n ++ vb :: n' 0)).Nodup := by
  have : (Leaf.all _).Nodup := hnd
  simpa [Leaf.all] using this
 have hp0 : PVO Z w p (u' 0) (n' 0) := hvp 0 p (by simp)
 have hv0 : vcur[0]? = some (u' 0) := hvcell 0 (by simp)
 rw [List.nodup_cons] at hnd'
 obtain ⟨hkn, hnd2⟩ := hnd'
 have hvb : vb ≠ k := fun e => hkn (by subst e; simp)
 have hnd3 := List.nodup_append.1 hnd2
 have hnd4 := List.nodup_cons.1 hnd3.2.1
 have hvz0 : vcur.size ≠ 0 := by
  have := (Array.getElem?_eq_some_iff.1 hv0).1
  omega
 have hkj : ∀ j, j < xs.flatten.length → ∀ b ∈ n j, b ≠ k := fun j hj b hb e => hkn (by
  subst e
  exact List.mem_append_left _ (List.mem_flatMap.2 ⟨j, List.mem_range.2 hj, hb⟩))
 have hk0 : ∀ b ∈ n' 0, b ≠ k := fun b hb e => hkn (by subst e; simp [hb])
 have hCg : ∀ (j : Nat) (v : Value), j < xs.length → cur[j]? = some v → v.oneCell' = true := fun j v hj h => by
  rw [hcell j (by omega)] at h
  cases h
  exact (hpp j _ (List.getElem?_eq_getElem (by omega))).one
 have hDg : ∀ (j : Nat) (v : Value), [u' 0][j]? = some v → vcur[j]? = some v := fun j v h => by
  cases j with
  | zero => simpa using hv0.trans h
  | succ j => simp at h
 have hD1 : ∀ v ∈ [u' 0], v.oneCell' = true := fun v h => by rw [List.mem_singleton] at h; subst h; exact hp0.one
 have hcl : cur.toList.length = c := by rw [Array.length_toList]; omega
 have hcs : ∀ j, j < xs.flatten.length → (cur.toList.take xs.length)[j]? = some (u j) := fun j hj => by
  rw [List.getElem?_take, if_pos (by omega)]
  simpa using hcell j hj
 have hcsl : (cur.toList.take xs.length).length = xs.length := by rw [List.length_take, hcl]; omega
 have hnodup : (k :: (n' 0 ++ (List.range xs.flatten.length).flatMap n)).Nodup := by
  refine List.nodup_cons.2 ⟨fun h => hkn ?_, List.nodup_append.2 ⟨hnd4.2, hnd3.1, fun a ha b hb e => hnd3.2.2 b hb a (by simp [ha]) e.symm⟩⟩
  rcases List.mem_append.1 h with h | h
  · simp [h]
  · exact List.mem_append_left _ h
 by_cases hroom : xs.length + 1 ≤ c
 ·
  refine (shift k c xs.length 0 vb vc cur vcur ty vty [u' 0] w hi hroom (Nat.le_trans hm hml) hvb hk (by omega) hv hvz0 rfl hDg hCg hD1).mono ?_
  rintro e w' ⟨rfl, rfl⟩
  have hb1 : (0 + 1) + ((cur.toList.take xs.length).drop 0).length ≤ cur.toList.length := by
   rw [List.length_drop, hcsl, hcl]; omega
  have hb2 : 0 + [u' 0].length ≤ (over cur.toList (0 + 1) ((cur.toList.take xs.length).drop 0)).length := by
   rw [zCc hb1, hcl]; simp; omega
  obtain ⟨N, hN⟩ : ∃ N, N = (over (over cur.toList (0 + 1) ((cur.toList.take xs.length).drop 0)) 0 [u' 0]).toArray := ⟨_, rfl⟩
  rw [← hN]
  have hNs : N.size = c := by rw [hN, List.size_toArray, zCc hb2, zCc hb1, hcl]
  have hkN := setRow_heap w.drew k cur N ty (0, 0) hk
  have hN0 : N[0]? = some (u' 0) := by rw [hN, List.getElem?_toArray, zCd hb2]; simp
  have hNj : ∀ j, j < xs.flatten.length → N[j + 1]? = some (u j) := fun j hj => by
   rw [hN, List.getElem?_toArray, zCd hb2, zCd hb1, if_neg (by simp), if_pos (by rw [List.length_drop, hcsl]; omega)]
   simpa using hcs j hj
  have hres := zLR (w := w) (w' := w.drew.setRow k N) (Z := Z) (Z' := Z) hlen hkN (by omega) hroom hm hN0 hNj hp0 hpp hp hx (fun b hb => setRow_other _ _ _ _ (hk0 b hb)) (fun j hj b hb => setRow_other _ _ _ _ (hkj j hj b hb))
  refine ⟨_, [⟨.slice (some ⟨k, 0, none⟩) (xs.length + 1) c, k :: (n' 0 ++ (List.range xs.flatten.length).flatMap n), 1⟩], rfl, ⟨rfl, rfl, rfl, by rw [setRow_size]; exact Nat.le_refl _, fun q hq hnq => ?_⟩, fun j lf xs' _ h => ?_, .one (.one (.own hres)), by simpa [Leaf.all] using hnodup, fun q hq => ?_⟩
  ·
   refine setRow_other _ _ _ _ (fun e => hnq ?_)
   subst e
   simp [Leaf.all]
  · rcases j with _ | _ | j <;> simp at h
  ·
   have hq : q ∈ k :: (n' 0 ++ (List.range xs.flatten.length).flatMap n) := by simpa [Leaf.all] using hq
   rcases List.mem_cons.1 hq with rfl | hq
   · exact .inr ⟨0, _, rfl, by simp, fun xs' h => by simp at h⟩
   ·
    rcases List.mem_append.1 hq with hq | hq
    · exact .inr ⟨1, _, rfl, by simp [hq], fun xs' h => by simp at h⟩
    · exact .inr ⟨0, _, rfl, List.mem_cons_of_mem _ hq, fun xs' h => by simp at h⟩
 ·
  refine (grow k c xs.length 0 vb vc cur vcur ty vty [u' 0] w hi hnc.1 (by omega) hl hvb hk (by omega) hv rfl hDg hCg hD1).mono ?_
  rintro e w' ⟨G, zs, N, W, rfl, hG1, hG2, hzs, hN, rfl, hWN, hsame⟩
  have hNs : N.size = G := by
   rw [hN]
   simp only [List.size_toArray, List.length_append, List.length_drop, hcsl, hzs, List.length_take, List.length_cons, List.length_nil]
   omega
  have hN0 : N[0]? = some (u' 0) := by rw [hN, List.getElem?_toArray]; simp
  have hNj : ∀ j, j < xs.flatten.length → N[j + 1]? = some (u j) := fun j hj => by
   have h1 := hcs j hj
   rw [hN, List.getElem?_toArray]
   simp only [Nat.zero_mul, List.take_zero, List.nil_append, List.drop_zero, List.cons_append, List.getElem?_cons_succ]
   rw [List.getElem?_append_left (by rw [hcsl]; omega)]
   exact h1
  have hlt0 : ∀ b ∈ n' 0, b < w.heap.size := hp0.lt
  have hltj : ∀ j, j < xs.flatten.length → ∀ b ∈ n j, b < w.heap.size := fun j hj => (hpp j _ (List.getElem?_eq_getElem hj)).lt
  have hres := zLR (w := w) (w' := w') (Z := Z) (Z' := Z) hlen hWN (by omega) hG1 hG2 hN0 hNj hp0 hpp hp hx (fun b hb => hsame.block b (hlt0 b hb) (by simp)) (fun j hj b hb => hsame.block b (hltj j hj b hb) (by simp))
  have hnodup2 : (w.heap.size :: (n' 0 ++ (List.range xs.flatten.length).flatMap n)).Nodup := by
   refine List.nodup_cons.2 ⟨fun h => ?_, (List.nodup_cons.1 hnodup).2⟩
   rcases List.mem_append.1 h with h | h
   · exact Nat.lt_irrefl _ (hlt0 _ h)
   ·
    obtain ⟨j, hj, hb⟩ := List.mem_flatMap.1 h
    exact Nat.lt_irrefl _ (hltj j (List.mem_range.1 hj) _ hb)
  refine ⟨_, [⟨.slice (some ⟨w.heap.size, 0, none⟩) (xs.length + 1) G, w.heap.size :: (n' 0 ++ (List.range xs.flatten.length).flatMap n), 1⟩], rfl, ⟨hsame.os, hsame.tape, hsame.output, hsame.size, fun q hq _ => hsame.block q hq (by simp)⟩, fun j lf xs' _ h => ?_, .one (.one (.own hres)), by simpa [Leaf.all] using hnodup2, fun q hq => ?_⟩
  · rcases j with _ | _ | j <;> simp at h
  ·
   have hq : q ∈ w.heap.size :: (n' 0 ++ (List.range xs.flatten.length).flatMap n) := by simpa [Leaf.all] using hq
   rcases List.mem_cons.1 hq with rfl | hq
   · exact .inl (Nat.le_refl _)
   ·
    rcases List.mem_append.1 hq with hq | hq
    · exact .inr ⟨1, _, rfl, by simp [hq], fun xs' h => by simp at h⟩
    · exact .inr ⟨0, _, rfl, List.mem_cons_of_mem _ hq, fun xs' h => by simp at h⟩
end Go.Rl

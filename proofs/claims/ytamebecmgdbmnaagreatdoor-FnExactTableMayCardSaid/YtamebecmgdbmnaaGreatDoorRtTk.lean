/- Promises of functions, proved by walks over their operations; no conditions beyond those that each theorem states. -/
import Derived.Test.YtamebecmgdbmnaaGreatDoorRuN
import Derived.Test.YtamebecmgdbmnaaGreatDoorRuJ
set_option linter.unusedSimpArgs false
set_option linter.unusedVariables false
namespace Go.Rl
def zC4 (s : ByteArray) : ByteArray := s.extract (s.size - 8) s.size
def kLo (s : ByteArray) : Nat := fx4 (zC4 s)
def kHi (s : ByteArray) : Nat := fx4 ((zC4 s).extract 4 (zC4 s).size)
def kNum (s : ByteArray) : Nat := kHi s * 2 ^ 32 + kLo s
def keyE (s : ByteArray) : Ent := ⟨s.extract 0 (s.size - 8), ((kNum s / 2 : Nat) : Int), ((kNum s % 2 : Nat) : Int), ⟨#[]⟩⟩
def entZ : Ent := ⟨⟨#[]⟩, 0, 0, ⟨#[]⟩⟩
def zBB (s : ByteArray) : Option Ent := if 9 ≤ s.size ∧ zBl (keyE s).user (keyE s).seq (keyE s).kind = true then some (keyE s) else none
theorem zGe {s : ByteArray} (h : s.size < 9) : zBB s = none := by rw [zBB, if_neg]; omega
theorem zGf {s : ByteArray} (h : zBl (keyE s).user (keyE s).seq (keyE s).kind = false) : zBB s = none := by rw [zBB, if_neg]; rintro ⟨_, q⟩; rw [h] at q; cases q
theorem zGd {s : ByteArray} (h0 : 9 ≤ s.size) (h : zBl (keyE s).user (keyE s).seq (keyE s).kind = true) : zBB s = some (keyE s) := by rw [zBB, if_pos ⟨h0, h⟩]
theorem zKw (s : ByteArray) : kHi s < 4294967296 := zFL _
theorem zHe (s : ByteArray) : kLo s < 4294967296 := zFL _
theorem zLW {s : ByteArray} (h : 1073741824 ≤ kHi s) : zBB s = none := by
 refine zGf ?_
 cases q : zBl (keyE s).user (keyE s).seq (keyE s).kind with
 | false => rfl
 | true =>
  have := zEd q
  have e : (keyE s).seq = ((kNum s / 2 : Nat) : Int) := rfl
  have : kNum s = kHi s * 2 ^ 32 + kLo s := rfl
  omega
theorem keyN_lt {e : Ent} (h : zBl e.user e.seq e.kind = true) : keyN e < 4294967296 * 4294967296 ∧ ((keyN e : Nat) : Int) = 2 * e.seq + e.kind ∧ 0 ≤ e.kind ∧ e.kind ≤ 1 := by
 have := zEd h
 rw [keyN]; omega
theorem zMl (e : Ent) : zC4 (keyT e) = fixV (keyN e % 4294967296) ++ fixV ((keyN e / 2 ^ 32) % 4294967296) ∧ (keyT e).size = e.user.size + 8 := by
 have hs : (keyT e).size = e.user.size + 8 := by simp only [keyT, zAZ, zAU]
 refine ⟨?_, hs⟩
 rw [zC4, hs, Nat.add_sub_cancel]
 have h2 : keyT e = e.user ++ (fixV (keyN e % 4294967296) ++ fixV ((keyN e / 2 ^ 32) % 4294967296)) := by rw [keyT, ByteArray.append_assoc]
 have := zBq e.user (fixV (keyN e % 4294967296) ++ fixV ((keyN e / 2 ^ 32) % 4294967296))
 rw [← h2, hs] at this
 exact this
theorem zFG {e : Ent} (h : zBl e.user e.seq e.kind = true) : zBB (keyT e) = some ⟨e.user, e.seq, e.kind, ⟨#[]⟩⟩ := by
 obtain ⟨ht, hs⟩ := zMl e
 obtain ⟨hn, hk, hk0, hk1⟩ := keyN_lt h
 have hu : (keyT e).extract 0 ((keyT e).size - 8) = e.user := by
  have h2 : keyT e = e.user ++ (fixV (keyN e % 4294967296) ++ fixV ((keyN e / 2 ^ 32) % 4294967296)) := by rw [keyT, ByteArray.append_assoc]
  rw [hs, Nat.add_sub_cancel, h2]
  exact zCN _ _
 have hlo : kLo (keyT e) = keyN e % 4294967296 := by rw [kLo, ht, zD7]; omega
 have hhi : kHi (keyT e) = keyN e / 4294967296 := by
  rw [kHi, ht]
  have h4 := zBq (fixV (keyN e % 4294967296)) (fixV ((keyN e / 2 ^ 32) % 4294967296))
  rw [zAU] at h4
  rw [h4]
  have := zD7 ((keyN e / 2 ^ 32) % 4294967296) ⟨#[]⟩
  have e0 : fixV ((keyN e / 2 ^ 32) % 4294967296) ++ (⟨#[]⟩ : ByteArray) = fixV ((keyN e / 2 ^ 32) % 4294967296) := ByteArray.ext (by simp [ByteArray.data_append])
  rw [e0] at this
  rw [this]
  omega
 have hnum : kNum (keyT e) = keyN e := by rw [kNum, hlo, hhi]; omega
 have hE : keyE (keyT e) = ⟨e.user, e.seq, e.kind, ⟨#[]⟩⟩ := by
  rw [keyE, hnum, hu]
  congr 1 <;> omega
 have hsz := (zJI h).2
 rw [zGd hsz (by rw [hE]; exact h), hE]
def shB (ev i : Nat) (ahead : ByteArray) (e : Ent) : Nat := if i % ev = 0 then 0 else zBN ahead (keyT e)
def entB (ev i : Nat) (ahead : ByteArray) (e : Ent) : ByteArray := putV (shB ev i ahead e) ++ putX ((keyT e).extract (shB ev i ahead e) (keyT e).size) ++ putX e.value
theorem zOZ (ev i : Nat) (b : Blk) (e : Ent) : (blkS ev i b e).out = b.out ++ entB ev i b.ahead e := by
 rw [blkS, entB, shB]
 split
 · rw [zO8, ByteArray.append_assoc, ByteArray.append_assoc, ByteArray.append_assoc]
 · rw [ByteArray.append_assoc, ByteArray.append_assoc, ByteArray.append_assoc]
theorem zFl (ev i : Nat) (b : Blk) (e : Ent) : (blkS ev i b e).ahead = keyT e := by rw [blkS]; split <;> rfl
theorem zNL (ev i : Nat) (b : Blk) (e : Ent) (h : b.anew.size = 4 * b.many) : (blkS ev i b e).anew.size = 4 * (blkS ev i b e).many := by
 rw [blkS]
 split
 ·
  show (b.anew ++ fixV _).size = 4 * (b.many + 1)
  rw [zAZ, zAU, h]; omega
 · exact h
theorem zG1 (L : List Ent) (ev : Nat) : ∀ i, (blkN L ev i).anew.size = 4 * (blkN L ev i).many
 | 0 => rfl
 | i + 1 => by
  rw [blkN]
  split
  · exact zNL _ _ _ _ (zG1 L ev i)
  · exact zG1 L ev i
def zEI (L : List Ent) (ev : Nat) : Nat → Nat → ByteArray
 | _, 0 => ⟨#[]⟩
 | i, k + 1 => match L[i]? with
  | some e => entB ev i (blkN L ev i).ahead e ++ zEI L ev (i + 1) k
  | none => ⟨#[]⟩
theorem zC9 {L : List Ent} {ev i k : Nat} {e : Ent} (h : L[i]? = some e) : zEI L ev i (k + 1) = entB ev i (blkN L ev i).ahead e ++ zEI L ev (i + 1) k := by rw [zEI, h]
theorem zKg (L : List Ent) (ev : Nat) : ∀ k i, i + k = L.length → (blkN L ev i).out ++ zEI L ev i k = (blkN L ev L.length).out
 | 0, i, h => by
  have : i = L.length := by omega
  subst this
  exact ByteArray.ext (by simp [zEI, ByteArray.data_append])
 | k + 1, i, h => by
  obtain ⟨e, he⟩ : ∃ e, L[i]? = some e := ⟨_, List.getElem?_eq_getElem (by omega)⟩
  rw [zC9 he, ← zKg L ev k (i + 1) (by omega), zCC he, zOZ, ByteArray.append_assoc]
theorem zFp : ∀ l m : List UInt8, l.take (zCU l m) = m.take (zCU l m)
 | [], m => by cases m <;> simp [zCU]
 | _ :: _, [] => by simp [zCU]
 | x :: l, y :: m => by
  rw [zCU]
  split
  · next h => subst h; rw [List.take_succ_cons, List.take_succ_cons, zFp l m]
  · simp
theorem zFO (a : ByteArray) (n : Nat) : (a.extract 0 n).data.toList = a.data.toList.take n := by
 rw [ByteArray.data_extract]
 simp
theorem zLP (a b : ByteArray) : a.extract 0 (zBN a b) = b.extract 0 (zBN a b) := by
 refine ByteArray.ext (Array.toList_inj.1 ?_)
 rw [zFO, zFO]
 exact zFp _ _
theorem zOQ (b : ByteArray) {n : Nat} (h : n ≤ b.size) : b.extract 0 n ++ b.extract n b.size = b := by
 rw [ByteArray.extract_append_extract]
 simp
theorem zMC (ev i : Nat) (ahead : ByteArray) (e : Ent) : shB ev i ahead e ≤ ahead.size ∧ shB ev i ahead e ≤ (keyT e).size := by
 rw [shB]
 split
 · exact ⟨Nat.zero_le _, Nat.zero_le _⟩
 · exact zDl _ _
theorem zGN (ev i : Nat) (ahead : ByteArray) (e : Ent) : ahead.extract 0 (shB ev i ahead e) ++ (keyT e).extract (shB ev i ahead e) (keyT e).size = keyT e := by
 have h1 : ahead.extract 0 (shB ev i ahead e) = (keyT e).extract 0 (shB ev i ahead e) := by
  rw [shB]
  split
  · simp
  · exact zLP _ _
 rw [h1, zOQ _ (zMC _ _ _ _).2]
theorem zGA {ev i : Nat} {ahead : ByteArray} {e : Ent} (he : zBp e = true) (w : ByteArray) : ∃ a b, zAP (entB ev i ahead e ++ w) = some (shB ev i ahead e, a) ∧ zAX a = some ((keyT e).extract (shB ev i ahead e) (keyT e).size, b) ∧ zAX b = some (e.value, w) := by
 have hn := zDg he
 have hx := zC6 (keyT e) (shB ev i ahead e)
 have hl := (zMC ev i ahead e).2
 refine ⟨putX ((keyT e).extract (shB ev i ahead e) (keyT e).size) ++ (putX e.value ++ w), putX e.value ++ w, ?_, zE7 (by omega) _, zE7 (by omega) _⟩
 rw [entB, ByteArray.append_assoc, ByteArray.append_assoc]
 exact zCt (by omega) _
structure IsBlk (s : ByteArray) (L : List Ent) (ev : Nat) : Prop where
 ok : zBJ L = true
 pos : 0 < L.length
 ev1 : 1 ≤ ev
 ev2 : ev ≤ 16
 small : s.size ≤ 60000
 eq : s = blkF L ev
theorem isBlk {s : ByteArray} {L : List Ent} {ev : Nat} (h : zBn L ev = some s) : IsBlk s L ev := by
 rw [zBn] at h
 split at h
 ·
  next q =>
  split at h
  · next q2 => cases h; exact ⟨q.1.1, q.1.2, q.2.1, q.2.2, q2, rfl⟩
  · cases h
 · cases h
theorem IsBlk.back {s : ByteArray} {L : List Ent} {ev : Nat} (h : IsBlk s L ev) : zBn L ev = some s := by
 have := h.eq
 rw [zEh h.ok h.pos ⟨h.ev1, h.ev2⟩ (by rw [← this]; exact h.small), this]
def zCn (s : ByteArray) : ByteArray := s.extract (s.size - 8) s.size
def zED (s : ByteArray) : Nat := fx4 (zCn s)
def zBT (s : ByteArray) : Nat := fx4 ((zCn s).extract 4 (zCn s).size)
theorem IsBlk.start {s : ByteArray} {L : List Ent} {ev : Nat} (h : IsBlk s L ev) : 8 ≤ s.size ∧ zBT s = ev ∧ zED s * 4 + 8 ≤ s.size ∧ s.extract 0 (s.size - 8 - 4 * zED s) = zEI L ev 0 L.length := by
 have hl : ∀ e ∈ L, zBp e = true := fun e he => zCa h.ok he
 have hb := zG0 hl (ev := ev) L.length (Nat.le_refl _)
 have hm := zBm h.ok
 have hmany := hb.many
 obtain ⟨B, hB⟩ : ∃ B, B = blkN L ev L.length := ⟨_, rfl⟩
 have ha := zG1 L ev L.length
 rw [← hB] at ha hmany
 have e1 : s = B.out ++ (B.anew ++ (fixV B.many ++ fixV (ev % 4294967296))) := by rw [h.eq, blkF, ← hB, ByteArray.append_assoc, ByteArray.append_assoc]
 have hs : s.size = B.out.size + 4 * B.many + 8 := by rw [e1]; simp only [zAZ, zAU, ha]; omega
 have e2 : s = (B.out ++ B.anew) ++ (fixV B.many ++ fixV (ev % 4294967296)) := by rw [e1, ByteArray.append_assoc]
 have ht : zCn s = fixV B.many ++ fixV (ev % 4294967296) := by
  rw [zCn, show s.size - 8 = (B.out ++ B.anew).size by rw [zAZ, ha]; omega, e2]
  exact zBq _ _
 have hmn : zED s = B.many := by rw [zED, ht, zD7]; omega
 have hev : zBT s = ev := by
  rw [zBT, ht]
  have h4 := zBq (fixV B.many) (fixV (ev % 4294967296))
  rw [zAU] at h4
  rw [h4]
  have h5 := zD7 (ev % 4294967296) ⟨#[]⟩
  have e0 : fixV (ev % 4294967296) ++ (⟨#[]⟩ : ByteArray) = fixV (ev % 4294967296) := ByteArray.ext (by simp [ByteArray.data_append])
  rw [e0] at h5
  have := h.ev2
  rw [h5]; omega
 refine ⟨by omega, hev, by omega, ?_⟩
 have h0 := zKg L ev L.length 0 (by omega)
 have h00 : (blkN L ev 0).out = ⟨#[]⟩ := rfl
 rw [h00, zGC] at h0
 rw [h0, ← hB, hmn, show s.size - 8 - 4 * B.many = B.out.size by omega, e1]
 exact zCN _ _
def BI (s left last : ByteArray) (out : List Ent) : Prop := ∀ L ev, IsBlk s L ev → ∃ i, i ≤ L.length ∧ left = zEI L ev i (L.length - i) ∧ last = (blkN L ev i).ahead ∧ out = L.take i
theorem BI.start (s : ByteArray) : BI s (s.extract 0 (s.size - 8 - 4 * zED s)) ⟨#[]⟩ [] := fun L ev h => ⟨0, Nat.zero_le _, h.start.2.2.2, rfl, rfl⟩
theorem zOb {a b : ByteArray} (h : 0 < a.size) : ¬ a ++ b = ⟨#[]⟩ := fun q => by
 have := congrArg ByteArray.size q
 rw [zAZ] at this
 have e : (⟨#[]⟩ : ByteArray).size = 0 := rfl
 omega
theorem zNy (n : Nat) : 0 < (putV n).size := by
 rw [putV, zDN, putL]
 split <;> simp
theorem zGB (ev i : Nat) (a : ByteArray) (e : Ent) : 0 < (entB ev i a e).size := by
 have := zNy (shB ev i a e)
 simp only [entB, zAZ]
 omega
structure Rd1 (left last : ByteArray) (out : List Ent) (sh : Nat) (more value c : ByteArray) (k : Ent) : Prop where
 a : ∃ a b, zAP left = some (sh, a) ∧ zAX a = some (more, b) ∧ zAX b = some (value, c)
 le : sh ≤ last.size
 key : zBB (last.extract 0 sh ++ more) = some k
theorem BI.next {s left last : ByteArray} {out : List Ent} (h : BI s left last out) (hne : ¬ left = ⟨#[]⟩) {L : List Ent} {ev : Nat} (hL : IsBlk s L ev) : out.length < 400 ∧ ∃ sh more value c k, Rd1 left last out sh more value c k := by
 obtain ⟨i, hi, hl, ha, ho⟩ := h L ev hL
 have hlt : i < L.length := by
  rcases Nat.lt_or_ge i L.length with q | q
  · exact q
  · exact absurd (by rw [hl, show L.length - i = 0 by omega]; rfl) hne
 obtain ⟨e, he⟩ : ∃ e, L[i]? = some e := ⟨_, List.getElem?_eq_getElem hlt⟩
 have hok := zCa hL.ok (List.mem_of_getElem? he)
 rw [show L.length - i = (L.length - (i + 1)) + 1 by omega, zC9 he] at hl
 obtain ⟨a, b, h1, h2, h3⟩ := zGA (ev := ev) (i := i) (ahead := (blkN L ev i).ahead) hok (zEI L ev (i + 1) (L.length - (i + 1)))
 rw [← hl] at h1
 refine ⟨?_, shB ev i (blkN L ev i).ahead e, _, _, _, ⟨e.user, e.seq, e.kind, ⟨#[]⟩⟩, ⟨⟨a, b, h1, h2, h3⟩, ?_, ?_⟩⟩
 ·
  have := zBm hL.ok
  rw [ho, List.length_take]; omega
 · rw [ha]; exact (zMC _ _ _ _).1
 ·
  rw [ha, zGN]
  exact zFG (zCB hok)
theorem BI.step {s left last : ByteArray} {out : List Ent} (h : BI s left last out) (hne : ¬ left = ⟨#[]⟩) {sh : Nat} {a b more value c : ByteArray} {k : Ent} (h1 : zAP left = some (sh, a)) (h2 : zAX a = some (more, b)) (h3 : zAX b = some (value, c)) (hk : zBB (last.extract 0 sh ++ more) = some k) :
  BI s c (last.extract 0 sh ++ more) (out ++ [⟨k.user, k.seq, k.kind, value⟩]) := fun L ev hL => by
 obtain ⟨i, hi, hl, ha, ho⟩ := h L ev hL
 have hlt : i < L.length := by
  rcases Nat.lt_or_ge i L.length with q | q
  · exact q
  · exact absurd (by rw [hl, show L.length - i = 0 by omega]; rfl) hne
 obtain ⟨e, he⟩ : ∃ e, L[i]? = some e := ⟨_, List.getElem?_eq_getElem hlt⟩
 have hok := zCa hL.ok (List.mem_of_getElem? he)
 rw [show L.length - i = (L.length - (i + 1)) + 1 by omega, zC9 he] at hl
 obtain ⟨a', b', g1, g2, g3⟩ := zGA (ev := ev) (i := i) (ahead := (blkN L ev i).ahead) hok (zEI L ev (i + 1) (L.length - (i + 1)))
 rw [← hl, h1] at g1
 cases g1
 rw [h2] at g2
 cases g2
 rw [h3] at g3
 cases g3
 rw [ha, zGN, zFG (zCB hok)] at hk
 cases hk
 refine ⟨i + 1, hlt, by rw [show L.length - (i + 1) = L.length - (i + 1) from rfl], ?_, ?_⟩
 · rw [ha, zGN, zCC he, zFl]
 · rw [ho, List.take_add_one, he]; rfl
theorem BI.last {s last : ByteArray} {out : List Ent} (h : BI s ⟨#[]⟩ last out) {L : List Ent} {ev : Nat} (hL : IsBlk s L ev) : out = L := by
 obtain ⟨i, hi, hl, ha, ho⟩ := h L ev hL
 rcases Nat.lt_or_ge i L.length with q | q
 ·
  obtain ⟨e, he⟩ : ∃ e, L[i]? = some e := ⟨_, List.getElem?_eq_getElem q⟩
  rw [show L.length - i = (L.length - (i + 1)) + 1 by omega, zC9 he] at hl
  exact absurd hl.symm (zOb (zGB _ _ _ _))
 · rw [ho, List.take_of_length_le q]
theorem zLd {s : ByteArray} {L L' : List Ent} {ev ev' : Nat} (h : IsBlk s L ev) (h' : IsBlk s L' ev') : L = L' ∧ ev = ev' := by
 have hev : ev = ev' := h.start.2.1.symm.trans h'.start.2.1
 subst hev
 refine ⟨?_, rfl⟩
 have key : ∀ k i, k + i = L.length → L.take i = L'.take i → i ≤ L'.length → zEI L ev i (L.length - i) = zEI L' ev i (L'.length - i) → (blkN L ev i).ahead = (blkN L' ev i).ahead → L = L' := by
  intro k
  induction k with
  | zero =>
   intro i hk ht hi' hr ha
   have : i = L.length := by omega
   subst this
   rcases Nat.lt_or_ge L.length L'.length with q | q
   ·
    obtain ⟨e, he⟩ : ∃ e, L'[L.length]? = some e := ⟨_, List.getElem?_eq_getElem q⟩
    rw [show L'.length - L.length = (L'.length - (L.length + 1)) + 1 by omega, zC9 he, Nat.sub_self] at hr
    exact absurd hr.symm (zOb (zGB _ _ _ _))
   ·
    rw [List.take_of_length_le (Nat.le_refl _), List.take_of_length_le (by omega)] at ht
    exact ht
  | succ k ih =>
   intro i hk ht hi' hr ha
   have hlt : i < L.length := by omega
   obtain ⟨e, he⟩ : ∃ e, L[i]? = some e := ⟨_, List.getElem?_eq_getElem hlt⟩
   have hok := zCa h.ok (List.mem_of_getElem? he)
   rw [show L.length - i = (L.length - (i + 1)) + 1 by omega, zC9 he] at hr
   have hlt' : i < L'.length := by
    rcases Nat.lt_or_ge i L'.length with q | q
    · exact q
    ·
     rw [show L'.length - i = 0 by omega] at hr
     exact absurd hr (zOb (zGB _ _ _ _))
   obtain ⟨e', he'⟩ : ∃ e, L'[i]? = some e := ⟨_, List.getElem?_eq_getElem hlt'⟩
   have hok' := zCa h'.ok (List.mem_of_getElem? he')
   rw [show L'.length - i = (L'.length - (i + 1)) + 1 by omega, zC9 he'] at hr
   obtain ⟨a, b, g1, g2, g3⟩ := zGA (ev := ev) (i := i) (ahead := (blkN L ev i).ahead) hok (zEI L ev (i + 1) (L.length - (i + 1)))
   obtain ⟨a', b', f1, f2, f3⟩ := zGA (ev := ev) (i := i) (ahead := (blkN L' ev i).ahead) hok' (zEI L' ev (i + 1) (L'.length - (i + 1)))
   rw [hr, f1] at g1
   have g1' := Option.some.inj g1
   have gs : shB ev i (blkN L' ev i).ahead e' = shB ev i (blkN L ev i).ahead e := (Prod.mk.inj g1').1
   have ga : a' = a := (Prod.mk.inj g1').2
   subst ga
   rw [f2] at g2
   have gx := (Prod.mk.inj (Option.some.inj g2)).1
   have gb := (Prod.mk.inj (Option.some.inj g2)).2
   subst gb
   rw [f3] at g3
   have gv := (Prod.mk.inj (Option.some.inj g3)).1
   have gw := (Prod.mk.inj (Option.some.inj g3)).2
   have hkey : keyT e' = keyT e := by
    rw [← zGN ev i (blkN L' ev i).ahead e', ← zGN ev i (blkN L ev i).ahead e, gx, gs, ha]
   have hk2 := zFG (zCB hok)
   rw [← hkey, zFG (zCB hok')] at hk2
   have hk3 := Option.some.inj hk2
   have hee : e' = e := by
    cases e; cases e'
    simp only [Ent.mk.injEq] at hk3 gv ⊢
    exact ⟨hk3.1, hk3.2.1, hk3.2.2.1, gv⟩
   subst hee
   refine ih (i + 1) (by omega) ?_ hlt' gw.symm ?_
   · rw [List.take_add_one, List.take_add_one, ht, he, he']
   · rw [zCC he, zCC he', zFl, zFl]
 have h0 : zEI L ev 0 L.length = zEI L' ev 0 L'.length := by rw [← h.start.2.2.2, ← h'.start.2.2.2]
 exact key L.length 0 (by omega) rfl (Nat.zero_le _) (by rw [Nat.sub_zero, Nat.sub_zero]; exact h0) rfl
open Classical in
noncomputable def zBI (s : ByteArray) : Option (List Ent) := if h : ∃ L ev, IsBlk s L ev then some h.choose else none
theorem zD4 {s : ByteArray} (h : ∀ L ev, ¬ IsBlk s L ev) : zBI s = none := by
 rw [zBI, dif_neg]
 rintro ⟨L, ev, q⟩
 exact h L ev q
theorem zI2 {s : ByteArray} {L : List Ent} {ev : Nat} (h : IsBlk s L ev) : zBI s = some L := by
 have hx : ∃ L ev, IsBlk s L ev := ⟨L, ev, h⟩
 rw [zBI, dif_pos hx]
 obtain ⟨ev', h'⟩ := hx.choose_spec
 rw [(zLd h' h).1]
theorem zHT {s : ByteArray} {L : List Ent} (h : zBI s = some L) : ∃ ev, IsBlk s L ev := by
 rw [zBI] at h
 split at h
 · next q => cases h; exact q.choose_spec
 · cases h
theorem BI.good {s last : ByteArray} {out : List Ent} (_ : BI s ⟨#[]⟩ last out) (hb : zBn out (zBT s) = some s) : zBI s = some out := zI2 (isBlk hb)
theorem BI.bad {s last : ByteArray} {out : List Ent} (h : BI s ⟨#[]⟩ last out) (hb : ¬ zBn out (zBT s) = some s) : zBI s = none := zD4 fun L ev hL => hb (by
 rw [h.last hL, hL.start.2.1]
 exact hL.back)
end Go.Rl
namespace Go.Rl
structure IsTab (s : ByteArray) (L : List Ent) (ev sz kd : Nat) : Prop where
 ok : zBJ L = true
 pos : 0 < L.length
 ev1 : 1 ≤ ev
 ev2 : ev ≤ 16
 sz1 : 20 ≤ sz
 sz2 : sz ≤ 4000
 kd2 : kd ≤ 2
 small : s.size ≤ 60000
 eq : s = zDE L ev sz kd
def shpN (ev sz kd : Nat) : Shp := ⟨(ev : Int), (sz : Int), (kd : Int)⟩
theorem isTab {s : ByteArray} {L : List Ent} {p : Shp} (h : zBW L p = some s) : IsTab s L p.every.toNat p.size.toNat p.kind.toNat ∧ p = shpN p.every.toNat p.size.toNat p.kind.toNat := by
 rw [zBW] at h
 split at h
 ·
  next q =>
  split at h
  ·
   next q2 =>
   cases h
   have hn := zHz q.2
   refine ⟨⟨q.1.1, q.1.2, by omega, by omega, by omega, by omega, by omega, q2, rfl⟩, ?_⟩
   cases p
   simp only [shpN, Shp.mk.injEq]
   simp only [] at hn
   omega
  · cases h
 · cases h
theorem IsTab.back {s : ByteArray} {L : List Ent} {ev sz kd : Nat} (h : IsTab s L ev sz kd) : zBW L (shpN ev sz kd) = some s := by
 have e := h.eq
 have hs : zBg (shpN ev sz kd) = true := by
  have h1 := h.ev1
  have h2 := h.ev2
  have h3 := h.sz1
  have h4 := h.sz2
  have h5 := h.kd2
  have hw : ∀ n lo hi : Int, lo ≤ n → n ≤ hi → zAi n lo hi = true := fun n lo hi q1 q2 => by rw [zAi, decide_eq_true q1, decide_eq_true q2]; rfl
  show (zAi (ev : Int) 1 16 && (zAi (sz : Int) 20 4000 && zAi (kd : Int) 0 2)) = true
  rw [hw _ _ _ (by omega) (by omega), hw _ _ _ (by omega) (by omega), hw _ _ _ (by omega) (by omega)]
  rfl
 have ht : zHF L (shpN ev sz kd) = s := e.symm
 rw [zFW h.ok h.pos hs (by rw [ht]; exact h.small), ht]
theorem IsTab.mk' {s : ByteArray} {L : List Ent} {ev sz kd : Nat} (h : zBW L (shpN ev sz kd) = some s) : IsTab s L ev sz kd := (isTab h).1
def zCS (s : ByteArray) : ByteArray := s.extract (s.size - 16) s.size
def cut4 (s : ByteArray) : ByteArray := s.extract 4 s.size
def tAt0 (s : ByteArray) : Nat := fx4 (zCS s)
def tAt1 (s : ByteArray) : Nat := fx4 (cut4 (zCS s))
def tAt2 (s : ByteArray) : Nat := fx4 (cut4 (cut4 (zCS s)))
def tAt3 (s : ByteArray) : Nat := fx4 (cut4 (cut4 (cut4 (zCS s))))
theorem zIa (x : Nat) (r : ByteArray) : cut4 (fixV x ++ r) = r := by
 have := zBq (fixV x) r
 rwa [zAU] at this
theorem zOF (x : Nat) : fx4 (fixV x) = x % 4294967296 := by
 have h5 := zD7 x ⟨#[]⟩
 have e0 : fixV x ++ (⟨#[]⟩ : ByteArray) = fixV x := ByteArray.ext (by simp [ByteArray.data_append])
 rwa [e0] at h5
structure Foot (s : ByteArray) (L : List Ent) (ev sz kd : Nat) : Prop where
 big : 16 ≤ s.size
 at0 : tAt0 s = (tab1 L ev sz).size
 at1 : tAt1 s = (tab2 L ev sz).size
 at2 : tAt2 s = (tab3 L ev sz kd).size
 at3 : tAt3 s = 1279478321
 size : s.size = (tab4 L ev sz kd).size + 16
 le01 : (tab1 L ev sz).size ≤ (tab2 L ev sz).size
 le12 : (tab2 L ev sz).size ≤ (tab3 L ev sz kd).size
 le23 : (tab3 L ev sz kd).size ≤ (tab4 L ev sz kd).size
 all : s.extract 0 (s.size - 16) = tab4 L ev sz kd
theorem IsTab.foot {s : ByteArray} {L : List Ent} {ev sz kd : Nat} (h : IsTab s L ev sz kd) : Foot s L ev sz kd := by
 have e1 : s = tab4 L ev sz kd ++ (fixS (tab1 L ev sz) ++ (fixS (tab2 L ev sz) ++ (fixS (tab3 L ev sz kd) ++ fixV 1279478321))) := by
  rw [h.eq, zDE, zOI, ByteArray.append_assoc, ByteArray.append_assoc, ByteArray.append_assoc]
 have hs : s.size = (tab4 L ev sz kd).size + 16 := by
  have := congrArg ByteArray.size e1
  simp only [fixS, zAZ, zAU] at this
  omega
 have l1 : (tab2 L ev sz).size = (tab1 L ev sz).size + (secF (tabN L ev sz L.length).index).size := by rw [tab2, zAZ]
 have l2 : (tab3 L ev sz kd).size = (tab2 L ev sz).size + (secF (zBf (zAr (zAm L) (kd : Int)))).size := by rw [tab3, zAZ]
 have l3 : (tab4 L ev sz kd).size = (tab3 L ev sz kd).size + (secF (zBx L ev sz kd)).size := by rw [tab4, zAZ]
 have hsm := h.small
 have ht : zCS s = fixS (tab1 L ev sz) ++ (fixS (tab2 L ev sz) ++ (fixS (tab3 L ev sz kd) ++ fixV 1279478321)) := by
  rw [zCS, show s.size - 16 = (tab4 L ev sz kd).size by omega, e1]
  exact zBq _ _
 have c1 : cut4 (zCS s) = fixS (tab2 L ev sz) ++ (fixS (tab3 L ev sz kd) ++ fixV 1279478321) := by rw [ht, fixS, zIa]
 have c2 : cut4 (cut4 (zCS s)) = fixS (tab3 L ev sz kd) ++ fixV 1279478321 := by rw [c1, fixS, zIa]
 have c3 : cut4 (cut4 (cut4 (zCS s))) = fixV 1279478321 := by rw [c2, fixS, zIa]
 refine ⟨by omega, ?_, ?_, ?_, ?_, hs, by omega, by omega, by omega, ?_⟩
 · rw [tAt0, ht, fixS, zD7]; omega
 · rw [tAt1, c1, fixS, zD7]; omega
 · rw [tAt2, c2, fixS, zD7]; omega
 · rw [tAt3, c3, zOF]
 ·
  rw [show s.size - 16 = (tab4 L ev sz kd).size by omega, e1]
  exact zCN _ _
theorem zKI {s a b : ByteArray} (h : s = a ++ b) : s.extract a.size s.size = b := by rw [h]; exact zBq _ _
theorem zMw {s a b c : ByteArray} (h : s = a ++ (b ++ c)) : s.extract a.size (a.size + b.size) = b := by
 subst h
 rw [ByteArray.extract_append]
 have e1 : a.extract a.size (a.size + b.size) = ⟨#[]⟩ := by
  rw [ByteArray.extract_eq_empty_iff.2 (by omega)]; rfl
 rw [e1, zGC, Nat.sub_self, Nat.add_sub_cancel_left]
 exact zCN _ _
def endT (L : List Ent) (ev sz kd : Nat) : ByteArray := zOI L ev sz kd ++ fixV 1279478321
theorem IsTab.s_index {s : ByteArray} {L : List Ent} {ev sz kd : Nat} (h : IsTab s L ev sz kd) : s = tab1 L ev sz ++ (secF (tabN L ev sz L.length).index ++ (secF (zBf (zAr (zAm L) (kd : Int))) ++ (secF (zBx L ev sz kd) ++ endT L ev sz kd))) := by
 rw [h.eq, zDE, endT, tab4, tab3, tab2]
 simp only [ByteArray.append_assoc]
theorem IsTab.s_filter {s : ByteArray} {L : List Ent} {ev sz kd : Nat} (h : IsTab s L ev sz kd) : s = tab2 L ev sz ++ (secF (zBf (zAr (zAm L) (kd : Int))) ++ (secF (zBx L ev sz kd) ++ endT L ev sz kd)) := by
 rw [h.eq, zDE, endT, tab4, tab3]
 simp only [ByteArray.append_assoc]
theorem IsTab.s_props {s : ByteArray} {L : List Ent} {ev sz kd : Nat} (h : IsTab s L ev sz kd) : s = tab3 L ev sz kd ++ (secF (zBx L ev sz kd) ++ endT L ev sz kd) := by
 rw [h.eq, zDE, endT, tab4]
 simp only [ByteArray.append_assoc]
theorem IsTab.secs {s : ByteArray} {L : List Ent} {ev sz kd : Nat} (h : IsTab s L ev sz kd) : (tabN L ev sz L.length).index.size ≤ 60000 ∧ (zBf (zAr (zAm L) (kd : Int))).size ≤ 60000 ∧ (zBx L ev sz kd).size ≤ 60000 := by
 have h1 := h.small
 have h2 := congrArg ByteArray.size h.s_index
 simp only [secF, putX, zAZ] at h2
 omega
theorem IsTab.filter_at {s : ByteArray} {L : List Ent} {ev sz kd : Nat} (h : IsTab s L ev sz kd) : (∃ r, zCi (s.extract (tAt1 s) s.size) = some (zBf (zAr (zAm L) (kd : Int)), r)) ∧ ∃ r, zCi (s.extract (tAt1 s) (s.size - 16)) = some (zBf (zAr (zAm L) (kd : Int)), r) := by
 have hf := h.foot
 constructor
 ·
  rw [hf.at1, zKI h.s_filter]
  exact ⟨_, zCd h.secs.2.1 _⟩
 ·
  have e : s = tab2 L ev sz ++ ((secF (zBf (zAr (zAm L) (kd : Int))) ++ secF (zBx L ev sz kd)) ++ endT L ev sz kd) := by rw [ByteArray.append_assoc]; exact h.s_filter
  have hsz : s.size - 16 = (tab2 L ev sz).size + (secF (zBf (zAr (zAm L) (kd : Int))) ++ secF (zBx L ev sz kd)).size := by
   rw [hf.size, tab4, tab3]
   simp only [zAZ]
   omega
  rw [hf.at1, hsz, zMw e]
  exact ⟨_, zCd h.secs.2.1 _⟩
theorem IsTab.props_at {s : ByteArray} {L : List Ent} {ev sz kd : Nat} (h : IsTab s L ev sz kd) : (∃ r, zCi (s.extract (tAt2 s) s.size) = some (zBx L ev sz kd, r)) ∧ ∃ r, zCi (s.extract (tAt2 s) (s.size - 16)) = some (zBx L ev sz kd, r) := by
 have hf := h.foot
 constructor
 ·
  rw [hf.at2, zKI h.s_props]
  exact ⟨_, zCd h.secs.2.2 _⟩
 ·
  have hsz : s.size - 16 = (tab3 L ev sz kd).size + (secF (zBx L ev sz kd)).size := by
   rw [hf.size, tab4]
   simp only [zAZ]
   omega
  rw [hf.at2, hsz, zMw h.s_props]
  have e0 : secF (zBx L ev sz kd) ++ (⟨#[]⟩ : ByteArray) = secF (zBx L ev sz kd) := ByteArray.ext (by simp [ByteArray.data_append])
  rw [← e0]
  exact ⟨_, zCd h.secs.2.2 _⟩
theorem zEZ (L : List Ent) {ev sz kd : Nat} (hn : L.length ≤ 400) (hev : ev ≤ 16) (hs : sz ≤ 4000) (hkd : kd ≤ 2) : ∃ r, zAP (zBx L ev sz kd) = some (L.length, r) ∧ 64 ≤ r.size ∧ r.extract 0 64 = hllF (zAm L) ∧ ∃ r2 r3, zAP (r.extract 64 r.size) = some (ev, r2) ∧ zAP r2 = some (sz, r3) ∧ zAP r3 = some (kd, ⟨#[]⟩) := by
 have h5 : (hllF (zAm L)).size = 64 := zE3 (zEM _ _)
 have e1 : zBx L ev sz kd = putV L.length ++ (hllF (zAm L) ++ (putV ev ++ (putV sz ++ putV kd))) := by rw [zBx]; simp only [ByteArray.append_assoc]
 have e0 : putV kd ++ (⟨#[]⟩ : ByteArray) = putV kd := ByteArray.ext (by simp [ByteArray.data_append])
 have hk := zCt (n := kd) (by omega) ⟨#[]⟩
 rw [e0] at hk
 refine ⟨hllF (zAm L) ++ (putV ev ++ (putV sz ++ putV kd)), by rw [e1]; exact zCt (by omega) _, by rw [zAZ]; omega, ?_, putV sz ++ putV kd, putV kd, ?_, zCt (by omega) _, hk⟩
 ·
  have := zCN (hllF (zAm L)) (putV ev ++ (putV sz ++ putV kd))
  rwa [h5] at this
 ·
  have := zBq (hllF (zAm L)) (putV ev ++ (putV sz ++ putV kd))
  rw [h5] at this
  rw [this]
  exact zCt (by omega) _
def zF2 (L : List Ent) (ev sz i : Nat) : Prop := i ≤ L.length ∧ (tabN L ev sz i).start = i
theorem zIT (L : List Ent) (ev sz : Nat) : zF2 L ev sz 0 := ⟨Nat.zero_le _, rfl⟩
theorem zEf {L : List Ent} {i i' : Nat} (h : i ≤ i') : L.take i ++ curT L i i' = L.take i' := by
 rw [curT, show i' = i + (i' - i) by omega, List.take_add, show i + (i' - i) - i = i' - i by omega]
theorem zLg {L : List Ent} {ev sz i : Nat} (hi : zF2 L ev sz i) (hlt : i < L.length) : ∃ i', i < i' ∧ zF2 L ev sz i' ∧ (tabN L ev sz i').out = (tabN L ev sz i).out ++ secF (blkF (curT L i i') ev) := by
 have key : ∀ d j, j + d + 1 = L.length → i ≤ j → (tabN L ev sz j).start = i → (tabN L ev sz j).out = (tabN L ev sz i).out → ∃ i', i < i' ∧ zF2 L ev sz i' ∧ (tabN L ev sz i').out = (tabN L ev sz i).out ++ secF (blkF (curT L i i') ev) := by
  intro d
  induction d with
  | zero =>
   intro j hj hij hs ho
   obtain ⟨e, he⟩ : ∃ e, L[j]? = some e := ⟨_, List.getElem?_eq_getElem (by omega)⟩
   have hF := zCu (ev := ev) (sz := sz) he (by omega)
   refine ⟨j + 1, by omega, ⟨by omega, by rw [hF]⟩, ?_⟩
   rw [hF, hs, ho]
  | succ d ih =>
   intro j hj hij hs ho
   obtain ⟨e, he⟩ : ∃ e, L[j]? = some e := ⟨_, List.getElem?_eq_getElem (by omega)⟩
   by_cases q : (blkF (curT L (tabN L ev sz j).start (j + 1)) ev).size < sz ∧ j + 1 < L.length
   ·
    have hK := zES he q.1 q.2
    exact ih (j + 1) (by omega) (by omega) (by rw [hK]; exact hs) (by rw [hK]; exact ho)
   ·
    have hF := zCu (ev := ev) (sz := sz) he q
    refine ⟨j + 1, by omega, ⟨by omega, by rw [hF]⟩, ?_⟩
    rw [hF, hs, ho]
 exact key (L.length - i - 1) i (by omega) (Nat.le_refl _) hi.2 rfl
theorem zKY {L : List Ent} {ev sz : Nat} : ∀ k i, i + k = L.length → ∃ w, (tabN L ev sz L.length).out = (tabN L ev sz i).out ++ w
 | 0, i, h => by
  have : i = L.length := by omega
  subst this
  exact ⟨⟨#[]⟩, ByteArray.ext (by simp [ByteArray.data_append])⟩
 | k + 1, i, h => by
  obtain ⟨e, he⟩ : ∃ e, L[i]? = some e := ⟨_, List.getElem?_eq_getElem (by omega)⟩
  obtain ⟨w, hw⟩ := zKY (L := L) (ev := ev) (sz := sz) k (i + 1) (by omega)
  by_cases q : (blkF (curT L (tabN L ev sz i).start (i + 1)) ev).size < sz ∧ i + 1 < L.length
  ·
   rw [zES he q.1 q.2] at hw
   exact ⟨w, hw⟩
  ·
   rw [zCu (ev := ev) (sz := sz) he q] at hw
   exact ⟨_, by rw [hw, ByteArray.append_assoc]⟩
theorem zMa {s : ByteArray} {L : List Ent} {ev sz kd : Nat} (h : IsTab s L ev sz kd) : (tab1 L ev sz).size ≤ 60000 := by
 have h1 := h.small
 have h2 := congrArg ByteArray.size h.s_index
 rw [zAZ] at h2
 omega
theorem IsTab.next {s : ByteArray} {L : List Ent} {ev sz kd : Nat} (h : IsTab s L ev sz kd) {i : Nat} (hi : zF2 L ev sz i) (hlt : i < L.length) : ∃ i' B w, i < i' ∧ zF2 L ev sz i' ∧ (tabN L ev sz i').out = (tabN L ev sz i).out ++ secF B ∧ zBI B = some (curT L i i') ∧ tab1 L ev sz = (tabN L ev sz i).out ++ (secF B ++ w) ∧ B.size ≤ 60000 := by
 obtain ⟨i', h1, h2, h3⟩ := zLg (ev := ev) (sz := sz) hi hlt
 obtain ⟨w, hw⟩ := zKY (L := L) (ev := ev) (sz := sz) (L.length - i') i' (by have := h2.1; omega)
 have hb : (blkF (curT L i i') ev).size ≤ 60000 := by
  have := zMa h
  rw [tab1, hw, h3] at this
  simp only [zAZ, secF, putX] at this
  omega
 have hcl : (curT L i i').length = i' - i := zE5 (by omega) h2.1
 refine ⟨i', _, w, h1, h2, h3, zI2 ⟨zO1 h.ok i i', by omega, h.ev1, h.ev2, hb, rfl⟩, ?_, hb⟩
 rw [tab1, hw, h3, ByteArray.append_assoc]
def TI (s left : ByteArray) (out : List Ent) : Prop := ∀ L ev sz kd, IsTab s L ev sz kd → ∃ i, zF2 L ev sz i ∧ tab1 L ev sz = (tabN L ev sz i).out ++ left ∧ out = L.take i
def TA (s : ByteArray) (at_ : Nat) (out : List Ent) : Prop := ∀ L ev sz kd, IsTab s L ev sz kd → ∃ i, zF2 L ev sz i ∧ at_ = (tabN L ev sz i).out.size ∧ out = L.take i
theorem TI.start (s : ByteArray) : TI s (s.extract 0 (tAt0 s)) [] := fun L ev sz kd h => ⟨0, zIT _ _ _, by
 have h0 : (tabN L ev sz 0).out = ⟨#[]⟩ := rfl
 rw [h0, zGC, h.foot.at0]
 conv => rhs; rw [h.s_index]
 exact (zCN _ _).symm, rfl⟩
theorem TA.start (s : ByteArray) : TA s 0 [] := fun L ev sz kd _ => ⟨0, zIT _ _ _, rfl, rfl⟩
theorem zOd {a b : ByteArray} (h : a = a ++ b) : b = ⟨#[]⟩ := by
 have h2 := zBq a b
 rw [← h] at h2
 rw [← h2, ByteArray.extract_eq_empty_iff.2 (by omega)]
 rfl
theorem TI.lt {s left : ByteArray} {out : List Ent} (_ : TI s left out) (hne : ¬ left = ⟨#[]⟩) {L : List Ent} {ev sz kd i : Nat} (_ : IsTab s L ev sz kd) (hi : zF2 L ev sz i) (hl : tab1 L ev sz = (tabN L ev sz i).out ++ left) : i < L.length := by
 rcases Nat.lt_or_ge i L.length with q | q
 · exact q
 ·
  have : i = L.length := by have := hi.1; omega
  subst this
  exact absurd (zOd hl) hne
theorem zGE {a b c : ByteArray} (h : a ++ b = a ++ c) : b = c := by
 have h1 := zBq a b
 have h2 := zBq a c
 rw [h] at h1
 exact h1.symm.trans h2
theorem TI.more {s left : ByteArray} {out : List Ent} (h : TI s left out) (hne : ¬ left = ⟨#[]⟩) {L : List Ent} {ev sz kd : Nat} (hL : IsTab s L ev sz kd) : ∃ x r m, zCi left = some (x, r) ∧ zBI x = some m ∧ out.length + m.length ≤ 400 := by
 obtain ⟨i, hi, hl, ho⟩ := h L ev sz kd hL
 obtain ⟨i', B, w, h1, h2, h3, h4, h5, h6⟩ := hL.next hi (h.lt hne hL hi hl)
 have hle : left = secF B ++ w := zGE (hl.symm.trans h5)
 refine ⟨B, w, _, by rw [hle]; exact zCd h6 _, h4, ?_⟩
 have := zBm hL.ok
 have h7 := congrArg List.length (zEf (L := L) (Nat.le_of_lt h1))
 rw [List.length_append, ← ho, List.length_take] at h7
 omega
theorem TI.step {s left : ByteArray} {out : List Ent} (h : TI s left out) (hne : ¬ left = ⟨#[]⟩) {x r : ByteArray} {m : List Ent} (h1 : zCi left = some (x, r)) (h2 : zBI x = some m) : TI s r (out ++ m) := fun L ev sz kd hL => by
 obtain ⟨i, hi, hl, ho⟩ := h L ev sz kd hL
 obtain ⟨i', B, w, g1, g2, g3, g4, g5, g6⟩ := hL.next hi (h.lt hne hL hi hl)
 have hle : left = secF B ++ w := zGE (hl.symm.trans g5)
 rw [hle, zCd g6] at h1
 have e1 : B = x := (Prod.mk.inj (Option.some.inj h1)).1
 have e2 : w = r := (Prod.mk.inj (Option.some.inj h1)).2
 subst e1
 subst e2
 rw [g4] at h2
 cases h2
 refine ⟨i', g2, ?_, ?_⟩
 · rw [g3, g5, ByteArray.append_assoc]
 · rw [ho, zEf (Nat.le_of_lt g1)]
theorem TI.last {s : ByteArray} {out : List Ent} (h : TI s ⟨#[]⟩ out) {L : List Ent} {ev sz kd : Nat} (hL : IsTab s L ev sz kd) : out = L := by
 obtain ⟨i, hi, hl, ho⟩ := h L ev sz kd hL
 rcases Nat.lt_or_ge i L.length with q | q
 ·
  obtain ⟨i', B, w, h1, h2, h3, h4, h5, h6⟩ := hL.next hi q
  have := zGE (hl.symm.trans h5)
  exact absurd this.symm (by
   have hp : 0 < (secF B).size := by simp only [secF, zAZ, zAU]; omega
   exact zOb hp)
 · rw [ho, List.take_of_length_le q]
theorem IsTab.at_ {s : ByteArray} {L : List Ent} {ev sz kd : Nat} (h : IsTab s L ev sz kd) {a b : ByteArray} (hab : tab1 L ev sz = a ++ b) : ∃ t, s.extract a.size s.size = b ++ t := by
 refine ⟨_, zKI (b := b ++ (secF (tabN L ev sz L.length).index ++ (secF (zBf (zAr (zAm L) (kd : Int))) ++ (secF (zBx L ev sz kd) ++ endT L ev sz kd)))) ?_⟩
 rw [← ByteArray.append_assoc, ← hab]
 exact h.s_index
theorem TA.lt {s : ByteArray} {at_ : Nat} {out : List Ent} (_ : TA s at_ out) (hlt : at_ < tAt0 s) {L : List Ent} {ev sz kd i : Nat} (hL : IsTab s L ev sz kd) (hi : zF2 L ev sz i) (hl : at_ = (tabN L ev sz i).out.size) : i < L.length := by
 rcases Nat.lt_or_ge i L.length with q | q
 · exact q
 ·
  have : i = L.length := by have := hi.1; omega
  subst this
  rw [hL.foot.at0, tab1] at hlt
  omega
theorem TA.more {s : ByteArray} {at_ : Nat} {out : List Ent} (h : TA s at_ out) (hlt : at_ < tAt0 s) {L : List Ent} {ev sz kd : Nat} (hL : IsTab s L ev sz kd) : at_ ≤ s.size ∧ ∃ x r m, zCi (s.extract at_ s.size) = some (x, r) ∧ zBI x = some m ∧ out.length + m.length ≤ 400 := by
 obtain ⟨i, hi, hl, ho⟩ := h L ev sz kd hL
 obtain ⟨i', B, w, h1, h2, h3, h4, h5, h6⟩ := hL.next hi (h.lt hlt hL hi hl)
 obtain ⟨t, ht⟩ := hL.at_ h5
 refine ⟨?_, B, w ++ t, _, by rw [hl, ht, ByteArray.append_assoc]; exact zCd h6 _, h4, ?_⟩
 ·
  have := congrArg ByteArray.size h5
  have h7 := congrArg ByteArray.size hL.s_index
  rw [zAZ] at this h7
  omega
 ·
  have := zBm hL.ok
  have h7 := congrArg List.length (zEf (L := L) (Nat.le_of_lt h1))
  rw [List.length_append, ← ho, List.length_take] at h7
  omega
theorem TA.step {s : ByteArray} {at_ : Nat} {out : List Ent} (h : TA s at_ out) (hlt : at_ < tAt0 s) {x r : ByteArray} {m : List Ent} (h1 : zCi (s.extract at_ s.size) = some (x, r)) (h2 : zBI x = some m) : TA s (at_ + (secF x).size) (out ++ m) := fun L ev sz kd hL => by
 obtain ⟨i, hi, hl, ho⟩ := h L ev sz kd hL
 obtain ⟨i', B, w, g1, g2, g3, g4, g5, g6⟩ := hL.next hi (h.lt hlt hL hi hl)
 obtain ⟨t, ht⟩ := hL.at_ g5
 rw [hl, ht, ByteArray.append_assoc, zCd g6] at h1
 have e1 : B = x := (Prod.mk.inj (Option.some.inj h1)).1
 subst e1
 rw [g4] at h2
 cases h2
 refine ⟨i', g2, ?_, ?_⟩
 · rw [g3, zAZ, hl]
 · rw [ho, zEf (Nat.le_of_lt g1)]
theorem TA.last {s : ByteArray} {at_ : Nat} {out : List Ent} (h : TA s at_ out) (hge : ¬ at_ < tAt0 s) {L : List Ent} {ev sz kd : Nat} (hL : IsTab s L ev sz kd) : out = L := by
 obtain ⟨i, hi, hl, ho⟩ := h L ev sz kd hL
 rcases Nat.lt_or_ge i L.length with q | q
 ·
  obtain ⟨i', B, w, h1, h2, h3, h4, h5, h6⟩ := hL.next hi q
  have h7 := congrArg ByteArray.size h5
  have hp : 0 < (secF B).size := by simp only [secF, zAZ, zAU]; omega
  rw [hL.foot.at0] at hge
  rw [zAZ, zAZ] at h7
  omega
 · rw [ho, List.take_of_length_le q]
theorem zLc {s : ByteArray} {L L' : List Ent} {ev sz kd ev' sz' kd' : Nat} (h : IsTab s L ev sz kd) (h' : IsTab s L' ev' sz' kd') : L = L' ∧ ev = ev' ∧ sz = sz' ∧ kd = kd' := by
 have hp : zBx L ev sz kd = zBx L' ev' sz' kd' := by
  obtain ⟨r, hr⟩ := h.props_at.1
  obtain ⟨r', hr'⟩ := h'.props_at.1
  rw [hr] at hr'
  exact (Prod.mk.inj (Option.some.inj hr')).1
 have hq : L.length = L'.length ∧ ev = ev' ∧ sz = sz' ∧ kd = kd' := by
  obtain ⟨r, a1, _, _, r2, r3, a2, a3, a4⟩ := zEZ L (ev := ev) (sz := sz) (kd := kd) (zBm h.ok) h.ev2 h.sz2 h.kd2
  obtain ⟨q, b1, _, _, q2, q3, b2, b3, b4⟩ := zEZ L' (ev := ev') (sz := sz') (kd := kd') (zBm h'.ok) h'.ev2 h'.sz2 h'.kd2
  rw [hp, b1] at a1
  have a0 := (Prod.mk.inj (Option.some.inj a1)).1
  have a01 := (Prod.mk.inj (Option.some.inj a1)).2
  subst a01
  rw [b2] at a2
  cases a2
  rw [b3] at a3
  cases a3
  rw [b4] at a4
  cases a4
  exact ⟨by omega, rfl, rfl, rfl⟩
 obtain ⟨hlen, rfl, rfl, rfl⟩ := hq
 refine ⟨?_, rfl, rfl, rfl⟩
 have h01 : tab1 L ev sz = tab1 L' ev sz := by
  have e1 : s.extract 0 (tAt0 s) = tab1 L ev sz := by
   rw [h.foot.at0]
   conv => lhs; rw [h.s_index]
   exact zCN _ _
  have e2 : s.extract 0 (tAt0 s) = tab1 L' ev sz := by
   rw [h'.foot.at0]
   conv => lhs; rw [h'.s_index]
   exact zCN _ _
  rw [← e1, e2]
 have key : ∀ k i, L.length - i ≤ k → zF2 L ev sz i → zF2 L' ev sz i → (tabN L ev sz i).out = (tabN L' ev sz i).out → L.take i = L'.take i → L = L' := by
  intro k
  induction k with
  | zero =>
   intro i hk hi hi' ho ht
   have h1 := hi.1
   have : i = L.length := by omega
   subst this
   rwa [List.take_of_length_le (Nat.le_refl _), List.take_of_length_le (by omega)] at ht
  | succ k ih =>
   intro i hk hi hi' ho ht
   rcases Nat.lt_or_ge i L.length with q | q
   ·
    obtain ⟨j, B, w, g1, g2, g3, g4, g5, g6⟩ := h.next hi q
    obtain ⟨j', B', w', f1, f2, f3, f4, f5, f6⟩ := h'.next hi' (by omega)
    have e : secF B ++ w = secF B' ++ w' := by
     rw [h01, f5, ← ho] at g5
     exact (zGE g5).symm
    have t1 := zCd g6 w
    rw [e, zCd f6] at t1
    have eB : B' = B := (Prod.mk.inj (Option.some.inj t1)).1
    subst eB
    rw [g4] at f4
    have hc := Option.some.inj f4
    have hj : j = j' := by
     have := congrArg List.length hc
     rw [zE5 (Nat.le_of_lt g1) g2.1, zE5 (Nat.le_of_lt f1) f2.1] at this
     omega
    subst hj
    refine ih j (by omega) g2 f2 (by rw [g3, f3, ho]) ?_
    rw [← zEf (L := L) (Nat.le_of_lt g1), ← zEf (L := L') (Nat.le_of_lt g1), ht, hc]
   ·
    have h1 := hi.1
    have : i = L.length := by omega
    subst this
    rwa [List.take_of_length_le (Nat.le_refl _), List.take_of_length_le (by omega)] at ht
 exact key L.length 0 (by omega) (zIT _ _ _) (zIT _ _ _) rfl rfl
open Classical in
noncomputable def zCz (s : ByteArray) : Option (List Ent × Shp) := if h : ∃ x : List Ent × Nat × Nat × Nat, IsTab s x.1 x.2.1 x.2.2.1 x.2.2.2 then some (h.choose.1, shpN h.choose.2.1 h.choose.2.2.1 h.choose.2.2.2) else none
theorem zFF {s : ByteArray} (h : ∀ L ev sz kd, ¬ IsTab s L ev sz kd) : zCz s = none := by
 rw [zCz, dif_neg]
 rintro ⟨x, q⟩
 exact h _ _ _ _ q
theorem zML {s : ByteArray} {L : List Ent} {ev sz kd : Nat} (h : IsTab s L ev sz kd) : zCz s = some (L, shpN ev sz kd) := by
 have hx : ∃ x : List Ent × Nat × Nat × Nat, IsTab s x.1 x.2.1 x.2.2.1 x.2.2.2 := ⟨(L, ev, sz, kd), h⟩
 rw [zCz, dif_pos hx]
 obtain ⟨h1, h2, h3, h4⟩ := zLc hx.choose_spec h
 rw [h1, h2, h3, h4]
end Go.Rl
namespace Go.Rl
def tvN (o : Option (Nat × ByteArray)) : Nat := (o.getD (0, ⟨#[]⟩)).1
def tvR (o : Option (Nat × ByteArray)) : ByteArray := (o.getD (0, ⟨#[]⟩)).2
def txX (o : Option (ByteArray × ByteArray)) : ByteArray := (o.getD (⟨#[]⟩, ⟨#[]⟩)).1
def txR (o : Option (ByteArray × ByteArray)) : ByteArray := (o.getD (⟨#[]⟩, ⟨#[]⟩)).2
theorem zIj {o : Option (Nat × ByteArray)} (h : o.isSome = true) : o = some (tvN o, tvR o) := by cases o with | none => cases h | some p => rfl
theorem zJr {o : Option (ByteArray × ByteArray)} (h : o.isSome = true) : o = some (txX o, txR o) := by cases o with | none => cases h | some p => rfl
theorem zDD {α : Type} {o : Option α} (h : o.isSome = false) : o = none := by cases o with | none => rfl | some p => cases h
theorem zDY {s : ByteArray} {k i n : Nat} {b : UInt8} (h : s[i]? = some b) (hb : b.toNat < 128) (hx : ¬ ((0 < i ∧ b.toNat = 0) ∨ (i = 9 ∧ 1 < b.toNat))) : tvG s (k + 1) i n = some ((n ||| ((b.toNat % 128) * 2 ^ (7 * i)) % 18446744073709551616) % 18446744073709551616, s.extract (i + 1) s.size) := by rw [zJs h hb hx, Nat.mod_eq_of_lt hb]
theorem zLw (s : ByteArray) : tvN (zAP s) < 18446744073709551616 := by
 cases h : zAP s with
 | none => exact (by decide : (0 : Nat) < 18446744073709551616)
 | some p => obtain ⟨n, r⟩ := p; exact (zDZ h).1
theorem zFn (s : ByteArray) : (tvR (zAP s)).size ≤ s.size := by
 cases h : zAP s with
 | none => exact Nat.zero_le _
 | some p => obtain ⟨n, r⟩ := p; exact Nat.le_of_lt (zDZ h).2
theorem zL0 {s : ByteArray} (h : (zAP s).isSome = false) : zAX s = none := zKX (zDD h)
theorem zHt {s : ByteArray} (h : (zAP s).isSome = true) (hx : 60000 < tvN (zAP s) ∨ (tvR (zAP s)).size < tvN (zAP s)) : zAX s = none := zIk (zIj h) hx
theorem zLz {s : ByteArray} (h : (zAP s).isSome = true) (hx : ¬ (60000 < tvN (zAP s) ∨ (tvR (zAP s)).size < tvN (zAP s))) : zAX s = some ((tvR (zAP s)).extract 0 (tvN (zAP s)), (tvR (zAP s)).extract (tvN (zAP s)) (tvR (zAP s)).size) := zGI (zIj h) hx
theorem zLv (s : ByteArray) : (txX (zAX s)).size ≤ 60000 := by
 cases h : zAX s with
 | none => exact Nat.zero_le _
 | some p => obtain ⟨n, r⟩ := p; exact (zDz h).1
theorem zIi (s : ByteArray) : (txR (zAX s)).size ≤ s.size := by
 cases h : zAX s with
 | none => exact Nat.zero_le _
 | some p => obtain ⟨n, r⟩ := p; have := zDz h; show r.size ≤ s.size; omega
theorem zDC (s : ByteArray) (i : Nat) : (s[i]?.getD 0).toNat % 4294967296 = zB5 s i := by
 have := zOW s i
 rw [zB5] at this ⊢
 omega
theorem zL2 {s : ByteArray} (h : s.size < 4) : zBM s = none := zNY h
def pvTk (x : ByteArray × Bool) : List (List PV) := [[.v (.string x.1), .v (.bool x.2)]]
theorem zAs (x : ByteArray × Bool) : FlatP (pvTk x) := fun es he p hp => by
 obtain rfl := List.mem_singleton.1 he
 rcases List.mem_cons.1 hp with rfl | hp
 · rfl
 ·
  obtain rfl := List.mem_singleton.1 hp
  rfl
def nV (s : ByteArray) : Int := if (zAP s).isSome = true ∧ tvN (zAP s) ≤ 4611686018427387904 then ((tvN (zAP s) : Nat) : Int) else 0
def nS (s : ByteArray) (b : Bool) : ByteArray × Bool := if (zAP s).isSome = true ∧ tvN (zAP s) ≤ 4611686018427387904 then (tvR (zAP s), b) else (s, true)
def xV (s : ByteArray) : ByteArray := txX (zAX s)
def xS (s : ByteArray) (b : Bool) : ByteArray × Bool := if (zAX s).isSome = true then (txR (zAX s), b) else (s, true)
def fV (s : ByteArray) : Nat := tvN (zBM s)
def fS (s : ByteArray) (b : Bool) : ByteArray × Bool := if (zBM s).isSome = true then (tvR (zBM s), b) else (s, true)
def sS (s : ByteArray) (b : Bool) : ByteArray × Bool := ((fS (xS s b).1 (xS s b).2).1, decide (¬ fV (xS s b).1 = crcF (xV s)) || (fS (xS s b).1 (xS s b).2).2)
theorem zHc {s : ByteArray} {b : Bool} (h : (zAP s).isSome = true) (h2 : tvN (zAP s) ≤ 4611686018427387904) : nV s = ((tvN (zAP s) : Nat) : Int) ∧ nS s b = (tvR (zAP s), b) := ⟨if_pos ⟨h, h2⟩, if_pos ⟨h, h2⟩⟩
theorem zLb {s : ByteArray} {b : Bool} (h : ¬ ((zAP s).isSome = true ∧ tvN (zAP s) ≤ 4611686018427387904)) : nV s = 0 ∧ nS s b = (s, true) := ⟨if_neg h, if_neg h⟩
theorem zKV {s : ByteArray} {b : Bool} (h : (zAX s).isSome = true) : xS s b = (txR (zAX s), b) := if_pos h
theorem zNR {s : ByteArray} {b : Bool} (h : (zAX s).isSome = false) : xV s = ⟨#[]⟩ ∧ xS s b = (s, true) := ⟨by rw [xV, zDD h]; rfl, by rw [xS, h]; rfl⟩
theorem zK3 {s : ByteArray} {b : Bool} (h : (zBM s).isSome = true) : fS s b = (tvR (zBM s), b) := if_pos h
theorem zOL {s : ByteArray} {b : Bool} (h : (zBM s).isSome = false) : fV s = 0 ∧ fS s b = (s, true) := ⟨by rw [fV, zDD h]; rfl, by rw [fS, h]; rfl⟩
theorem nS_good {s : ByteArray} {b : Bool} (h : (nS s b).2 = false) : b = false ∧ ∃ n, zAP s = some (n, (nS s b).1) ∧ n ≤ 4611686018427387904 ∧ nV s = (n : Int) := by
 by_cases q : (zAP s).isSome = true ∧ tvN (zAP s) ≤ 4611686018427387904
 ·
  rw [(zHc q.1 q.2).2] at h ⊢
  exact ⟨h, _, zIj q.1, q.2, (zHc (b := b) q.1 q.2).1⟩
 · rw [(zLb q).2] at h; cases h
theorem zJE {s r : ByteArray} {b : Bool} {n : Nat} (h : zAP s = some (n, r)) (hn : n ≤ 4611686018427387904) : nV s = (n : Int) ∧ nS s b = (r, b) := by
 have := zHc (s := s) (b := b) (by rw [h]; rfl) (by rw [h]; exact hn)
 rw [h] at this
 exact this
theorem zJq {s : ByteArray} {b : Bool} (h : (xS s b).2 = false) : b = false ∧ zAX s = some (xV s, (xS s b).1) := by
 cases q : (zAX s).isSome with
 | true => rw [zKV q] at h ⊢; exact ⟨h, zJr q⟩
 | false => rw [(zNR q).2] at h; cases h
theorem zNQ {s x r : ByteArray} {b : Bool} (h : zAX s = some (x, r)) : xV s = x ∧ xS s b = (r, b) := by
 have := zKV (s := s) (b := b) (by rw [h]; rfl)
 rw [h] at this
 exact ⟨by rw [xV, h]; rfl, this⟩
theorem fS_good {s : ByteArray} {b : Bool} (h : (fS s b).2 = false) : b = false ∧ zBM s = some (fV s, (fS s b).1) := by
 cases q : (zBM s).isSome with
 | true => rw [zK3 q] at h ⊢; exact ⟨h, zIj q⟩
 | false => rw [(zOL q).2] at h; cases h
theorem zM2 {s r : ByteArray} {b : Bool} {n : Nat} (h : zBM s = some (n, r)) : fV s = n ∧ fS s b = (r, b) := by
 have := zK3 (s := s) (b := b) (by rw [h]; rfl)
 rw [h] at this
 exact ⟨by rw [fV, h]; rfl, this⟩
theorem zMG {s : ByteArray} {b : Bool} (h : (sS s b).2 = false) : b = false ∧ zCi s = some (xV s, (sS s b).1) := by
 have h1 : (decide (¬ fV (xS s b).1 = crcF (xV s)) || (fS (xS s b).1 (xS s b).2).2) = false := h
 rw [Bool.or_eq_false_iff, decide_eq_false_iff_not, Classical.not_not] at h1
 obtain ⟨h2, h3⟩ := fS_good h1.2
 obtain ⟨h4, h5⟩ := zJq h2
 refine ⟨h4, ?_⟩
 have h3' : zBM (xS s b).1 = some (fV (xS s b).1, (sS s b).1) := h3
 rw [zCi, h5]
 simp only [h3', h1.1, if_true]
theorem sS_of {s x r : ByteArray} (h : zCi s = some (x, r)) : xV s = x ∧ sS s false = (r, false) := by
 cases q : zAX s with
 | none => rw [zCi, q] at h; cases h
 | some p =>
  obtain ⟨y, r1⟩ := p
  cases q2 : zBM r1 with
  | none => rw [zCi, q] at h; simp only [q2] at h; cases h
  | some p2 =>
   obtain ⟨c, r2⟩ := p2
   rw [zCi, q] at h
   simp only [q2] at h
   split at h
   ·
    next hc =>
    cases h
    obtain ⟨e1, e2⟩ := zNQ (b := false) q
    obtain ⟨f1, f2⟩ := zM2 (b := false) q2
    refine ⟨e1, ?_⟩
    rw [sS, e1, e2, f1, f2, hc]
    simp
   · cases h
theorem zGn (s : ByteArray) (b : Bool) : (nS s b).1.size ≤ s.size := by
 by_cases q : (zAP s).isSome = true ∧ tvN (zAP s) ≤ 4611686018427387904
 · rw [(zHc q.1 q.2).2]; exact zFn s
 · rw [(zLb q).2]; exact Nat.le_refl _
theorem zJp (s : ByteArray) (b : Bool) : (xS s b).1.size ≤ s.size := by
 cases q : (zAX s).isSome with
 | true => rw [zKV q]; exact zIi s
 | false => rw [(zNR q).2]; exact Nat.le_refl _
theorem zOM (s : ByteArray) (b : Bool) : (fS s b).1.size ≤ s.size := by
 cases q : (zBM s).isSome with
 | true => rw [zK3 q]; have := zHu (zIj q); show (tvR (zBM s)).size ≤ s.size; omega
 | false => rw [(zOL q).2]; exact Nat.le_refl _
theorem sS_le (s : ByteArray) (b : Bool) : (sS s b).1.size ≤ s.size := Nat.le_trans (zOM _ _) (zJp _ _)
theorem zLK (s : ByteArray) : (xV s).size ≤ 60000 := zLv s
theorem fV_lt (s : ByteArray) : fV s < 4294967296 := by
 rw [fV]
 cases h : zBM s with
 | none => decide
 | some p => obtain ⟨n, r⟩ := p; exact (zHu h).1
def zBA (s : ByteArray) (at_ : Nat) : Option (ByteArray × ByteArray) := if at_ ≤ s.size then zCi (s.extract at_ s.size) else none
end Go.Rl

/- Promises of functions, proved by walks over their operations; no conditions beyond those that each theorem states. -/
import Derived.Test.YtamebecmgdbmnaaDoorRuN
import Derived.Test.YtamebecmgdbmnaaDoorRuJ
set_option linter.unusedSimpArgs false
set_option linter.unusedVariables false
namespace Go.Rl
def zC4 (s : ByteArray) : ByteArray := s.extract (s.size - 8) s.size
def kLo (s : ByteArray) : Nat := fx4 (zC4 s)
def kHi (s : ByteArray) : Nat := fx4 ((zC4 s).extract 4 (zC4 s).size)
def kNum (s : ByteArray) : Nat := kHi s * 2 ^ 32 + kLo s
def keyE (s : ByteArray) : Ent := ⟨s.extract 0 (s.size - 8), ((kNum s / 2 : Nat) : Int), ((kNum s % 2 : Nat) : Int), ⟨#[]⟩⟩
def entZ : Ent := ⟨⟨#[]⟩, 0, 0, ⟨#[]⟩⟩
def zBC (s : ByteArray) : Option Ent := if 9 ≤ s.size ∧ zBp (keyE s).user (keyE s).seq (keyE s).kind = true then some (keyE s) else none
theorem zGc {s : ByteArray} (h : s.size < 9) : zBC s = none := by rw [zBC, if_neg]; omega
theorem zGd {s : ByteArray} (h : zBp (keyE s).user (keyE s).seq (keyE s).kind = false) : zBC s = none := by rw [zBC, if_neg]; rintro ⟨_, q⟩; rw [h] at q; cases q
theorem zGb {s : ByteArray} (h0 : 9 ≤ s.size) (h : zBp (keyE s).user (keyE s).seq (keyE s).kind = true) : zBC s = some (keyE s) := by rw [zBC, if_pos ⟨h0, h⟩]
theorem zK9 (s : ByteArray) : kHi s < 4294967296 := zFJ _
theorem zHh (s : ByteArray) : kLo s < 4294967296 := zFJ _
theorem zLm {s : ByteArray} (h : 1073741824 ≤ kHi s) : zBC s = none := by
 refine zGd ?_
 cases q : zBp (keyE s).user (keyE s).seq (keyE s).kind with
 | false => rfl
 | true =>
  have := zEg q
  have e : (keyE s).seq = ((kNum s / 2 : Nat) : Int) := rfl
  have : kNum s = kHi s * 2 ^ 32 + kLo s := rfl
  omega
theorem keyN_lt {e : Ent} (h : zBp e.user e.seq e.kind = true) : keyN e < 4294967296 * 4294967296 ∧ ((keyN e : Nat) : Int) = 2 * e.seq + e.kind ∧ 0 ≤ e.kind ∧ e.kind ≤ 1 := by
 have := zEg h
 rw [keyN]; omega
theorem zM3 (e : Ent) : zC4 (keyT e) = fixV (keyN e % 4294967296) ++ fixV ((keyN e / 2 ^ 32) % 4294967296) ∧ (keyT e).size = e.user.size + 8 := by
 have hs : (keyT e).size = e.user.size + 8 := by simp only [keyT, zAY, zAU]
 refine ⟨?_, hs⟩
 rw [zC4, hs, Nat.add_sub_cancel]
 have h2 : keyT e = e.user ++ (fixV (keyN e % 4294967296) ++ fixV ((keyN e / 2 ^ 32) % 4294967296)) := by rw [keyT, ByteArray.append_assoc]
 have := zBu e.user (fixV (keyN e % 4294967296) ++ fixV ((keyN e / 2 ^ 32) % 4294967296))
 rw [← h2, hs] at this
 exact this
theorem zFD {e : Ent} (h : zBp e.user e.seq e.kind = true) : zBC (keyT e) = some ⟨e.user, e.seq, e.kind, ⟨#[]⟩⟩ := by
 obtain ⟨ht, hs⟩ := zM3 e
 obtain ⟨hn, hk, hk0, hk1⟩ := keyN_lt h
 have hu : (keyT e).extract 0 ((keyT e).size - 8) = e.user := by
  have h2 : keyT e = e.user ++ (fixV (keyN e % 4294967296) ++ fixV ((keyN e / 2 ^ 32) % 4294967296)) := by rw [keyT, ByteArray.append_assoc]
  rw [hs, Nat.add_sub_cancel, h2]
  exact zCL _ _
 have hlo : kLo (keyT e) = keyN e % 4294967296 := by rw [kLo, ht, zEF]; omega
 have hhi : kHi (keyT e) = keyN e / 4294967296 := by
  rw [kHi, ht]
  have h4 := zBu (fixV (keyN e % 4294967296)) (fixV ((keyN e / 2 ^ 32) % 4294967296))
  rw [zAU] at h4
  rw [h4]
  have := zEF ((keyN e / 2 ^ 32) % 4294967296) ⟨#[]⟩
  have e0 : fixV ((keyN e / 2 ^ 32) % 4294967296) ++ (⟨#[]⟩ : ByteArray) = fixV ((keyN e / 2 ^ 32) % 4294967296) := ByteArray.ext (by simp [ByteArray.data_append])
  rw [e0] at this
  rw [this]
  omega
 have hnum : kNum (keyT e) = keyN e := by rw [kNum, hlo, hhi]; omega
 have hE : keyE (keyT e) = ⟨e.user, e.seq, e.kind, ⟨#[]⟩⟩ := by
  rw [keyE, hnum, hu]
  congr 1 <;> omega
 have hsz := (zJG h).2
 rw [zGb hsz (by rw [hE]; exact h), hE]
def shB (ev i : Nat) (ahead : ByteArray) (e : Ent) : Nat := if i % ev = 0 then 0 else zBN ahead (keyT e)
def entB (ev i : Nat) (ahead : ByteArray) (e : Ent) : ByteArray := putV (shB ev i ahead e) ++ putX ((keyT e).extract (shB ev i ahead e) (keyT e).size) ++ putX e.value
theorem zOo (ev i : Nat) (b : Blk) (e : Ent) : (blkS ev i b e).out = b.out ++ entB ev i b.ahead e := by
 rw [blkS, entB, shB]
 split
 · rw [zPQ, ByteArray.append_assoc, ByteArray.append_assoc, ByteArray.append_assoc]
 · rw [ByteArray.append_assoc, ByteArray.append_assoc, ByteArray.append_assoc]
theorem zFf (ev i : Nat) (b : Blk) (e : Ent) : (blkS ev i b e).ahead = keyT e := by rw [blkS]; split <;> rfl
theorem zNg (ev i : Nat) (b : Blk) (e : Ent) (h : b.anew.size = 4 * b.many) : (blkS ev i b e).anew.size = 4 * (blkS ev i b e).many := by
 rw [blkS]
 split
 ·
  show (b.anew ++ fixV _).size = 4 * (b.many + 1)
  rw [zAY, zAU, h]; omega
 · exact h
theorem zG5 (L : List Ent) (ev : Nat) : ∀ i, (blkN L ev i).anew.size = 4 * (blkN L ev i).many
 | 0 => rfl
 | i + 1 => by
  rw [blkN]
  split
  · exact zNg _ _ _ _ (zG5 L ev i)
  · exact zG5 L ev i
def zEK (L : List Ent) (ev : Nat) : Nat → Nat → ByteArray
 | _, 0 => ⟨#[]⟩
 | i, k + 1 => match L[i]? with
  | some e => entB ev i (blkN L ev i).ahead e ++ zEK L ev (i + 1) k
  | none => ⟨#[]⟩
theorem zDA {L : List Ent} {ev i k : Nat} {e : Ent} (h : L[i]? = some e) : zEK L ev i (k + 1) = entB ev i (blkN L ev i).ahead e ++ zEK L ev (i + 1) k := by rw [zEK, h]
theorem zKq (L : List Ent) (ev : Nat) : ∀ k i, i + k = L.length → (blkN L ev i).out ++ zEK L ev i k = (blkN L ev L.length).out
 | 0, i, h => by
  have : i = L.length := by omega
  subst this
  exact ByteArray.ext (by simp [zEK, ByteArray.data_append])
 | k + 1, i, h => by
  obtain ⟨e, he⟩ : ∃ e, L[i]? = some e := ⟨_, List.getElem?_eq_getElem (by omega)⟩
  rw [zDA he, ← zKq L ev k (i + 1) (by omega), zCF he, zOo, ByteArray.append_assoc]
theorem zFj : ∀ l m : List UInt8, l.take (zCT l m) = m.take (zCT l m)
 | [], m => by cases m <;> simp [zCT]
 | _ :: _, [] => by simp [zCT]
 | x :: l, y :: m => by
  rw [zCT]
  split
  · next h => subst h; rw [List.take_succ_cons, List.take_succ_cons, zFj l m]
  · simp
theorem zFM (a : ByteArray) (n : Nat) : (a.extract 0 n).data.toList = a.data.toList.take n := by
 rw [ByteArray.data_extract]
 simp
theorem zLg (a b : ByteArray) : a.extract 0 (zBN a b) = b.extract 0 (zBN a b) := by
 refine ByteArray.ext (Array.toList_inj.1 ?_)
 rw [zFM, zFM]
 exact zFj _ _
theorem zOg (b : ByteArray) {n : Nat} (h : n ≤ b.size) : b.extract 0 n ++ b.extract n b.size = b := by
 rw [ByteArray.extract_append_extract]
 simp
theorem zMT (ev i : Nat) (ahead : ByteArray) (e : Ent) : shB ev i ahead e ≤ ahead.size ∧ shB ev i ahead e ≤ (keyT e).size := by
 rw [shB]
 split
 · exact ⟨Nat.zero_le _, Nat.zero_le _⟩
 · exact zDp _ _
theorem zGP (ev i : Nat) (ahead : ByteArray) (e : Ent) : ahead.extract 0 (shB ev i ahead e) ++ (keyT e).extract (shB ev i ahead e) (keyT e).size = keyT e := by
 have h1 : ahead.extract 0 (shB ev i ahead e) = (keyT e).extract 0 (shB ev i ahead e) := by
  rw [shB]
  split
  · simp
  · exact zLg _ _
 rw [h1, zOg _ (zMT _ _ _ _).2]
theorem zF8 {ev i : Nat} {ahead : ByteArray} {e : Ent} (he : zBt e = true) (w : ByteArray) : ∃ a b, zAQ (entB ev i ahead e ++ w) = some (shB ev i ahead e, a) ∧ zAX a = some ((keyT e).extract (shB ev i ahead e) (keyT e).size, b) ∧ zAX b = some (e.value, w) := by
 have hn := zDh he
 have hx := zC6 (keyT e) (shB ev i ahead e)
 have hl := (zMT ev i ahead e).2
 refine ⟨putX ((keyT e).extract (shB ev i ahead e) (keyT e).size) ++ (putX e.value ++ w), putX e.value ++ w, ?_, zGI (by omega) _, zGI (by omega) _⟩
 rw [entB, ByteArray.append_assoc, ByteArray.append_assoc]
 exact zDn (by omega) _
structure IsBlk (s : ByteArray) (L : List Ent) (ev : Nat) : Prop where
 ok : zBJ L = true
 pos : 0 < L.length
 ev1 : 1 ≤ ev
 ev2 : ev ≤ 16
 small : s.size ≤ 60000
 eq : s = blkF L ev
theorem isBlk {s : ByteArray} {L : List Ent} {ev : Nat} (h : zBs L ev = some s) : IsBlk s L ev := by
 rw [zBs] at h
 split at h
 ·
  next q =>
  split at h
  · next q2 => cases h; exact ⟨q.1.1, q.1.2, q.2.1, q.2.2, q2, rfl⟩
  · cases h
 · cases h
theorem IsBlk.back {s : ByteArray} {L : List Ent} {ev : Nat} (h : IsBlk s L ev) : zBs L ev = some s := by
 have := h.eq
 rw [zEk h.ok h.pos ⟨h.ev1, h.ev2⟩ (by rw [← this]; exact h.small), this]
def zCl (s : ByteArray) : ByteArray := s.extract (s.size - 8) s.size
def zEI (s : ByteArray) : Nat := fx4 (zCl s)
def zBV (s : ByteArray) : Nat := fx4 ((zCl s).extract 4 (zCl s).size)
theorem IsBlk.start {s : ByteArray} {L : List Ent} {ev : Nat} (h : IsBlk s L ev) : 8 ≤ s.size ∧ zBV s = ev ∧ zEI s * 4 + 8 ≤ s.size ∧ s.extract 0 (s.size - 8 - 4 * zEI s) = zEK L ev 0 L.length := by
 have hl : ∀ e ∈ L, zBt e = true := fun e he => zCZ h.ok he
 have hb := zG4 hl (ev := ev) L.length (Nat.le_refl _)
 have hm := zBj h.ok
 have hmany := hb.many
 obtain ⟨B, hB⟩ : ∃ B, B = blkN L ev L.length := ⟨_, rfl⟩
 have ha := zG5 L ev L.length
 rw [← hB] at ha hmany
 have e1 : s = B.out ++ (B.anew ++ (fixV B.many ++ fixV (ev % 4294967296))) := by rw [h.eq, blkF, ← hB, ByteArray.append_assoc, ByteArray.append_assoc]
 have hs : s.size = B.out.size + 4 * B.many + 8 := by rw [e1]; simp only [zAY, zAU, ha]; omega
 have e2 : s = (B.out ++ B.anew) ++ (fixV B.many ++ fixV (ev % 4294967296)) := by rw [e1, ByteArray.append_assoc]
 have ht : zCl s = fixV B.many ++ fixV (ev % 4294967296) := by
  rw [zCl, show s.size - 8 = (B.out ++ B.anew).size by rw [zAY, ha]; omega, e2]
  exact zBu _ _
 have hmn : zEI s = B.many := by rw [zEI, ht, zEF]; omega
 have hev : zBV s = ev := by
  rw [zBV, ht]
  have h4 := zBu (fixV B.many) (fixV (ev % 4294967296))
  rw [zAU] at h4
  rw [h4]
  have h5 := zEF (ev % 4294967296) ⟨#[]⟩
  have e0 : fixV (ev % 4294967296) ++ (⟨#[]⟩ : ByteArray) = fixV (ev % 4294967296) := ByteArray.ext (by simp [ByteArray.data_append])
  rw [e0] at h5
  have := h.ev2
  rw [h5]; omega
 refine ⟨by omega, hev, by omega, ?_⟩
 have h0 := zKq L ev L.length 0 (by omega)
 have h00 : (blkN L ev 0).out = ⟨#[]⟩ := rfl
 rw [h00, zGA] at h0
 rw [h0, ← hB, hmn, show s.size - 8 - 4 * B.many = B.out.size by omega, e1]
 exact zCL _ _
def BI (s left last : ByteArray) (out : List Ent) : Prop := ∀ L ev, IsBlk s L ev → ∃ i, i ≤ L.length ∧ left = zEK L ev i (L.length - i) ∧ last = (blkN L ev i).ahead ∧ out = L.take i
theorem BI.start (s : ByteArray) : BI s (s.extract 0 (s.size - 8 - 4 * zEI s)) ⟨#[]⟩ [] := fun L ev h => ⟨0, Nat.zero_le _, h.start.2.2.2, rfl, rfl⟩
theorem zOq {a b : ByteArray} (h : 0 < a.size) : ¬ a ++ b = ⟨#[]⟩ := fun q => by
 have := congrArg ByteArray.size q
 rw [zAY] at this
 have e : (⟨#[]⟩ : ByteArray).size = 0 := rfl
 omega
theorem zOG (n : Nat) : 0 < (putV n).size := by
 rw [putV, zDO, putL]
 split <;> simp
theorem zF9 (ev i : Nat) (a : ByteArray) (e : Ent) : 0 < (entB ev i a e).size := by
 have := zOG (shB ev i a e)
 simp only [entB, zAY]
 omega
structure Rd1 (left last : ByteArray) (out : List Ent) (sh : Nat) (more value c : ByteArray) (k : Ent) : Prop where
 a : ∃ a b, zAQ left = some (sh, a) ∧ zAX a = some (more, b) ∧ zAX b = some (value, c)
 le : sh ≤ last.size
 key : zBC (last.extract 0 sh ++ more) = some k
theorem BI.next {s left last : ByteArray} {out : List Ent} (h : BI s left last out) (hne : ¬ left = ⟨#[]⟩) {L : List Ent} {ev : Nat} (hL : IsBlk s L ev) : out.length < 400 ∧ ∃ sh more value c k, Rd1 left last out sh more value c k := by
 obtain ⟨i, hi, hl, ha, ho⟩ := h L ev hL
 have hlt : i < L.length := by
  rcases Nat.lt_or_ge i L.length with q | q
  · exact q
  · exact absurd (by rw [hl, show L.length - i = 0 by omega]; rfl) hne
 obtain ⟨e, he⟩ : ∃ e, L[i]? = some e := ⟨_, List.getElem?_eq_getElem hlt⟩
 have hok := zCZ hL.ok (List.mem_of_getElem? he)
 rw [show L.length - i = (L.length - (i + 1)) + 1 by omega, zDA he] at hl
 obtain ⟨a, b, h1, h2, h3⟩ := zF8 (ev := ev) (i := i) (ahead := (blkN L ev i).ahead) hok (zEK L ev (i + 1) (L.length - (i + 1)))
 rw [← hl] at h1
 refine ⟨?_, shB ev i (blkN L ev i).ahead e, _, _, _, ⟨e.user, e.seq, e.kind, ⟨#[]⟩⟩, ⟨⟨a, b, h1, h2, h3⟩, ?_, ?_⟩⟩
 ·
  have := zBj hL.ok
  rw [ho, List.length_take]; omega
 · rw [ha]; exact (zMT _ _ _ _).1
 ·
  rw [ha, zGP]
  exact zFD (zCE hok)
theorem BI.step {s left last : ByteArray} {out : List Ent} (h : BI s left last out) (hne : ¬ left = ⟨#[]⟩) {sh : Nat} {a b more value c : ByteArray} {k : Ent} (h1 : zAQ left = some (sh, a)) (h2 : zAX a = some (more, b)) (h3 : zAX b = some (value, c)) (hk : zBC (last.extract 0 sh ++ more) = some k) :
  BI s c (last.extract 0 sh ++ more) (out ++ [⟨k.user, k.seq, k.kind, value⟩]) := fun L ev hL => by
 obtain ⟨i, hi, hl, ha, ho⟩ := h L ev hL
 have hlt : i < L.length := by
  rcases Nat.lt_or_ge i L.length with q | q
  · exact q
  · exact absurd (by rw [hl, show L.length - i = 0 by omega]; rfl) hne
 obtain ⟨e, he⟩ : ∃ e, L[i]? = some e := ⟨_, List.getElem?_eq_getElem hlt⟩
 have hok := zCZ hL.ok (List.mem_of_getElem? he)
 rw [show L.length - i = (L.length - (i + 1)) + 1 by omega, zDA he] at hl
 obtain ⟨a', b', g1, g2, g3⟩ := zF8 (ev := ev) (i := i) (ahead := (blkN L ev i).ahead) hok (zEK L ev (i + 1) (L.length - (i + 1)))
 rw [← hl, h1] at g1
 cases g1
 rw [h2] at g2
 cases g2
 rw [h3] at g3
 cases g3
 rw [ha, zGP, zFD (zCE hok)] at hk
 cases hk
 refine ⟨i + 1, hlt, by rw [show L.length - (i + 1) = L.length - (i + 1) from rfl], ?_, ?_⟩
 · rw [ha, zGP, zCF he, zFf]
 · rw [ho, List.take_add_one, he]; rfl
theorem BI.last {s last : ByteArray} {out : List Ent} (h : BI s ⟨#[]⟩ last out) {L : List Ent} {ev : Nat} (hL : IsBlk s L ev) : out = L := by
 obtain ⟨i, hi, hl, ha, ho⟩ := h L ev hL
 rcases Nat.lt_or_ge i L.length with q | q
 ·
  obtain ⟨e, he⟩ : ∃ e, L[i]? = some e := ⟨_, List.getElem?_eq_getElem q⟩
  rw [show L.length - i = (L.length - (i + 1)) + 1 by omega, zDA he] at hl
  exact absurd hl.symm (zOq (zF9 _ _ _ _))
 · rw [ho, List.take_of_length_le q]
theorem zLv {s : ByteArray} {L L' : List Ent} {ev ev' : Nat} (h : IsBlk s L ev) (h' : IsBlk s L' ev') : L = L' ∧ ev = ev' := by
 have hev : ev = ev' := h.start.2.1.symm.trans h'.start.2.1
 subst hev
 refine ⟨?_, rfl⟩
 have key : ∀ k i, k + i = L.length → L.take i = L'.take i → i ≤ L'.length → zEK L ev i (L.length - i) = zEK L' ev i (L'.length - i) → (blkN L ev i).ahead = (blkN L' ev i).ahead → L = L' := by
  intro k
  induction k with
  | zero =>
   intro i hk ht hi' hr ha
   have : i = L.length := by omega
   subst this
   rcases Nat.lt_or_ge L.length L'.length with q | q
   ·
    obtain ⟨e, he⟩ : ∃ e, L'[L.length]? = some e := ⟨_, List.getElem?_eq_getElem q⟩
    rw [show L'.length - L.length = (L'.length - (L.length + 1)) + 1 by omega, zDA he, Nat.sub_self] at hr
    exact absurd hr.symm (zOq (zF9 _ _ _ _))
   ·
    rw [List.take_of_length_le (Nat.le_refl _), List.take_of_length_le (by omega)] at ht
    exact ht
  | succ k ih =>
   intro i hk ht hi' hr ha
   have hlt : i < L.length := by omega
   obtain ⟨e, he⟩ : ∃ e, L[i]? = some e := ⟨_, List.getElem?_eq_getElem hlt⟩
   have hok := zCZ h.ok (List.mem_of_getElem? he)
   rw [show L.length - i = (L.length - (i + 1)) + 1 by omega, zDA he] at hr
   have hlt' : i < L'.length := by
    rcases Nat.lt_or_ge i L'.length with q | q
    · exact q
    ·
     rw [show L'.length - i = 0 by omega] at hr
     exact absurd hr (zOq (zF9 _ _ _ _))
   obtain ⟨e', he'⟩ : ∃ e, L'[i]? = some e := ⟨_, List.getElem?_eq_getElem hlt'⟩
   have hok' := zCZ h'.ok (List.mem_of_getElem? he')
   rw [show L'.length - i = (L'.length - (i + 1)) + 1 by omega, zDA he'] at hr
   obtain ⟨a, b, g1, g2, g3⟩ := zF8 (ev := ev) (i := i) (ahead := (blkN L ev i).ahead) hok (zEK L ev (i + 1) (L.length - (i + 1)))
   obtain ⟨a', b', f1, f2, f3⟩ := zF8 (ev := ev) (i := i) (ahead := (blkN L' ev i).ahead) hok' (zEK L' ev (i + 1) (L'.length - (i + 1)))
   rw [hr, f1] at g1
   have g1' := Option.some.inj g1
   have gs : shB ev i (blkN L' ev i).ahead e' = shB ev i (blkN L ev i).ahead e := (Prod.mk.inj g1').1
   have ga : a' = a := (Prod.mk.inj g1').2
   subst ga
   rw [f2] at g2
   have gx := (Prod.mk.inj (Option.some.inj g2)).1
   have gb := (Prod.mk.inj (Option.some.inj g2)).2
   subst gb
   rw [f3] at g3
   have gv := (Prod.mk.inj (Option.some.inj g3)).1
   have gw := (Prod.mk.inj (Option.some.inj g3)).2
   have hkey : keyT e' = keyT e := by
    rw [← zGP ev i (blkN L' ev i).ahead e', ← zGP ev i (blkN L ev i).ahead e, gx, gs, ha]
   have hk2 := zFD (zCE hok)
   rw [← hkey, zFD (zCE hok')] at hk2
   have hk3 := Option.some.inj hk2
   have hee : e' = e := by
    cases e; cases e'
    simp only [Ent.mk.injEq] at hk3 gv ⊢
    exact ⟨hk3.1, hk3.2.1, hk3.2.2.1, gv⟩
   subst hee
   refine ih (i + 1) (by omega) ?_ hlt' gw.symm ?_
   · rw [List.take_add_one, List.take_add_one, ht, he, he']
   · rw [zCF he, zCF he', zFf, zFf]
 have h0 : zEK L ev 0 L.length = zEK L' ev 0 L'.length := by rw [← h.start.2.2.2, ← h'.start.2.2.2]
 exact key L.length 0 (by omega) rfl (Nat.zero_le _) (by rw [Nat.sub_zero, Nat.sub_zero]; exact h0) rfl
open Classical in
noncomputable def zBI (s : ByteArray) : Option (List Ent) := if h : ∃ L ev, IsBlk s L ev then some h.choose else none
theorem zEC {s : ByteArray} (h : ∀ L ev, ¬ IsBlk s L ev) : zBI s = none := by
 rw [zBI, dif_neg]
 rintro ⟨L, ev, q⟩
 exact h L ev q
theorem zI1 {s : ByteArray} {L : List Ent} {ev : Nat} (h : IsBlk s L ev) : zBI s = some L := by
 have hx : ∃ L ev, IsBlk s L ev := ⟨L, ev, h⟩
 rw [zBI, dif_pos hx]
 obtain ⟨ev', h'⟩ := hx.choose_spec
 rw [(zLv h' h).1]
theorem zHY {s : ByteArray} {L : List Ent} (h : zBI s = some L) : ∃ ev, IsBlk s L ev := by
 rw [zBI] at h
 split at h
 · next q => cases h; exact q.choose_spec
 · cases h
theorem BI.good {s last : ByteArray} {out : List Ent} (_ : BI s ⟨#[]⟩ last out) (hb : zBs out (zBV s) = some s) : zBI s = some out := zI1 (isBlk hb)
theorem BI.bad {s last : ByteArray} {out : List Ent} (h : BI s ⟨#[]⟩ last out) (hb : ¬ zBs out (zBV s) = some s) : zBI s = none := zEC fun L ev hL => hb (by
 rw [h.last hL, hL.start.2.1]
 exact hL.back)
end Go.Rl
namespace Go.Rl
structure IsTab (s : ByteArray) (L : List Ent) (ev sz kd : Nat) : Prop where
 ok : zBJ L = true
 pos : 0 < L.length
 ev1 : 1 ≤ ev
 ev2 : ev ≤ 16
 sz1 : 20 ≤ sz
 sz2 : sz ≤ 4000
 kd2 : kd ≤ 2
 small : s.size ≤ 60000
 eq : s = zDN L ev sz kd
def shpN (ev sz kd : Nat) : Shp := ⟨(ev : Int), (sz : Int), (kd : Int)⟩
theorem isTab {s : ByteArray} {L : List Ent} {p : Shp} (h : zBb L p = some s) : IsTab s L p.every.toNat p.size.toNat p.kind.toNat ∧ p = shpN p.every.toNat p.size.toNat p.kind.toNat := by
 rw [zBb] at h
 split at h
 ·
  next q =>
  split at h
  ·
   next q2 =>
   cases h
   have hn := zHz q.2
   refine ⟨⟨q.1.1, q.1.2, by omega, by omega, by omega, by omega, by omega, q2, rfl⟩, ?_⟩
   cases p
   simp only [shpN, Shp.mk.injEq]
   simp only [] at hn
   omega
  · cases h
 · cases h
theorem IsTab.back {s : ByteArray} {L : List Ent} {ev sz kd : Nat} (h : IsTab s L ev sz kd) : zBb L (shpN ev sz kd) = some s := by
 have e := h.eq
 have hs : zBi (shpN ev sz kd) = true := by
  have h1 := h.ev1
  have h2 := h.ev2
  have h3 := h.sz1
  have h4 := h.sz2
  have h5 := h.kd2
  have hw : ∀ n lo hi : Int, lo ≤ n → n ≤ hi → zAl n lo hi = true := fun n lo hi q1 q2 => by rw [zAl, decide_eq_true q1, decide_eq_true q2]; rfl
  show (zAl (ev : Int) 1 16 && (zAl (sz : Int) 20 4000 && zAl (kd : Int) 0 2)) = true
  rw [hw _ _ _ (by omega) (by omega), hw _ _ _ (by omega) (by omega), hw _ _ _ (by omega) (by omega)]
  rfl
 have ht : zHK L (shpN ev sz kd) = s := e.symm
 rw [zFT h.ok h.pos hs (by rw [ht]; exact h.small), ht]
theorem IsTab.mk' {s : ByteArray} {L : List Ent} {ev sz kd : Nat} (h : zBb L (shpN ev sz kd) = some s) : IsTab s L ev sz kd := (isTab h).1
def zCQ (s : ByteArray) : ByteArray := s.extract (s.size - 16) s.size
def cut4 (s : ByteArray) : ByteArray := s.extract 4 s.size
def tAt0 (s : ByteArray) : Nat := fx4 (zCQ s)
def tAt1 (s : ByteArray) : Nat := fx4 (cut4 (zCQ s))
def tAt2 (s : ByteArray) : Nat := fx4 (cut4 (cut4 (zCQ s)))
def tAt3 (s : ByteArray) : Nat := fx4 (cut4 (cut4 (cut4 (zCQ s))))
theorem zIX (x : Nat) (r : ByteArray) : cut4 (fixV x ++ r) = r := by
 have := zBu (fixV x) r
 rwa [zAU] at this
theorem zOU (x : Nat) : fx4 (fixV x) = x % 4294967296 := by
 have h5 := zEF x ⟨#[]⟩
 have e0 : fixV x ++ (⟨#[]⟩ : ByteArray) = fixV x := ByteArray.ext (by simp [ByteArray.data_append])
 rwa [e0] at h5
structure Foot (s : ByteArray) (L : List Ent) (ev sz kd : Nat) : Prop where
 big : 16 ≤ s.size
 at0 : tAt0 s = (tab1 L ev sz).size
 at1 : tAt1 s = (tab2 L ev sz).size
 at2 : tAt2 s = (tab3 L ev sz kd).size
 at3 : tAt3 s = 1279478321
 size : s.size = (tab4 L ev sz kd).size + 16
 le01 : (tab1 L ev sz).size ≤ (tab2 L ev sz).size
 le12 : (tab2 L ev sz).size ≤ (tab3 L ev sz kd).size
 le23 : (tab3 L ev sz kd).size ≤ (tab4 L ev sz kd).size
 all : s.extract 0 (s.size - 16) = tab4 L ev sz kd
theorem IsTab.foot {s : ByteArray} {L : List Ent} {ev sz kd : Nat} (h : IsTab s L ev sz kd) : Foot s L ev sz kd := by
 have e1 : s = tab4 L ev sz kd ++ (fixS (tab1 L ev sz) ++ (fixS (tab2 L ev sz) ++ (fixS (tab3 L ev sz kd) ++ fixV 1279478321))) := by
  rw [h.eq, zDN, zOX, ByteArray.append_assoc, ByteArray.append_assoc, ByteArray.append_assoc]
 have hs : s.size = (tab4 L ev sz kd).size + 16 := by
  have := congrArg ByteArray.size e1
  simp only [fixS, zAY, zAU] at this
  omega
 have l1 : (tab2 L ev sz).size = (tab1 L ev sz).size + (secF (tabN L ev sz L.length).index).size := by rw [tab2, zAY]
 have l2 : (tab3 L ev sz kd).size = (tab2 L ev sz).size + (secF (zB8 (zA6 (zAz L) (kd : Int)))).size := by rw [tab3, zAY]
 have l3 : (tab4 L ev sz kd).size = (tab3 L ev sz kd).size + (secF (zCA L ev sz kd)).size := by rw [tab4, zAY]
 have hsm := h.small
 have ht : zCQ s = fixS (tab1 L ev sz) ++ (fixS (tab2 L ev sz) ++ (fixS (tab3 L ev sz kd) ++ fixV 1279478321)) := by
  rw [zCQ, show s.size - 16 = (tab4 L ev sz kd).size by omega, e1]
  exact zBu _ _
 have c1 : cut4 (zCQ s) = fixS (tab2 L ev sz) ++ (fixS (tab3 L ev sz kd) ++ fixV 1279478321) := by rw [ht, fixS, zIX]
 have c2 : cut4 (cut4 (zCQ s)) = fixS (tab3 L ev sz kd) ++ fixV 1279478321 := by rw [c1, fixS, zIX]
 have c3 : cut4 (cut4 (cut4 (zCQ s))) = fixV 1279478321 := by rw [c2, fixS, zIX]
 refine ⟨by omega, ?_, ?_, ?_, ?_, hs, by omega, by omega, by omega, ?_⟩
 · rw [tAt0, ht, fixS, zEF]; omega
 · rw [tAt1, c1, fixS, zEF]; omega
 · rw [tAt2, c2, fixS, zEF]; omega
 · rw [tAt3, c3, zOU]
 ·
  rw [show s.size - 16 = (tab4 L ev sz kd).size by omega, e1]
  exact zCL _ _
theorem zNJ {s a b : ByteArray} (h : s = a ++ b) : s.extract a.size s.size = b := by rw [h]; exact zBu _ _
theorem from_to {s a b c : ByteArray} (h : s = a ++ (b ++ c)) : s.extract a.size (a.size + b.size) = b := by
 subst h
 rw [ByteArray.extract_append]
 have e1 : a.extract a.size (a.size + b.size) = ⟨#[]⟩ := by
  rw [ByteArray.extract_eq_empty_iff.2 (by omega)]; rfl
 rw [e1, zGA, Nat.sub_self, Nat.add_sub_cancel_left]
 exact zCL _ _
def endT (L : List Ent) (ev sz kd : Nat) : ByteArray := zOX L ev sz kd ++ fixV 1279478321
theorem IsTab.s_index {s : ByteArray} {L : List Ent} {ev sz kd : Nat} (h : IsTab s L ev sz kd) : s = tab1 L ev sz ++ (secF (tabN L ev sz L.length).index ++ (secF (zB8 (zA6 (zAz L) (kd : Int))) ++ (secF (zCA L ev sz kd) ++ endT L ev sz kd))) := by
 rw [h.eq, zDN, endT, tab4, tab3, tab2]
 simp only [ByteArray.append_assoc]
theorem IsTab.s_props {s : ByteArray} {L : List Ent} {ev sz kd : Nat} (h : IsTab s L ev sz kd) : s = tab3 L ev sz kd ++ (secF (zCA L ev sz kd) ++ endT L ev sz kd) := by
 rw [h.eq, zDN, endT, tab4]
 simp only [ByteArray.append_assoc]
theorem IsTab.secs {s : ByteArray} {L : List Ent} {ev sz kd : Nat} (h : IsTab s L ev sz kd) : (tabN L ev sz L.length).index.size ≤ 60000 ∧ (zB8 (zA6 (zAz L) (kd : Int))).size ≤ 60000 ∧ (zCA L ev sz kd).size ≤ 60000 := by
 have h1 := h.small
 have h2 := congrArg ByteArray.size h.s_index
 simp only [secF, putX, zAY] at h2
 omega
theorem IsTab.props_at {s : ByteArray} {L : List Ent} {ev sz kd : Nat} (h : IsTab s L ev sz kd) : (∃ r, zCu (s.extract (tAt2 s) s.size) = some (zCA L ev sz kd, r)) ∧ ∃ r, zCu (s.extract (tAt2 s) (s.size - 16)) = some (zCA L ev sz kd, r) := by
 have hf := h.foot
 constructor
 ·
  rw [hf.at2, zNJ h.s_props]
  exact ⟨_, zC8 h.secs.2.2 _⟩
 ·
  have hsz : s.size - 16 = (tab3 L ev sz kd).size + (secF (zCA L ev sz kd)).size := by
   rw [hf.size, tab4]
   simp only [zAY]
   omega
  rw [hf.at2, hsz, from_to h.s_props]
  have e0 : secF (zCA L ev sz kd) ++ (⟨#[]⟩ : ByteArray) = secF (zCA L ev sz kd) := ByteArray.ext (by simp [ByteArray.data_append])
  rw [← e0]
  exact ⟨_, zC8 h.secs.2.2 _⟩
theorem zEc (L : List Ent) {ev sz kd : Nat} (hn : L.length ≤ 400) (hev : ev ≤ 16) (hs : sz ≤ 4000) (hkd : kd ≤ 2) : ∃ r, zAQ (zCA L ev sz kd) = some (L.length, r) ∧ 64 ≤ r.size ∧ r.extract 0 64 = hllF (zAz L) ∧ ∃ r2 r3, zAQ (r.extract 64 r.size) = some (ev, r2) ∧ zAQ r2 = some (sz, r3) ∧ zAQ r3 = some (kd, ⟨#[]⟩) := by
 have h5 : (hllF (zAz L)).size = 64 := zDl (zEE _ _)
 have e1 : zCA L ev sz kd = putV L.length ++ (hllF (zAz L) ++ (putV ev ++ (putV sz ++ putV kd))) := by rw [zCA]; simp only [ByteArray.append_assoc]
 have e0 : putV kd ++ (⟨#[]⟩ : ByteArray) = putV kd := ByteArray.ext (by simp [ByteArray.data_append])
 have hk := zDn (n := kd) (by omega) ⟨#[]⟩
 rw [e0] at hk
 refine ⟨hllF (zAz L) ++ (putV ev ++ (putV sz ++ putV kd)), by rw [e1]; exact zDn (by omega) _, by rw [zAY]; omega, ?_, putV sz ++ putV kd, putV kd, ?_, zDn (by omega) _, hk⟩
 ·
  have := zCL (hllF (zAz L)) (putV ev ++ (putV sz ++ putV kd))
  rwa [h5] at this
 ·
  have := zBu (hllF (zAz L)) (putV ev ++ (putV sz ++ putV kd))
  rw [h5] at this
  rw [this]
  exact zDn (by omega) _
def zFy (L : List Ent) (ev sz i : Nat) : Prop := i ≤ L.length ∧ (tabN L ev sz i).start = i
theorem zIR (L : List Ent) (ev sz : Nat) : zFy L ev sz 0 := ⟨Nat.zero_le _, rfl⟩
theorem zEi {L : List Ent} {i i' : Nat} (h : i ≤ i') : L.take i ++ curT L i i' = L.take i' := by
 rw [curT, show i' = i + (i' - i) by omega, List.take_add, show i + (i' - i) - i = i' - i by omega]
theorem zL1 {L : List Ent} {ev sz i : Nat} (hi : zFy L ev sz i) (hlt : i < L.length) : ∃ i', i < i' ∧ zFy L ev sz i' ∧ (tabN L ev sz i').out = (tabN L ev sz i).out ++ secF (blkF (curT L i i') ev) := by
 have key : ∀ d j, j + d + 1 = L.length → i ≤ j → (tabN L ev sz j).start = i → (tabN L ev sz j).out = (tabN L ev sz i).out → ∃ i', i < i' ∧ zFy L ev sz i' ∧ (tabN L ev sz i').out = (tabN L ev sz i).out ++ secF (blkF (curT L i i') ev) := by
  intro d
  induction d with
  | zero =>
   intro j hj hij hs ho
   obtain ⟨e, he⟩ : ∃ e, L[j]? = some e := ⟨_, List.getElem?_eq_getElem (by omega)⟩
   have hF := zCv (ev := ev) (sz := sz) he (by omega)
   refine ⟨j + 1, by omega, ⟨by omega, by rw [hF]⟩, ?_⟩
   rw [hF, hs, ho]
  | succ d ih =>
   intro j hj hij hs ho
   obtain ⟨e, he⟩ : ∃ e, L[j]? = some e := ⟨_, List.getElem?_eq_getElem (by omega)⟩
   by_cases q : (blkF (curT L (tabN L ev sz j).start (j + 1)) ev).size < sz ∧ j + 1 < L.length
   ·
    have hK := zET he q.1 q.2
    exact ih (j + 1) (by omega) (by omega) (by rw [hK]; exact hs) (by rw [hK]; exact ho)
   ·
    have hF := zCv (ev := ev) (sz := sz) he q
    refine ⟨j + 1, by omega, ⟨by omega, by rw [hF]⟩, ?_⟩
    rw [hF, hs, ho]
 exact key (L.length - i - 1) i (by omega) (Nat.le_refl _) hi.2 rfl
theorem zKg {L : List Ent} {ev sz : Nat} : ∀ k i, i + k = L.length → ∃ w, (tabN L ev sz L.length).out = (tabN L ev sz i).out ++ w
 | 0, i, h => by
  have : i = L.length := by omega
  subst this
  exact ⟨⟨#[]⟩, ByteArray.ext (by simp [ByteArray.data_append])⟩
 | k + 1, i, h => by
  obtain ⟨e, he⟩ : ∃ e, L[i]? = some e := ⟨_, List.getElem?_eq_getElem (by omega)⟩
  obtain ⟨w, hw⟩ := zKg (L := L) (ev := ev) (sz := sz) k (i + 1) (by omega)
  by_cases q : (blkF (curT L (tabN L ev sz i).start (i + 1)) ev).size < sz ∧ i + 1 < L.length
  ·
   rw [zET he q.1 q.2] at hw
   exact ⟨w, hw⟩
  ·
   rw [zCv (ev := ev) (sz := sz) he q] at hw
   exact ⟨_, by rw [hw, ByteArray.append_assoc]⟩
theorem zMp {s : ByteArray} {L : List Ent} {ev sz kd : Nat} (h : IsTab s L ev sz kd) : (tab1 L ev sz).size ≤ 60000 := by
 have h1 := h.small
 have h2 := congrArg ByteArray.size h.s_index
 rw [zAY] at h2
 omega
theorem IsTab.next {s : ByteArray} {L : List Ent} {ev sz kd : Nat} (h : IsTab s L ev sz kd) {i : Nat} (hi : zFy L ev sz i) (hlt : i < L.length) : ∃ i' B w, i < i' ∧ zFy L ev sz i' ∧ (tabN L ev sz i').out = (tabN L ev sz i).out ++ secF B ∧ zBI B = some (curT L i i') ∧ tab1 L ev sz = (tabN L ev sz i).out ++ (secF B ++ w) ∧ B.size ≤ 60000 := by
 obtain ⟨i', h1, h2, h3⟩ := zL1 (ev := ev) (sz := sz) hi hlt
 obtain ⟨w, hw⟩ := zKg (L := L) (ev := ev) (sz := sz) (L.length - i') i' (by have := h2.1; omega)
 have hb : (blkF (curT L i i') ev).size ≤ 60000 := by
  have := zMp h
  rw [tab1, hw, h3] at this
  simp only [zAY, secF, putX] at this
  omega
 have hcl : (curT L i i').length = i' - i := zE5 (by omega) h2.1
 refine ⟨i', _, w, h1, h2, h3, zI1 ⟨zPJ h.ok i i', by omega, h.ev1, h.ev2, hb, rfl⟩, ?_, hb⟩
 rw [tab1, hw, h3, ByteArray.append_assoc]
def TI (s left : ByteArray) (out : List Ent) : Prop := ∀ L ev sz kd, IsTab s L ev sz kd → ∃ i, zFy L ev sz i ∧ tab1 L ev sz = (tabN L ev sz i).out ++ left ∧ out = L.take i
def TA (s : ByteArray) (at_ : Nat) (out : List Ent) : Prop := ∀ L ev sz kd, IsTab s L ev sz kd → ∃ i, zFy L ev sz i ∧ at_ = (tabN L ev sz i).out.size ∧ out = L.take i
theorem TI.start (s : ByteArray) : TI s (s.extract 0 (tAt0 s)) [] := fun L ev sz kd h => ⟨0, zIR _ _ _, by
 have h0 : (tabN L ev sz 0).out = ⟨#[]⟩ := rfl
 rw [h0, zGA, h.foot.at0]
 conv => rhs; rw [h.s_index]
 exact (zCL _ _).symm, rfl⟩
theorem TA.start (s : ByteArray) : TA s 0 [] := fun L ev sz kd _ => ⟨0, zIR _ _ _, rfl, rfl⟩
theorem zOr {a b : ByteArray} (h : a = a ++ b) : b = ⟨#[]⟩ := by
 have h2 := zBu a b
 rw [← h] at h2
 rw [← h2, ByteArray.extract_eq_empty_iff.2 (by omega)]
 rfl
theorem TI.lt {s left : ByteArray} {out : List Ent} (_ : TI s left out) (hne : ¬ left = ⟨#[]⟩) {L : List Ent} {ev sz kd i : Nat} (_ : IsTab s L ev sz kd) (hi : zFy L ev sz i) (hl : tab1 L ev sz = (tabN L ev sz i).out ++ left) : i < L.length := by
 rcases Nat.lt_or_ge i L.length with q | q
 · exact q
 ·
  have : i = L.length := by have := hi.1; omega
  subst this
  exact absurd (zOr hl) hne
theorem zGB {a b c : ByteArray} (h : a ++ b = a ++ c) : b = c := by
 have h1 := zBu a b
 have h2 := zBu a c
 rw [h] at h1
 exact h1.symm.trans h2
theorem TI.more {s left : ByteArray} {out : List Ent} (h : TI s left out) (hne : ¬ left = ⟨#[]⟩) {L : List Ent} {ev sz kd : Nat} (hL : IsTab s L ev sz kd) : ∃ x r m, zCu left = some (x, r) ∧ zBI x = some m ∧ out.length + m.length ≤ 400 := by
 obtain ⟨i, hi, hl, ho⟩ := h L ev sz kd hL
 obtain ⟨i', B, w, h1, h2, h3, h4, h5, h6⟩ := hL.next hi (h.lt hne hL hi hl)
 have hle : left = secF B ++ w := zGB (hl.symm.trans h5)
 refine ⟨B, w, _, by rw [hle]; exact zC8 h6 _, h4, ?_⟩
 have := zBj hL.ok
 have h7 := congrArg List.length (zEi (L := L) (Nat.le_of_lt h1))
 rw [List.length_append, ← ho, List.length_take] at h7
 omega
theorem TI.step {s left : ByteArray} {out : List Ent} (h : TI s left out) (hne : ¬ left = ⟨#[]⟩) {x r : ByteArray} {m : List Ent} (h1 : zCu left = some (x, r)) (h2 : zBI x = some m) : TI s r (out ++ m) := fun L ev sz kd hL => by
 obtain ⟨i, hi, hl, ho⟩ := h L ev sz kd hL
 obtain ⟨i', B, w, g1, g2, g3, g4, g5, g6⟩ := hL.next hi (h.lt hne hL hi hl)
 have hle : left = secF B ++ w := zGB (hl.symm.trans g5)
 rw [hle, zC8 g6] at h1
 have e1 : B = x := (Prod.mk.inj (Option.some.inj h1)).1
 have e2 : w = r := (Prod.mk.inj (Option.some.inj h1)).2
 subst e1
 subst e2
 rw [g4] at h2
 cases h2
 refine ⟨i', g2, ?_, ?_⟩
 · rw [g3, g5, ByteArray.append_assoc]
 · rw [ho, zEi (Nat.le_of_lt g1)]
theorem TI.last {s : ByteArray} {out : List Ent} (h : TI s ⟨#[]⟩ out) {L : List Ent} {ev sz kd : Nat} (hL : IsTab s L ev sz kd) : out = L := by
 obtain ⟨i, hi, hl, ho⟩ := h L ev sz kd hL
 rcases Nat.lt_or_ge i L.length with q | q
 ·
  obtain ⟨i', B, w, h1, h2, h3, h4, h5, h6⟩ := hL.next hi q
  have := zGB (hl.symm.trans h5)
  exact absurd this.symm (by
   have hp : 0 < (secF B).size := by simp only [secF, zAY, zAU]; omega
   exact zOq hp)
 · rw [ho, List.take_of_length_le q]
theorem IsTab.at_ {s : ByteArray} {L : List Ent} {ev sz kd : Nat} (h : IsTab s L ev sz kd) {a b : ByteArray} (hab : tab1 L ev sz = a ++ b) : ∃ t, s.extract a.size s.size = b ++ t := by
 refine ⟨_, zNJ (b := b ++ (secF (tabN L ev sz L.length).index ++ (secF (zB8 (zA6 (zAz L) (kd : Int))) ++ (secF (zCA L ev sz kd) ++ endT L ev sz kd)))) ?_⟩
 rw [← ByteArray.append_assoc, ← hab]
 exact h.s_index
theorem TA.lt {s : ByteArray} {at_ : Nat} {out : List Ent} (_ : TA s at_ out) (hlt : at_ < tAt0 s) {L : List Ent} {ev sz kd i : Nat} (hL : IsTab s L ev sz kd) (hi : zFy L ev sz i) (hl : at_ = (tabN L ev sz i).out.size) : i < L.length := by
 rcases Nat.lt_or_ge i L.length with q | q
 · exact q
 ·
  have : i = L.length := by have := hi.1; omega
  subst this
  rw [hL.foot.at0, tab1] at hlt
  omega
theorem TA.more {s : ByteArray} {at_ : Nat} {out : List Ent} (h : TA s at_ out) (hlt : at_ < tAt0 s) {L : List Ent} {ev sz kd : Nat} (hL : IsTab s L ev sz kd) : at_ ≤ s.size ∧ ∃ x r m, zCu (s.extract at_ s.size) = some (x, r) ∧ zBI x = some m ∧ out.length + m.length ≤ 400 := by
 obtain ⟨i, hi, hl, ho⟩ := h L ev sz kd hL
 obtain ⟨i', B, w, h1, h2, h3, h4, h5, h6⟩ := hL.next hi (h.lt hlt hL hi hl)
 obtain ⟨t, ht⟩ := hL.at_ h5
 refine ⟨?_, B, w ++ t, _, by rw [hl, ht, ByteArray.append_assoc]; exact zC8 h6 _, h4, ?_⟩
 ·
  have := congrArg ByteArray.size h5
  have h7 := congrArg ByteArray.size hL.s_index
  rw [zAY] at this h7
  omega
 ·
  have := zBj hL.ok
  have h7 := congrArg List.length (zEi (L := L) (Nat.le_of_lt h1))
  rw [List.length_append, ← ho, List.length_take] at h7
  omega
theorem TA.step {s : ByteArray} {at_ : Nat} {out : List Ent} (h : TA s at_ out) (hlt : at_ < tAt0 s) {x r : ByteArray} {m : List Ent} (h1 : zCu (s.extract at_ s.size) = some (x, r)) (h2 : zBI x = some m) : TA s (at_ + (secF x).size) (out ++ m) := fun L ev sz kd hL => by
 obtain ⟨i, hi, hl, ho⟩ := h L ev sz kd hL
 obtain ⟨i', B, w, g1, g2, g3, g4, g5, g6⟩ := hL.next hi (h.lt hlt hL hi hl)
 obtain ⟨t, ht⟩ := hL.at_ g5
 rw [hl, ht, ByteArray.append_assoc, zC8 g6] at h1
 have e1 : B = x := (Prod.mk.inj (Option.some.inj h1)).1
 subst e1
 rw [g4] at h2
 cases h2
 refine ⟨i', g2, ?_, ?_⟩
 · rw [g3, zAY, hl]
 · rw [ho, zEi (Nat.le_of_lt g1)]
theorem TA.last {s : ByteArray} {at_ : Nat} {out : List Ent} (h : TA s at_ out) (hge : ¬ at_ < tAt0 s) {L : List Ent} {ev sz kd : Nat} (hL : IsTab s L ev sz kd) : out = L := by
 obtain ⟨i, hi, hl, ho⟩ := h L ev sz kd hL
 rcases Nat.lt_or_ge i L.length with q | q
 ·
  obtain ⟨i', B, w, h1, h2, h3, h4, h5, h6⟩ := hL.next hi q
  have h7 := congrArg ByteArray.size h5
  have hp : 0 < (secF B).size := by simp only [secF, zAY, zAU]; omega
  rw [hL.foot.at0] at hge
  rw [zAY, zAY] at h7
  omega
 · rw [ho, List.take_of_length_le q]
theorem zLu {s : ByteArray} {L L' : List Ent} {ev sz kd ev' sz' kd' : Nat} (h : IsTab s L ev sz kd) (h' : IsTab s L' ev' sz' kd') : L = L' ∧ ev = ev' ∧ sz = sz' ∧ kd = kd' := by
 have hp : zCA L ev sz kd = zCA L' ev' sz' kd' := by
  obtain ⟨r, hr⟩ := h.props_at.1
  obtain ⟨r', hr'⟩ := h'.props_at.1
  rw [hr] at hr'
  exact (Prod.mk.inj (Option.some.inj hr')).1
 have hq : L.length = L'.length ∧ ev = ev' ∧ sz = sz' ∧ kd = kd' := by
  obtain ⟨r, a1, _, _, r2, r3, a2, a3, a4⟩ := zEc L (ev := ev) (sz := sz) (kd := kd) (zBj h.ok) h.ev2 h.sz2 h.kd2
  obtain ⟨q, b1, _, _, q2, q3, b2, b3, b4⟩ := zEc L' (ev := ev') (sz := sz') (kd := kd') (zBj h'.ok) h'.ev2 h'.sz2 h'.kd2
  rw [hp, b1] at a1
  have a0 := (Prod.mk.inj (Option.some.inj a1)).1
  have a01 := (Prod.mk.inj (Option.some.inj a1)).2
  subst a01
  rw [b2] at a2
  cases a2
  rw [b3] at a3
  cases a3
  rw [b4] at a4
  cases a4
  exact ⟨by omega, rfl, rfl, rfl⟩
 obtain ⟨hlen, rfl, rfl, rfl⟩ := hq
 refine ⟨?_, rfl, rfl, rfl⟩
 have h01 : tab1 L ev sz = tab1 L' ev sz := by
  have e1 : s.extract 0 (tAt0 s) = tab1 L ev sz := by
   rw [h.foot.at0]
   conv => lhs; rw [h.s_index]
   exact zCL _ _
  have e2 : s.extract 0 (tAt0 s) = tab1 L' ev sz := by
   rw [h'.foot.at0]
   conv => lhs; rw [h'.s_index]
   exact zCL _ _
  rw [← e1, e2]
 have key : ∀ k i, L.length - i ≤ k → zFy L ev sz i → zFy L' ev sz i → (tabN L ev sz i).out = (tabN L' ev sz i).out → L.take i = L'.take i → L = L' := by
  intro k
  induction k with
  | zero =>
   intro i hk hi hi' ho ht
   have h1 := hi.1
   have : i = L.length := by omega
   subst this
   rwa [List.take_of_length_le (Nat.le_refl _), List.take_of_length_le (by omega)] at ht
  | succ k ih =>
   intro i hk hi hi' ho ht
   rcases Nat.lt_or_ge i L.length with q | q
   ·
    obtain ⟨j, B, w, g1, g2, g3, g4, g5, g6⟩ := h.next hi q
    obtain ⟨j', B', w', f1, f2, f3, f4, f5, f6⟩ := h'.next hi' (by omega)
    have e : secF B ++ w = secF B' ++ w' := by
     rw [h01, f5, ← ho] at g5
     exact (zGB g5).symm
    have t1 := zC8 g6 w
    rw [e, zC8 f6] at t1
    have eB : B' = B := (Prod.mk.inj (Option.some.inj t1)).1
    subst eB
    rw [g4] at f4
    have hc := Option.some.inj f4
    have hj : j = j' := by
     have := congrArg List.length hc
     rw [zE5 (Nat.le_of_lt g1) g2.1, zE5 (Nat.le_of_lt f1) f2.1] at this
     omega
    subst hj
    refine ih j (by omega) g2 f2 (by rw [g3, f3, ho]) ?_
    rw [← zEi (L := L) (Nat.le_of_lt g1), ← zEi (L := L') (Nat.le_of_lt g1), ht, hc]
   ·
    have h1 := hi.1
    have : i = L.length := by omega
    subst this
    rwa [List.take_of_length_le (Nat.le_refl _), List.take_of_length_le (by omega)] at ht
 exact key L.length 0 (by omega) (zIR _ _ _) (zIR _ _ _) rfl rfl
open Classical in
noncomputable def zBq (s : ByteArray) : Option (List Ent × Shp) := if h : ∃ x : List Ent × Nat × Nat × Nat, IsTab s x.1 x.2.1 x.2.2.1 x.2.2.2 then some (h.choose.1, shpN h.choose.2.1 h.choose.2.2.1 h.choose.2.2.2) else none
theorem zF3 {s : ByteArray} (h : ∀ L ev sz kd, ¬ IsTab s L ev sz kd) : zBq s = none := by
 rw [zBq, dif_neg]
 rintro ⟨x, q⟩
 exact h _ _ _ _ q
theorem zI0 {s : ByteArray} {L : List Ent} {ev sz kd : Nat} (h : IsTab s L ev sz kd) : zBq s = some (L, shpN ev sz kd) := by
 have hx : ∃ x : List Ent × Nat × Nat × Nat, IsTab s x.1 x.2.1 x.2.2.1 x.2.2.2 := ⟨(L, ev, sz, kd), h⟩
 rw [zBq, dif_pos hx]
 obtain ⟨h1, h2, h3, h4⟩ := zLu hx.choose_spec h
 rw [h1, h2, h3, h4]
theorem zLl {s : ByteArray} {L : List Ent} {p : Shp} (h : zBq s = some (L, p)) : ∃ ev sz kd, p = shpN ev sz kd ∧ IsTab s L ev sz kd := by
 rw [zBq] at h
 split at h
 · next q => cases h; exact ⟨_, _, _, rfl, q.choose_spec⟩
 · cases h
end Go.Rl
namespace Go.Rl
def tvN (o : Option (Nat × ByteArray)) : Nat := (o.getD (0, ⟨#[]⟩)).1
def tvR (o : Option (Nat × ByteArray)) : ByteArray := (o.getD (0, ⟨#[]⟩)).2
def txX (o : Option (ByteArray × ByteArray)) : ByteArray := (o.getD (⟨#[]⟩, ⟨#[]⟩)).1
def txR (o : Option (ByteArray × ByteArray)) : ByteArray := (o.getD (⟨#[]⟩, ⟨#[]⟩)).2
theorem zIg {o : Option (Nat × ByteArray)} (h : o.isSome = true) : o = some (tvN o, tvR o) := by cases o with | none => cases h | some p => rfl
theorem zJs {o : Option (ByteArray × ByteArray)} (h : o.isSome = true) : o = some (txX o, txR o) := by cases o with | none => cases h | some p => rfl
theorem zCz {α : Type} {o : Option α} (h : o.isSome = false) : o = none := by cases o with | none => rfl | some p => cases h
theorem zDb {s : ByteArray} {k i n : Nat} {b : UInt8} (h : s[i]? = some b) (hb : b.toNat < 128) (hx : ¬ ((0 < i ∧ b.toNat = 0) ∨ (i = 9 ∧ 1 < b.toNat))) : tvG s (k + 1) i n = some ((n ||| ((b.toNat % 128) * 2 ^ (7 * i)) % 18446744073709551616) % 18446744073709551616, s.extract (i + 1) s.size) := by rw [zJt h hb hx, Nat.mod_eq_of_lt hb]
theorem zME (s : ByteArray) : tvN (zAQ s) < 18446744073709551616 := by
 cases h : zAQ s with
 | none => exact (by decide : (0 : Nat) < 18446744073709551616)
 | some p => obtain ⟨n, r⟩ := p; exact (zE7 h).1
theorem zFh (s : ByteArray) : (tvR (zAQ s)).size ≤ s.size := by
 cases h : zAQ s with
 | none => exact Nat.zero_le _
 | some p => obtain ⟨n, r⟩ := p; exact Nat.le_of_lt (zE7 h).2
theorem zMI {s : ByteArray} (h : (zAQ s).isSome = false) : zAX s = none := zKf (zCz h)
theorem zHt {s : ByteArray} (h : (zAQ s).isSome = true) (hx : 60000 < tvN (zAQ s) ∨ (tvR (zAQ s)).size < tvN (zAQ s)) : zAX s = none := zIh (zIg h) hx
theorem zMH {s : ByteArray} (h : (zAQ s).isSome = true) (hx : ¬ (60000 < tvN (zAQ s) ∨ (tvR (zAQ s)).size < tvN (zAQ s))) : zAX s = some ((tvR (zAQ s)).extract 0 (tvN (zAQ s)), (tvR (zAQ s)).extract (tvN (zAQ s)) (tvR (zAQ s)).size) := zGH (zIg h) hx
theorem zMD (s : ByteArray) : (txX (zAX s)).size ≤ 60000 := by
 cases h : zAX s with
 | none => exact Nat.zero_le _
 | some p => obtain ⟨n, r⟩ := p; exact (zD3 h).1
theorem zIf (s : ByteArray) : (txR (zAX s)).size ≤ s.size := by
 cases h : zAX s with
 | none => exact Nat.zero_le _
 | some p => obtain ⟨n, r⟩ := p; have := zD3 h; show r.size ≤ s.size; omega
theorem zDC (s : ByteArray) (i : Nat) : (s[i]?.getD 0).toNat % 4294967296 = zBU s i := by
 have := zIb s i
 rw [zBU] at this ⊢
 omega
theorem zMK {s : ByteArray} (h : s.size < 4) : zBL s = none := zNt h
def pvTk (x : ByteArray × Bool) : List (List PV) := [[.v (.string x.1), .v (.bool x.2)]]
theorem zAy (x : ByteArray × Bool) : FlatP (pvTk x) := fun es he p hp => by
 obtain rfl := List.mem_singleton.1 he
 rcases List.mem_cons.1 hp with rfl | hp
 · rfl
 ·
  obtain rfl := List.mem_singleton.1 hp
  rfl
def nV (s : ByteArray) : Int := if (zAQ s).isSome = true ∧ tvN (zAQ s) ≤ 4611686018427387904 then ((tvN (zAQ s) : Nat) : Int) else 0
def nS (s : ByteArray) (b : Bool) : ByteArray × Bool := if (zAQ s).isSome = true ∧ tvN (zAQ s) ≤ 4611686018427387904 then (tvR (zAQ s), b) else (s, true)
def xV (s : ByteArray) : ByteArray := txX (zAX s)
def xS (s : ByteArray) (b : Bool) : ByteArray × Bool := if (zAX s).isSome = true then (txR (zAX s), b) else (s, true)
def fV (s : ByteArray) : Nat := tvN (zBL s)
def fS (s : ByteArray) (b : Bool) : ByteArray × Bool := if (zBL s).isSome = true then (tvR (zBL s), b) else (s, true)
def sS (s : ByteArray) (b : Bool) : ByteArray × Bool := ((fS (xS s b).1 (xS s b).2).1, decide (¬ fV (xS s b).1 = crcF (xV s)) || (fS (xS s b).1 (xS s b).2).2)
theorem zHf {s : ByteArray} {b : Bool} (h : (zAQ s).isSome = true) (h2 : tvN (zAQ s) ≤ 4611686018427387904) : nV s = ((tvN (zAQ s) : Nat) : Int) ∧ nS s b = (tvR (zAQ s), b) := ⟨if_pos ⟨h, h2⟩, if_pos ⟨h, h2⟩⟩
theorem zLs {s : ByteArray} {b : Bool} (h : ¬ ((zAQ s).isSome = true ∧ tvN (zAQ s) ≤ 4611686018427387904)) : nV s = 0 ∧ nS s b = (s, true) := ⟨if_neg h, if_neg h⟩
theorem zKb {s : ByteArray} {b : Bool} (h : (zAX s).isSome = true) : xS s b = (txR (zAX s), b) := if_pos h
theorem zNl {s : ByteArray} {b : Bool} (h : (zAX s).isSome = false) : xV s = ⟨#[]⟩ ∧ xS s b = (s, true) := ⟨by rw [xV, zCz h]; rfl, by rw [xS, h]; rfl⟩
theorem zLK {s : ByteArray} {b : Bool} (h : (zBL s).isSome = true) : fS s b = (tvR (zBL s), b) := if_pos h
theorem zOY {s : ByteArray} {b : Bool} (h : (zBL s).isSome = false) : fV s = 0 ∧ fS s b = (s, true) := ⟨by rw [fV, zCz h]; rfl, by rw [fS, h]; rfl⟩
theorem nS_good {s : ByteArray} {b : Bool} (h : (nS s b).2 = false) : b = false ∧ ∃ n, zAQ s = some (n, (nS s b).1) ∧ n ≤ 4611686018427387904 ∧ nV s = (n : Int) := by
 by_cases q : (zAQ s).isSome = true ∧ tvN (zAQ s) ≤ 4611686018427387904
 ·
  rw [(zHf q.1 q.2).2] at h ⊢
  exact ⟨h, _, zIg q.1, q.2, (zHf (b := b) q.1 q.2).1⟩
 · rw [(zLs q).2] at h; cases h
theorem zMw {s r : ByteArray} {b : Bool} {n : Nat} (h : zAQ s = some (n, r)) (hn : n ≤ 4611686018427387904) : nV s = (n : Int) ∧ nS s b = (r, b) := by
 have := zHf (s := s) (b := b) (by rw [h]; rfl) (by rw [h]; exact hn)
 rw [h] at this
 exact this
theorem zJr {s : ByteArray} {b : Bool} (h : (xS s b).2 = false) : b = false ∧ zAX s = some (xV s, (xS s b).1) := by
 cases q : (zAX s).isSome with
 | true => rw [zKb q] at h ⊢; exact ⟨h, zJs q⟩
 | false => rw [(zNl q).2] at h; cases h
theorem xS_of {s x r : ByteArray} {b : Bool} (h : zAX s = some (x, r)) : xV s = x ∧ xS s b = (r, b) := by
 have := zKb (s := s) (b := b) (by rw [h]; rfl)
 rw [h] at this
 exact ⟨by rw [xV, h]; rfl, this⟩
theorem fS_good {s : ByteArray} {b : Bool} (h : (fS s b).2 = false) : b = false ∧ zBL s = some (fV s, (fS s b).1) := by
 cases q : (zBL s).isSome with
 | true => rw [zLK q] at h ⊢; exact ⟨h, zIg q⟩
 | false => rw [(zOY q).2] at h; cases h
theorem zNP {s r : ByteArray} {b : Bool} {n : Nat} (h : zBL s = some (n, r)) : fV s = n ∧ fS s b = (r, b) := by
 have := zLK (s := s) (b := b) (by rw [h]; rfl)
 rw [h] at this
 exact ⟨by rw [fV, h]; rfl, this⟩
theorem zMY {s : ByteArray} {b : Bool} (h : (sS s b).2 = false) : b = false ∧ zCu s = some (xV s, (sS s b).1) := by
 have h1 : (decide (¬ fV (xS s b).1 = crcF (xV s)) || (fS (xS s b).1 (xS s b).2).2) = false := h
 rw [Bool.or_eq_false_iff, decide_eq_false_iff_not, Classical.not_not] at h1
 obtain ⟨h2, h3⟩ := fS_good h1.2
 obtain ⟨h4, h5⟩ := zJr h2
 refine ⟨h4, ?_⟩
 have h3' : zBL (xS s b).1 = some (fV (xS s b).1, (sS s b).1) := h3
 rw [zCu, h5]
 simp only [h3', h1.1, if_true]
theorem sS_of {s x r : ByteArray} (h : zCu s = some (x, r)) : xV s = x ∧ sS s false = (r, false) := by
 cases q : zAX s with
 | none => rw [zCu, q] at h; cases h
 | some p =>
  obtain ⟨y, r1⟩ := p
  cases q2 : zBL r1 with
  | none => rw [zCu, q] at h; simp only [q2] at h; cases h
  | some p2 =>
   obtain ⟨c, r2⟩ := p2
   rw [zCu, q] at h
   simp only [q2] at h
   split at h
   ·
    next hc =>
    cases h
    obtain ⟨e1, e2⟩ := xS_of (b := false) q
    obtain ⟨f1, f2⟩ := zNP (b := false) q2
    refine ⟨e1, ?_⟩
    rw [sS, e1, e2, f1, f2, hc]
    simp
   · cases h
theorem zGl (s : ByteArray) (b : Bool) : (nS s b).1.size ≤ s.size := by
 by_cases q : (zAQ s).isSome = true ∧ tvN (zAQ s) ≤ 4611686018427387904
 · rw [(zHf q.1 q.2).2]; exact zFh s
 · rw [(zLs q).2]; exact Nat.le_refl _
theorem zJq (s : ByteArray) (b : Bool) : (xS s b).1.size ≤ s.size := by
 cases q : (zAX s).isSome with
 | true => rw [zKb q]; exact zIf s
 | false => rw [(zNl q).2]; exact Nat.le_refl _
theorem zOZ (s : ByteArray) (b : Bool) : (fS s b).1.size ≤ s.size := by
 cases q : (zBL s).isSome with
 | true => rw [zLK q]; have := zHu (zIg q); show (tvR (zBL s)).size ≤ s.size; omega
 | false => rw [(zOY q).2]; exact Nat.le_refl _
theorem sS_le (s : ByteArray) (b : Bool) : (sS s b).1.size ≤ s.size := Nat.le_trans (zOZ _ _) (zJq _ _)
theorem zLb (s : ByteArray) : (xV s).size ≤ 60000 := zMD s
theorem fV_lt (s : ByteArray) : fV s < 4294967296 := by
 rw [fV]
 cases h : zBL s with
 | none => decide
 | some p => obtain ⟨n, r⟩ := p; exact (zHu h).1
def zBD (s : ByteArray) (at_ : Nat) : Option (ByteArray × ByteArray) := if at_ ≤ s.size then zCu (s.extract at_ s.size) else none
end Go.Rl

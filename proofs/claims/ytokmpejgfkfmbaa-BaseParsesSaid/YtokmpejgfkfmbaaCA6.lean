/- Part of the proof that package base reads any text of at most 3000 bytes, or longer than 1048576, in any base, as the reference does: the same number, the same fault, the same place. -/
import Derived.Test.YtokmpejgfkfmbaaCA5
section
namespace Go.Proofs.Ytokmpejgfkfmbaa.BM
open Go.RowKit Go.Proofs.YtokmpejgfkfmbaaW.PrintWords Go.Proofs.YtokmpejgfkfmbaaW.PrintLast Go.Proofs.YtokmpejgfkfmbaaW.PrintMore
def scan (s : ByteArray) (b : Int) (st : Nat) : Nat → Nat → Int
 | 0, _ => if st = s.size then (s.size : Int) else -1
 | m + 1, i => if wv (bt s (i : Int)) b < 0 then (i : Int) else if wv (bt s (i : Int)) b = 0 ∧ i = st ∧ st = 1 then (i : Int) else if i = st + 1 ∧ bt s (st : Int) = 48 then (i : Int) else scan s b st m (i + 1)
theorem scan_ok {s : ByteArray} {b : Int} {st : Nat} : ∀ (m i : Nat), scan s b st m i < 0 → i + m = s.size → st ≠ s.size ∧ ∀ j, i ≤ j → j < s.size → 0 ≤ wv (bt s (j : Int)) b
 | 0, i, h, hi => by
  unfold scan at h
  by_cases hs : st = s.size
  ·rw [if_pos hs] at h; omega
  ·exact ⟨hs, fun j h1 h2 => by omega⟩
 | m + 1, i, h, hi => by
  unfold scan at h
  split at h
  ·omega
  ·rename_i h1
   split at h
   ·omega
   ·split at h
    ·omega
    ·obtain ⟨h2, h3⟩ := scan_ok m (i + 1) h (by omega)
     refine ⟨h2, fun j hj hj2 => ?_⟩
     rcases Nat.eq_or_lt_of_le hj with he | hlt
     ·subst he; omega
     ·exact h3 j hlt hj2
theorem scan_lo {s : ByteArray} {b : Int} {st : Nat} : ∀ (m i : Nat), -1 ≤ scan s b st m i
 | 0, i => by unfold scan; split <;> omega
 | m + 1, i => by
  unfold scan
  split
  ·omega
  ·split
   ·omega
   ·split
    ·omega
    ·exact scan_lo m (i + 1)
section
open Go.Proofs.Ytokmpejgfkfmbaa.BB
theorem ref_wrong_loop (s : ByteArray) (b : Int) (hb : 2 ≤ b) (hb' : b ≤ 36) (st : Nat) (hs : s.size < 1099511627776) : ∀ (m i : Nat), i + m = s.size → st ≤ i → Ev (fun k => r19Wrong.l0 k s b st i) (scan s b st m i) := by
 intro m
 induction m with
 | zero =>
  intro i hi hst
  refine Ev.succ (Ev.congr (Ev.pure _) fun k => ?_)
  rw [r19Wrong.l0, if_neg (by omega)]
  unfold scan
  by_cases h : st = s.size
  ·rw [if_pos h, if_pos (by omega)]
  ·rw [if_neg h, if_neg (by omega)]
 | succ m ih =>
  intro i hi hst
  have hw := (refworth_ev (bt s (i : Int)) b hb hb').up
  have e : wrap64 ((i : Int) + 1) = ((i + 1 : Nat) : Int) := by rw [w64 (by omega) (by omega)]; omega
  have e2 : wrap64 ((st : Int) + 1) = ((st + 1 : Nat) : Int) := by rw [w64 (by omega) (by omega)]; omega
  have c1 : (i : Int) < (s.size : Int) := by clear e e2; omega
  have c2 : (st : Int) < (s.size : Int) := by clear e e2; omega
  refine Ev.succ (Ev.succ ?_)
  by_cases h1 : wv (bt s (i : Int)) b < 0
  ·refine Late.step (g := fun _ => some (i : Int)) hw.late (fun k hk => ?_) (Ev.const (by rw [scan, if_pos h1]))
   have hk' : r19worth.f (k + 1) (bt s (i : Int)) b = some (wv (bt s (i : Int)) b) := hk
   rw [r19Wrong.l0, if_pos c1, if_pos (Int.natCast_nonneg _), hk', Option.bind_some, if_pos h1]
  ·have j3 : ∀ (k : Nat) (q : Bool), r19Wrong.j3 (k + 1) s b st i q = if q = true then some (i : Int) else if i = st + 1 ∧ bt s (st : Int) = 48 then some (i : Int) else r19Wrong.l0 k s b st ((i + 1 : Nat) : Int) := by
    intro k q
    rw [r19Wrong.j3, e, e2]
    by_cases hq : q = true
    ·rw [if_pos hq, if_pos hq]
    ·rw [if_neg hq, if_neg hq]
     by_cases h2 : i = st + 1
     ·rw [if_pos (Int.ofNat_inj.2 h2), if_pos (Int.natCast_nonneg _), if_pos c2]
      by_cases h3 : bt s (st : Int) = 48
      ·rw [if_pos h3, if_pos ⟨h2, h3⟩]
      ·rw [if_neg h3, if_neg (fun h => h3 h.2)]
     ·rw [if_neg (fun h => h2 (Int.ofNat_inj.1 h)), if_neg (fun h => h2 h.1)]
   have l0 : ∀ k, r19worth.f (k + 1) (bt s (i : Int)) b = some (wv (bt s (i : Int)) b) → r19Wrong.l0 (k + 1 + 1) s b st i = r19Wrong.j3 (k + 1) s b st i (decide (wv (bt s (i : Int)) b = 0 ∧ i = st ∧ st = 1)) := by
    intro k hk
    rw [r19Wrong.l0, if_pos c1, if_pos (Int.natCast_nonneg _), hk, Option.bind_some, if_neg h1]
    by_cases h2 : i = st
    ·rw [if_pos (Int.ofNat_inj.2 h2)]
     by_cases h3 : wv (bt s (i : Int)) b = 0
     ·rw [if_pos h3]
      by_cases h4 : st = 1
      ·rw [decide_eq_true ⟨h3, h2, h4⟩, h4]; rfl
      ·rw [decide_eq_false (fun h => h4 h.2.2)]
       congr 1
       exact beq_false_of_ne (fun h => h4 (by omega))
     ·rw [if_neg h3, decide_eq_false (fun h => h3 h.1)]
    ·rw [if_neg (fun h => h2 (Int.ofNat_inj.1 h)), decide_eq_false (fun h => h2 h.2.1)]
   by_cases h5 : wv (bt s (i : Int)) b = 0 ∧ i = st ∧ st = 1
   ·refine Late.step (g := fun _ => some (i : Int)) hw.late (fun k hk => ?_) (Ev.const (by rw [scan, if_neg h1, if_pos h5]))
    rw [l0 k hk, j3, if_pos (decide_eq_true h5)]
   ·by_cases h6 : i = st + 1 ∧ bt s (st : Int) = 48
    ·refine Late.step (g := fun _ => some (i : Int)) hw.late (fun k hk => ?_) (Ev.const (by rw [scan, if_neg h1, if_neg h5, if_pos h6]))
     rw [l0 k hk, j3, if_neg (by rw [decide_eq_false h5]; decide), if_pos h6]
    ·have he : scan s b st (m + 1) i = scan s b st m (i + 1) := by rw [scan, if_neg h1, if_neg h5, if_neg h6]
     rw [he]
     refine Late.step hw.late (fun k hk => ?_) (ih (i + 1) (by omega) (by omega))
     rw [l0 k hk, j3, if_neg (by rw [decide_eq_false h5]; decide), if_neg h6]
def startOf (s : ByteArray) : Nat := if bt s 0 = 45 then 1 else 0
theorem start_le (s : ByteArray) : startOf s ≤ s.size := by
 unfold startOf
 split
 ·rename_i h
  rcases Nat.eq_zero_or_pos s.size with h0 | h0
  ·exfalso
   unfold bt at h
   rw [dif_neg (by show ¬ (0 < s.size); omega)] at h
   omega
  ·exact h0
 ·omega
theorem ref_wrong_ev (s : ByteArray) (b : Int) (hb : 2 ≤ b) (hb' : b ≤ 36) (hs : s.size < 1099511627776) : Ev (fun k => r19Wrong.f k s b) (scan s b (startOf s) (s.size - startOf s) (startOf s)) := by
 have hst := start_le s
 have h := ref_wrong_loop s b hb hb' (startOf s) hs (s.size - startOf s) (startOf s) (by omega) (by omega)
 refine Ev.succ (Ev.succ (Ev.congr h fun k => ?_))
 unfold r19Wrong.f
 by_cases h0 : 0 < s.size
 ·rw [if_pos (by omega), if_pos (by omega), r19Wrong.j0]
  unfold startOf
  by_cases h45 : bt s 0 = 45
  ·rw [if_pos (by simp [h45]), r19Wrong.j1, if_pos h45]
   rfl
  ·rw [if_neg (by simp [h45]), r19Wrong.j1, if_neg h45]
   rfl
 ·have h45 : ¬ bt s 0 = 45 := by
   unfold bt
   rw [dif_neg (by show ¬ (0 < s.size); omega)]
   omega
  rw [if_neg (by omega), r19Wrong.j0, if_neg (by decide), r19Wrong.j1]
  unfold startOf
  rw [if_neg h45]
  rfl
end
section
open Go.Proofs.Ytokmpejgfkfmbaa.BA
def allDigits : ByteArray := (⟨#[48, 49, 50, 51, 52, 53, 54, 55, 56, 57, 97, 98, 99, 100, 101, 102, 103, 104, 105, 106, 107, 108, 109, 110, 111, 112, 113, 114, 115, 116, 117, 118, 119, 120, 121, 122]⟩ : ByteArray)
theorem allDigits_bt : ∀ i : Fin 36, bt allDigits ((i.val : Nat) : Int) = dgt (i.val : Int) := by decide +kernel
theorem digits_size (b : Int) (hb : 2 ≤ b) (hb' : b ≤ 36) : ((baseDigits b).size : Int) = b := by
 unfold baseDigits
 rw [ByteArray.size_extract]
 have : allDigits.size = 36 := by decide +kernel
 show ((min b.toNat allDigits.size - 0 : Nat) : Int) = b
 omega
theorem digits_bt (b : Int) (hb : 2 ≤ b) (hb' : b ≤ 36) (i : Nat) (h : (i : Int) < b) : bt (baseDigits b) (i : Int) = dgt i := by
 have hsz : allDigits.size = 36 := by decide +kernel
 have h1 := bt_extract allDigits (i := 0) (j := b.toNat) (t := i) (by omega) (by omega)
 rw [Nat.zero_add] at h1
 exact h1.trans (allDigits_bt ⟨i, by omega⟩)
theorem runeAt_loop (r b : Int) (hb : 2 ≤ b) (hb' : b ≤ 36) : ∀ (m i : Nat), ((i + m : Nat) : Int) = b → (∀ t : Int, 0 ≤ t → t < i → dgt t ≠ r) → Ev (fun k => base_runeAt.l0 k (baseDigits b) r i) (wv r b) := by
 have hsz := digits_size b hb hb'
 intro m
 induction m with
 | zero =>
  intro i hx hn
  refine Ev.succ (Ev.congr (Ev.pure _) fun k => ?_)
  rw [base_runeAt.l0, if_neg (by omega)]
  congr 1
  have h1 := hn (r - 48)
  have h2 := hn (r - 87)
  unfold dgt at h1 h2
  unfold wv
  split
  ·rw [if_pos (by omega)] at h1; omega
  ·split
   ·rw [if_neg (by omega)] at h2; omega
   ·rfl
 | succ m ih =>
  intro i hx hn
  have hd := digits_bt b hb hb' i (by omega)
  have hlt : dgt (i : Int) < 128 := by unfold dgt; split <;> omega
  by_cases hr : dgt (i : Int) = r
  ·refine Ev.succ (Ev.congr (Ev.pure _) fun k => ?_)
   rw [base_runeAt.l0, if_pos (by omega), hd, if_pos hlt, if_pos hr]
   congr 1
   unfold dgt at hr
   unfold wv
   split at hr <;> (repeat' split) <;> omega
  ·refine Ev.succ (Ev.congr (ih (i + 1) (by omega) (fun t ht0 ht1 => ?_)) fun k => ?_)
   ·rcases Int.lt_or_eq_of_le (show t ≤ (i : Int) by omega) with h | h
    ·exact hn t ht0 h
    ·subst h; exact hr
   ·rw [base_runeAt.l0, if_pos (by omega), hd, if_pos hlt, if_neg hr]
theorem runeAt_ev (r b : Int) (hb : 2 ≤ b) (hb' : b ≤ 36) : Ev (fun k => base_runeAt.f k (baseDigits b) r) (wv r b) :=
 runeAt_loop r b hb hb' b.toNat 0 (by omega) (fun t h0 h1 => by omega)
theorem decode_high (s : ByteArray) (i : Nat) (h : 128 ≤ (s.get! i).toNat) : 128 ≤ (Utf8.decode s i).1 := by
 unfold Utf8.decode
 simp only [Nat.add_zero]
 rw [if_neg (by omega)]
 (repeat' split) <;> (try simp only [Utf8.runeError]) <;> (try omega)
 all_goals (rename_i h; simp only [Bool.and_eq_true, decide_eq_true_eq] at h; omega)
theorem get_at (s : ByteArray) (i : Nat) (h : i < s.size) : s.get! i = s[i]'h := by
 simp [ByteArray.get!, getElem!_pos, h]
 rfl
theorem get_bt (s : ByteArray) (i : Nat) (h : i < s.size) : ((s.get! i).toNat : Int) = bt s (i : Int) := by
 unfold bt
 have e : ((i : Nat) : Int).toNat = i := by omega
 simp only [e]
 rw [dif_pos h]
 congr 2
 exact get_at s i h
theorem decode_wv (s : ByteArray) (i : Nat) (h : i < s.size) (b : Int) : wv ((Utf8.decode s i).1 : Int) b = wv (bt s (i : Int)) b ∧ (0 ≤ wv (bt s (i : Int)) b → (Utf8.decode s i).2 = 1) := by
 have hg := get_bt s i h
 by_cases ha : (s.get! i).toNat < 128
 ·have e : s[i]'h = s.get! i := (get_at s i h).symm
  have := decode_ascii s i h (by rw [e]; exact ha)
  rw [this, e]
  refine ⟨?_, fun _ => rfl⟩
  show wv (((s.get! i).toNat : Nat) : Int) b = _
  rw [hg]
 ·have h1 := decode_high s i (by omega)
  have e1 : wv ((Utf8.decode s i).1 : Int) b = -1 := by unfold wv; rw [if_neg (by omega), if_neg (by omega)]
  have e2 : wv (bt s (i : Int)) b = -1 := by unfold wv; rw [if_neg (by omega), if_neg (by omega)]
  refine ⟨by rw [e1, e2], fun h => by rw [e2] at h; omega⟩
theorem wrong_loop (s body : ByteArray) (b : Int) (hb : 2 ≤ b) (hb' : b ≤ 36) (st : Nat) (hs : s.size < 1099511627776) (hsz : body.size = s.size - st) (hst : st ≤ s.size) (hbt : ∀ i : Nat, i < body.size → bt body (i : Int) = bt s ((st + i : Nat) : Int)) (h1 : st ≤ 1) :
  ∀ (m i : Nat), i + m = body.size → Ev (fun k => base_wrong.l0 k s b body st i) (scan s b st m (st + i)) := by
 intro m
 induction m with
 | zero =>
  intro i hi
  refine Ev.succ (Ev.congr (Ev.pure _) fun k => ?_)
  rw [base_wrong.l0, if_neg (by omega)]
  unfold scan
  by_cases h : st = s.size
  ·rw [if_pos h, if_pos (by omega)]
  ·rw [if_neg h, if_neg (by omega)]
 | succ m ih =>
  intro i hi
  obtain ⟨hd1, hd2⟩ := decode_wv body i (by omega) b
  rw [hbt i (by omega)] at hd1 hd2
  have hw := runeAt_ev ((Utf8.decode body i).1 : Int) b hb hb'
  rw [hd1] at hw
  have e : wrap64 ((st : Int) + (i : Int)) = ((st + i : Nat) : Int) := by rw [w64 (by omega) (by omega)]; omega
  have c1 : i < body.size := by clear e; omega
  have hb0 : i = 1 → bt body 0 = bt s (st : Int) := fun h => by
   have := hbt 0 (by clear e; omega)
   simpa using this
  have k0 : ∀ k, base_runeAt.f k (baseDigits b) ((Utf8.decode body i).1 : Int) = some (wv (bt s ((st + i : Nat) : Int)) b) → base_wrong.l0 (k + 1) s b body st i =
    if wv (bt s ((st + i : Nat) : Int)) b < 0 then some ((st + i : Nat) : Int) else if wv (bt s ((st + i : Nat) : Int)) b = 0 ∧ st + i = st ∧ st = 1 then some ((st + i : Nat) : Int)
    else if st + i = st + 1 ∧ bt s (st : Int) = 48 then some ((st + i : Nat) : Int) else base_wrong.l0 k s b body st (i + (Utf8.decode body i).2) := by
   intro k hk
   rw [base_wrong.l0, if_pos c1, hk, Option.bind_some, e]
   clear e
   by_cases g1 : wv (bt s ((st + i : Nat) : Int)) b < 0
   ·rw [if_pos g1, if_pos g1]
   ·rw [if_neg g1, if_neg g1]
    by_cases g2 : wv (bt s ((st + i : Nat) : Int)) b = 0 ∧ st + i = st ∧ st = 1
    ·rw [if_pos g2, if_pos ⟨g2.1, by omega, by omega⟩]
    ·rw [if_neg g2, if_neg (fun h => g2 ⟨h.1, by omega, by omega⟩)]
     by_cases g3 : st + i = st + 1 ∧ bt s (st : Int) = 48
     ·rw [if_pos g3, if_pos ⟨by omega, by rw [hb0 (by omega)]; exact g3.2⟩]
     ·rw [if_neg g3, if_neg (fun h => g3 ⟨by omega, by rw [← hb0 h.1]; exact h.2⟩)]
  refine Ev.succ ?_
  by_cases g1 : wv (bt s ((st + i : Nat) : Int)) b < 0
  ·refine Late.step (g := fun _ => some ((st + i : Nat) : Int)) hw.late (fun k hk => ?_) (Ev.const (by rw [scan, if_pos g1]))
   rw [k0 k hk, if_pos g1]
  ·by_cases g2 : wv (bt s ((st + i : Nat) : Int)) b = 0 ∧ st + i = st ∧ st = 1
   ·refine Late.step (g := fun _ => some ((st + i : Nat) : Int)) hw.late (fun k hk => ?_) (Ev.const (by rw [scan, if_neg g1, if_pos g2]))
    rw [k0 k hk, if_neg g1, if_pos g2]
   ·by_cases g3 : st + i = st + 1 ∧ bt s (st : Int) = 48
    ·refine Late.step (g := fun _ => some ((st + i : Nat) : Int)) hw.late (fun k hk => ?_) (Ev.const (by rw [scan, if_neg g1, if_neg g2, if_pos g3]))
     rw [k0 k hk, if_neg g1, if_neg g2, if_pos g3]
    ·have he : scan s b st (m + 1) (st + i) = scan s b st m (st + (i + 1)) := by rw [scan, if_neg g1, if_neg g2, if_neg g3]; rfl
     rw [he]
     refine Late.step hw.late (fun k hk => ?_) (ih (i + 1) (by clear e; omega))
     rw [k0 k hk, if_neg g1, if_neg g2, if_neg g3, hd2 (by clear e; omega)]
theorem body_size (s : ByteArray) : (bodyOf s).size = s.size - startOf s := by
 have := start_le s
 unfold bodyOf startOf
 by_cases h : bt s 0 = 45
 ·have h0 : 0 < s.size := by unfold startOf at this; rw [if_pos h] at this; omega
  rw [if_pos ⟨h0, h⟩, if_pos h, ByteArray.size_extract]; omega
 ·rw [if_neg (fun h' => h h'.2), if_neg h]; omega
theorem body_bt (s : ByteArray) (i : Nat) (hi : i < (bodyOf s).size) : bt (bodyOf s) (i : Int) = bt s ((startOf s + i : Nat) : Int) := by
 rw [body_size] at hi
 have := start_le s
 unfold bodyOf
 unfold startOf at hi this ⊢
 by_cases h : bt s 0 = 45
 ·rw [if_pos h] at hi this ⊢
  rw [if_pos ⟨by omega, h⟩]
  exact bt_extract s (by omega) (by omega)
 ·rw [if_neg h] at hi this ⊢
  rw [if_neg (fun h' => h h'.2), Nat.zero_add]
theorem trimPrefix (s : ByteArray) : strings_TrimPrefix.f s (⟨#[45]⟩ : ByteArray) = some (bodyOf s) := by
 unfold strings_TrimPrefix.f stringslite_TrimPrefix.f stringslite_HasPrefix.f bodyOf
 have e : ((⟨#[45]⟩ : ByteArray).size : Int) = 1 := rfl
 rw [e]
 by_cases h0 : 0 < s.size
 ·rw [if_pos (by omega), if_pos (by decide), if_pos (by omega), Option.bind_some]
  have hx : ((s.extract 0 (1 : Int).toNat).toList == (⟨#[45]⟩ : ByteArray).toList) = decide (bt s 0 = 45) := by
   have h1 : s.extract 0 1 = ⟨#[s[0]'h0]⟩ := by
    apply ByteArray.ext
    apply Array.ext
    ·show (s.extract 0 1).size = 1
     rw [ByteArray.size_extract]; omega
    ·intro i h1 h2
     have : i = 0 := by simp at h2; omega
     subst this
     exact ByteArray.getElem_extract (i := 0) (b := s) (start := 0) (stop := 1) (by rw [ByteArray.size_extract]; omega)
   show ((s.extract 0 1).toList == _) = _
   rw [h1]
   have h2 : (⟨#[s[0]'h0]⟩ : ByteArray).toList = [s[0]'h0] := ByteArray.toList_mk [s[0]'h0]
   have h3 : (⟨#[45]⟩ : ByteArray).toList = [45] := ByteArray.toList_mk [45]
   rw [h2, h3]
   have h4 : bt s 0 = ((s[0]'h0).toNat : Int) := by unfold bt; rw [dif_pos (by exact h0)]; rfl
   rw [h4]
   by_cases h5 : s[0]'h0 = 45
   ·rw [h5]; rfl
   ·have : ¬ ((s[0]'h0).toNat : Int) = 45 := fun h => h5 (UInt8.toNat_inj.1 (by simpa using (by omega : (s[0]'h0).toNat = 45)))
    rw [decide_eq_false this]
    simp [h5]
  rw [hx]
  by_cases h : bt s 0 = 45
  ·rw [decide_eq_true h, if_pos rfl, if_pos (by decide), if_pos (by omega), Option.bind_some, if_pos ⟨h0, h⟩]
   rfl
  ·rw [decide_eq_false h, if_neg (by decide), Option.bind_some, if_neg (fun h' => h h'.2)]
 ·rw [if_neg (by omega), Option.bind_some, if_neg (by decide), Option.bind_some, if_neg (fun h => h0 h.1)]
theorem wrong_ev (s : ByteArray) (b : Int) (hb : 2 ≤ b) (hb' : b ≤ 36) (hs : s.size < 1099511627776) : Ev (fun k => base_wrong.f k s b) (scan s b (startOf s) (s.size - startOf s) (startOf s)) := by
 have hst := start_le s
 have hst1 : startOf s ≤ 1 := by unfold startOf; split <;> omega
 have hsz := body_size s
 have h := wrong_loop s (bodyOf s) b hb hb' (startOf s) hs hsz hst (body_bt s) hst1 (s.size - startOf s) 0 (by omega)
 refine Ev.congr h fun k => ?_
 unfold base_wrong.f
 have e : wrap64 ((s.size : Int) - ((bodyOf s).size : Int)) = (startOf s : Int) := by rw [w64 (by omega) (by omega)]; omega
 rw [if_pos ⟨by clear e; omega, hb'⟩, trimPrefix, Option.bind_some, e]
end
end Go.Proofs.Ytokmpejgfkfmbaa.BM
end
section
namespace Go.Proofs.Ytokmpejgfkfmbaa.BM
open Go.RowKit Go.Proofs.YtokmpejgfkfmbaaW.PrintWords Go.Proofs.YtokmpejgfkfmbaaW.PrintLast Go.Proofs.YtokmpejgfkfmbaaW.PrintMore
open Go.Proofs.Ytokmpejgfkfmbaa.BA Go.Proofs.Ytokmpejgfkfmbaa.BB
theorem Ev.of_mono {α : Type} {f : Nat → Option α} (hm : ∀ k, LeO (f k) (f (k + 1))) {k : Nat} {r : α} (h : f k = some r) : Ev f r := by
 refine ⟨k, fun j hj => ?_⟩
 obtain ⟨d, rfl⟩ : ∃ d, j = k + d := ⟨j - k, by omega⟩
 clear hj
 induction d with
 | zero => exact h
 | succ d ih => exact hm _ _ ih
theorem awake_at : w19awake.f 64 = some true := by decide +kernel
theorem awake_ev : Ev (fun k => w19awake.f k) true := Ev.of_mono (fun k => w19awake.mono k) awake_at
theorem samelimbs_loop (l : List Int) (hl : l.length < 1099511627776) : ∀ (m i : Nat), i + m = l.length → Ev (fun k => rkSameLimbs.l0 k l l i) true := by
 intro m
 induction m with
 | zero =>
  intro i hi
  refine Ev.succ (Ev.congr (Ev.pure _) fun k => ?_)
  rw [rkSameLimbs.l0, if_neg (by omega)]
 | succ m ih =>
  intro i hi
  refine Ev.succ (Ev.congr (ih (i + 1) (by omega)) fun k => ?_)
  have e : wrap64 ((i : Int) + 1) = ((i + 1 : Nat) : Int) := by rw [w64 (by omega) (by omega)]; omega
  have c : (i : Int) < (l.length : Int) := by clear e; omega
  rw [rkSameLimbs.l0, if_pos c, if_pos (Int.natCast_nonneg _), if_pos c, if_pos rfl, e]
theorem sameint_ev (n : Bool) (l : List Int) (hl : l.length < 1099511627776) : Ev (fun k => rkSameInt.f k n l n l) true := by
 refine Ev.congr (Ev.bind (g := fun _ t => some t) (samelimbs_loop l hl l.length 0 (by omega)) (Ev.pure _)) fun k => ?_
 unfold rkSameInt.f rkSameLimbs.f
 rw [if_pos (by simp), if_pos rfl]
 rfl
theorem j0_ev (s : ByteArray) (b : Int) (n : Bool) (l : List Int) (f at_ : Int) (hl : l.length < 1099511627776) (h1 : Ev (fun k => base_Parse.f k s b) (n, l, f, at_)) (h2 : Ev (fun k => r19Parse.f k s b) (n, l, f, at_)) :
  Ev (fun k => w19BaseParses.j0 k s b false) true := by
 refine Ev.succ (Late.step (g := fun _ => some true) (h1.late.and (h2.late.and ((sameint_ev n l hl).late.and awake_ev.late))) (fun k hk => ?_) (Ev.pure _))
 obtain ⟨k1, k2, k3, k4⟩ := hk
 rw [w19BaseParses.j0, if_neg (by decide), k1, Option.bind_some, k2, Option.bind_some]
 show (rkSameInt.f k n l n l).bind _ = _
 rw [k3, Option.bind_some, if_pos rfl, if_pos (by simp), k4, Option.bind_some]
theorem may_eq (b : Int) : base_may.f b = r19may.f b := rfl
theorem may_true {b : Int} (h1 : 2 ≤ b) (h2 : b ≤ 36) : r19may.f b = some true := by unfold r19may.f; rw [if_pos h1, decide_eq_true h2]
theorem may_false {b : Int} (h : ¬ (2 ≤ b ∧ b ≤ 36)) : r19may.f b = some false := by
 unfold r19may.f
 by_cases h1 : b ≥ 2
 ·rw [if_pos h1, decide_eq_false (by omega)]
 ·rw [if_neg h1]
theorem parse_same (s : ByteArray) (b : Int) (hs : s.size ≤ 3000 ∨ 1048576 < s.size) : ∃ n l f a, l.length < 1099511627776 ∧ Ev (fun k => base_Parse.f k s b) (n, l, f, a) ∧ Ev (fun k => r19Parse.f k s b) (n, l, f, a) := by
 by_cases hb : 2 ≤ b ∧ b ≤ 36
 ·have hm1 := may_true hb.1 hb.2
  have hm2 : base_may.f b = some true := hm1
  rcases hs with hs | hs
  ·have c1 : ¬ (s.size : Int) > 1048576 := by omega
   have c2 : ¬ (s.size : Int) > 262145 := by omega
   have hw1 := wrong_ev s b hb.1 hb.2 (by omega)
   have hw2 := ref_wrong_ev s b hb.1 hb.2 (by omega)
   have hst := start_le s
   by_cases h0 : scan s b (startOf s) (s.size - startOf s) (startOf s) ≥ 0
   ·refine ⟨false, [], 9, scan s b (startOf s) (s.size - startOf s) (startOf s), by simp, ?_, ?_⟩
    ·refine Late.step (g := fun _ => some (false, ([] : List Int), 9, scan s b (startOf s) (s.size - startOf s) (startOf s))) hw1.late (fun k hk => ?_) (Ev.pure _)
     have hk' : base_wrong.f k s b = some (scan s b (startOf s) (s.size - startOf s) (startOf s)) := hk
     unfold base_Parse.f
     rw [hm2, Option.bind_some, if_pos rfl, if_neg c1, hk', Option.bind_some, if_pos h0]
    ·refine Late.step (g := fun _ => some (false, ([] : List Int), 9, scan s b (startOf s) (s.size - startOf s) (startOf s))) hw2.late (fun k hk => ?_) (Ev.pure _)
     have hk' : r19Wrong.f k s b = some (scan s b (startOf s) (s.size - startOf s) (startOf s)) := hk
     unfold r19Parse.f
     rw [hm1, Option.bind_some, if_pos rfl, if_neg c1, hk', Option.bind_some, if_pos h0]
   ·obtain ⟨hne, hg⟩ := scan_ok _ _ (by omega : scan s b (startOf s) (s.size - startOf s) (startOf s) < 0) (by omega)
    have hbs := body_size s
    have hb0 : 0 < (bodyOf s).size := by omega
    obtain ⟨l1, hr1, hc1⟩ := bigRead_ev s b hb.1 hb.2 hb0 (by omega) (fun i hi => by rw [body_bt s i hi]; exact hg _ (by omega) (by omega))
    obtain ⟨l2, hr2, hc2⟩ := parse0_ev s b hb.1 hb.2 (startOf s) rfl (by omega) (by omega) hg
    have he : D b (fun i => wv (bt (bodyOf s) i) b) (bodyOf s).size = D b (fun i => wv (bt s ((startOf s + i : Nat) : Int)) b) (s.size - startOf s) := by
     rw [← hbs]
     exact D_congr (fun j hj => by show wv _ b = wv _ b; rw [body_bt s j hj])
    rw [he] at hc1
    have := Can_unique (by omega) hc1 hc2
    subst this
    have hlen : l1.length ≤ s.size - startOf s := by
     refine Can_len (by omega) hc2 ?_
     have h1 := D_lt (b := b) (g := fun i => wv (bt s ((startOf s + i : Nat) : Int)) b) (t := s.size - startOf s) (by omega) (fun j _ => wv_lt _ b (by omega))
     have h2 := pow_mono (show 0 ≤ b by omega) (show b ≤ 18446744073709551616 by omega) (s.size - startOf s)
     exact Int.lt_of_lt_of_le h1 h2
    refine ⟨(bt s 0 == 45) && decide (0 < l1.length), l1, 0, 0, by omega, ?_, ?_⟩
    ·refine Late.step (g := fun _ => some ((bt s 0 == 45) && decide (0 < l1.length), l1, 0, 0)) (hw1.late.and hr1.late) (fun k hk => ?_) (Ev.pure _)
     have hk1 : base_wrong.f k s b = some (scan s b (startOf s) (s.size - startOf s) (startOf s)) := hk.1
     have hk2 : bigRead.f k s b = some ((bt s 0 == 45) && decide (0 < l1.length), l1, true) := hk.2
     unfold base_Parse.f
     rw [hm2, Option.bind_some, if_pos rfl, if_neg c1, hk1, Option.bind_some, if_neg h0, if_neg c2, hk2, Option.bind_some, if_pos rfl]
    ·obtain ⟨z, hz, hcz, _⟩ := whole_ev (a := 0) (by omega) (by omega)
     have hz0 := Can_zero (by omega) hcz
     subst hz0
     refine Late.step (g := fun _ => some ((bt s 0 == 45) && decide (0 < l1.length), l1, 0, 0)) (hw2.late.and (hz.late.and hr2.late)) (fun k hk => ?_) (Ev.pure _)
     have hk1 : r19Wrong.f k s b = some (scan s b (startOf s) (s.size - startOf s) (startOf s)) := hk.1
     have hk2 : r00Whole.f k 0 = some (false, [], 0) := hk.2.1
     have hk3 : r19Parse.l0 k s b 0 false [] 0 = some ((bt s 0 == 45) && decide (0 < l1.length), l1, 0, 0) := hk.2.2
     unfold r19Parse.f
     rw [hm1, Option.bind_some, if_pos rfl, if_neg c1, hk1, Option.bind_some, if_neg h0, hk2, Option.bind_some, hk3]
  ·have c1 : (s.size : Int) > 1048576 := by omega
   refine ⟨false, [], 3, 0, by simp, Ev.congr (Ev.pure _) fun k => ?_, Ev.congr (Ev.pure _) fun k => ?_⟩
   ·unfold base_Parse.f
    rw [hm2, Option.bind_some, if_pos rfl, if_pos c1]
   ·unfold r19Parse.f
    rw [hm1, Option.bind_some, if_pos rfl, if_pos c1]
 ·have hm1 := may_false hb
  have hm2 : base_may.f b = some false := hm1
  refine ⟨false, [], 2, 0, by simp, Ev.congr (Ev.pure _) fun k => ?_, Ev.congr (Ev.pure _) fun k => ?_⟩
  ·unfold base_Parse.f
   rw [hm2, Option.bind_some, if_neg (by decide)]
  ·unfold r19Parse.f
   rw [hm1, Option.bind_some, if_neg (by decide)]
end Go.Proofs.Ytokmpejgfkfmbaa.BM
namespace Go.Proofs.Ytokmpejgfkfmbaa.Pure
open Go.RowKit Go.Proofs.Ytokmpejgfkfmbaa.BB Go.Proofs.Ytokmpejgfkfmbaa.BM
theorem BaseParses : w19BaseParses.Pure := by
 intro a0 a1 _ _
 refine Ev.ex (f := fun k => w19BaseParses.f k a0 a1) ?_
 have go : a0.size ≤ 3000 ∨ 1048576 < a0.size → Ev (fun k => w19BaseParses.j0 k a0 a1 false) true := by
  intro h
  obtain ⟨n, l, f, a, hl, h1, h2⟩ := parse_same a0 a1 h
  exact j0_ev a0 a1 n l f a hl h1 h2
 by_cases h1 : (a0.size : Int) > 3000
 ·by_cases h2 : (a0.size : Int) ≤ 1048576
  ·refine Ev.congr (g := fun k => w19BaseParses.j0 k a0 a1 true) (Ev.succ (Late.step (g := fun _ => some true) awake_ev.late (fun k hk => ?_) (Ev.pure _))) fun k => ?_
   ·have hk' : w19awake.f k = some true := hk
    rw [w19BaseParses.j0, if_pos rfl, hk', Option.bind_some]
   ·unfold w19BaseParses.f
    rw [if_pos h1, decide_eq_true h2]
  ·refine Ev.congr (go (.inr (by omega))) fun k => ?_
   unfold w19BaseParses.f
   rw [if_pos h1, decide_eq_false h2]
 ·refine Ev.congr (go (.inl (by omega))) fun k => ?_
  unfold w19BaseParses.f
  rw [if_neg h1]
end Go.Proofs.Ytokmpejgfkfmbaa.Pure
end

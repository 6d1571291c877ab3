/- Part of the proof that a number of at most 40 limbs is at least the base to the power of its digits less one, and below that of its digits; its digits are those of its text. -/
import Derived.Test.YtbmddlldadbfnaaCC5
section
namespace Go.Proofs.Ytbmddlldadbfnaa.BM
open Go.RowKit Go.Proofs.YtbmddlldadbfnaaW.PrintWords Go.Proofs.YtbmddlldadbfnaaW.PrintLast Go.Proofs.YtbmddlldadbfnaaW.PrintMore
open Go.Proofs.Ytbmddlldadbfnaa.BA
def outOf (neg : Bool) (ds : List Int) : ByteArray := strOfNums ((ds.map dgt ++ (if neg = true then [45] else [])).reverse)
structure Inv (b n : Int) (ds : List Int) (M : Int) : Prop where
 dig : Dig b ds
 val : V b ds + b ^ ds.length * M = n
 top : M = 0 → Top ds
 pos : 0 ≤ M
theorem Inv.len {b n : Int} {ds : List Int} {M : Int} (h : Inv b n ds M) (hb : 2 ≤ b) {L : Nat} (hn : n < b ^ L) (hM : 0 < M) : ds.length < L := by
 rcases Nat.lt_or_ge ds.length L with h1 | h1
 ·exact h1
 ·exfalso
  have h2 := pow_le' (show 1 ≤ b by omega) h1
  have h3 := Int.mul_le_mul_of_nonneg_left (show 1 ≤ M by omega) (Int.le_of_lt (pow_pos' (show 0 < b by omega) ds.length))
  have h4 := V_nonneg (show 0 < b by omega) h.dig
  have h5 := h.val
  omega
theorem Inv.can {b n : Int} {ds : List Int} (h : Inv b n ds 0) : Can b ds n := ⟨⟨h.dig, by have := h.val; omega⟩, h.top rfl⟩
theorem Inv.push {b n : Int} {ds : List Int} {M : Int} (h : Inv b n ds M) (hb : 2 ≤ b) (hM : 0 < M) : Inv b n (ds ++ [M % b]) (M / b) := by
 have h0 := Int.emod_nonneg M (show b ≠ 0 by omega)
 have h1 := Int.emod_lt_of_pos M (show 0 < b by omega)
 have he := Int.mul_ediv_add_emod M b
 refine ⟨Dig_snoc h.dig h0 h1, ?_, fun hz => ?_, Int.ediv_nonneg (by omega) (by omega)⟩
 ·rw [V_snoc, List.length_append, List.length_singleton, Int.pow_succ, ← h.val]
  conv => rhs; rw [← he]
  grind
 ·intro hne
  have hg : (ds ++ [M % b]).getLast hne = M % b := by simp
  rw [hg]
  rw [hz] at he
  omega
theorem l1_push (k : Nat) (b : Int) (neg : Bool) (c e : Int) (x7 q : List Int) (r : Int) (j : Nat) (hb : 2 ≤ b) (hb' : b ≤ 36) (hr0 : 0 ≤ r) (hr : r < 18446744073709551616) (hj : (j : Int) < e) (he : e ≤ 64) (h7 : x7.length < 140737488355328) (hq : ¬ (q = [] ∧ r = 0)) :
  bIText.l1 (k + 1) b neg c e x7 q r e j = bIText.l1 k b neg c e (x7 ++ [dgt (r % b)]) q (r / b) e ((j + 1 : Nat) : Int) := by
 have hm0 := Int.emod_nonneg r (show b ≠ 0 by omega)
 have hm1 := Int.emod_lt_of_pos r (show 0 < b by omega)
 have e1 : IntKind.u64.wrap b = b := u64 (by omega) (by omega)
 have e2 : Int.tmod r b = r % b := Int.tmod_eq_emod_of_nonneg hr0
 have e3 : IntKind.u64.wrap (Int.tdiv r b) = r / b := by
  rw [Int.tdiv_eq_ediv_of_nonneg hr0]
  have := Int.ediv_le_self b hr0
  exact u64 (Int.ediv_nonneg hr0 (by omega)) (by omega)
 have e4 : wrap64 ((j : Int) + 1) = ((j + 1 : Nat) : Int) := by rw [w64 (by omega) (by omega)]; omega
 have e5 : bt (⟨#[48, 49, 50, 51, 52, 53, 54, 55, 56, 57, 97, 98, 99, 100, 101, 102, 103, 104, 105, 106, 107, 108, 109, 110, 111, 112, 113, 114, 115, 116, 117, 118, 119, 120, 121, 122]⟩ : ByteArray) (r % b) = dgt (r % b) := by
  have h := allDigits_bt ⟨(r % b).toNat, by omega⟩
  have ht : (((r % b).toNat : Nat) : Int) = r % b := by omega
  simp only [ht] at h
  exact h
 have n1 : ¬ b = 0 := by omega
 have n2 : r % b < 36 := by omega
 rw [bIText.l1, if_pos hj, e1, e2, e3, e4, e5]
 by_cases h1 : (q.length : Int) = 0
 ·have h2 : ¬ r = 0 := fun h => hq ⟨List.eq_nil_of_length_eq_zero (Int.ofNat_inj.1 h1), h⟩
  rw [if_pos h1, if_neg h2, if_neg n1, if_pos hm0, if_pos n2, if_pos h7]
 ·rw [if_neg h1, if_neg n1, if_pos hm0, if_pos n2, if_pos h7]
theorem text_alg (r B Vq b : Int) (hb : 0 < b) : (r + B * b * Vq) % b = r % b ∧ (r + B * b * Vq) / b = r / b + B * Vq := by
 have e : r + B * b * Vq = r + b * (B * Vq) := by grind
 rw [e]
 exact ⟨Int.add_mul_emod_self_left _ _ _, Int.add_mul_ediv_left _ _ (by omega)⟩
theorem text_l1 {b n c : Int} {e L : Nat} (hb : 2 ≤ b) (hb' : b ≤ 36) (neg : Bool) (he : e ≤ 64) (hn : n < b ^ L) (hL : L < 100000000000) (hbe : b ^ e < 18446744073709551616) (q : List Int) (mq : Int) (hq : Can 18446744073709551616 q mq)
  (K : ∀ ds, Inv b n ds mq → ∃ ds', Can b ds' n ∧ Ev (fun k => bIText.l0 k b neg c e (ds.map dgt) q) (outOf neg ds')) :
  ∀ (m j : Nat) (ds : List Int) (r : Int), j + m = e → 0 ≤ r → r < b ^ m → Inv b n ds (r + b ^ m * mq) → ∃ ds', Can b ds' n ∧ Ev (fun k => bIText.l1 k b neg c e (ds.map dgt) q r e j) (outOf neg ds') := by
 have hmq := Can_nonneg (by omega) hq
 intro m
 induction m with
 | zero =>
  intro j ds r hj hr0 hr hi
  have : r = 0 := by simp at hr; omega
  subst this
  rw [Int.pow_zero, Int.one_mul, Int.zero_add] at hi
  obtain ⟨ds', hc, hev⟩ := K ds hi
  refine ⟨ds', hc, Ev.succ (Ev.congr hev fun k => ?_)⟩
  rw [bIText.l1, if_neg (by omega)]
 | succ m ih =>
  intro j ds r hj hr0 hr hi
  have hr64 : r < 18446744073709551616 := Int.lt_of_lt_of_le hr (Int.le_trans (pow_le' (by omega) (show m + 1 ≤ e by omega)) (Int.le_of_lt hbe))
  by_cases hz : q = [] ∧ r = 0
  ·obtain ⟨h1, h2⟩ := hz
   subst h1
   subst h2
   have hm0 : mq = 0 := by rw [← hq.1.2]; rfl
   subst hm0
   rw [Int.mul_zero, Int.zero_add] at hi
   obtain ⟨ds', hc, hev⟩ := K ds hi
   refine ⟨ds', hc, Ev.succ (Ev.congr hev fun k => ?_)⟩
   rw [bIText.l1, if_pos (by omega), if_pos (show ((([] : List Int).length : Nat) : Int) = 0 from rfl), if_pos rfl]
  ·have hbm := pow_pos' (show 0 < b by omega) (m + 1)
   have hM : 0 < r + b ^ (m + 1) * mq := by
    by_cases h1 : q = []
    ·have : r ≠ 0 := fun h => hz ⟨h1, h⟩
     have := Int.mul_nonneg (Int.le_of_lt hbm) hmq
     omega
    ·have h2 := Can_pos (by omega) hq h1
     have := Int.mul_pos hbm h2
     omega
   have hlen := hi.len hb hn hM
   have hpush := hi.push hb hM
   rw [Int.pow_succ] at hpush
   obtain ⟨a1, a2⟩ := text_alg r (b ^ m) mq b (by omega)
   rw [a1, a2] at hpush
   obtain ⟨ds', hc, hev⟩ := ih (j + 1) (ds ++ [r % b]) (r / b) (by omega) (Int.ediv_nonneg hr0 (by omega)) (by rw [Int.ediv_lt_iff_lt_mul (by omega), ← Int.pow_succ]; exact hr) hpush
   refine ⟨ds', hc, Ev.succ (Ev.congr hev fun k => ?_)⟩
   rw [l1_push k b neg c e (ds.map dgt) q r j hb hb' hr0 hr64 (by omega) (by omega) (by rw [List.length_map]; omega) hz, List.map_append]
   rfl
theorem text_l0 {b n : Int} {e L : Nat} (hb : 2 ≤ b) (hb' : b ≤ 36) (neg : Bool) (he1 : 1 ≤ e) (he : e ≤ 64) (hn : n < b ^ L) (hL : L < 100000000000) (hbe : b ^ e < 18446744073709551616) :
  ∀ (f : Nat) (q : List Int) (mq : Int), mq.toNat ≤ f → q.length < 100000000 → Can 18446744073709551616 q mq → ∀ ds, Inv b n ds mq → ∃ ds', Can b ds' n ∧ Ev (fun k => bIText.l0 k b neg (b ^ e) e (ds.map dgt) q) (outOf neg ds') := by
 have hfin : ∀ ds, Inv b n ds 0 → ∃ ds', Can b ds' n ∧ Ev (fun k => bIText.l0 k b neg (b ^ e) e (ds.map dgt) []) (outOf neg ds') := by
  intro ds hi
  have hc := hi.can
  have hlen := Can_len (by omega) hc hn
  refine ⟨ds, hc, ?_⟩
  cases neg
  ·have hrev := rev_ev (ds.map dgt) (by rw [List.length_map]; omega)
   refine Ev.succ (Late.step (g := fun _ => some (outOf false ds)) hrev.late (fun k hk => ?_) (Ev.pure _))
   have hk' : sRev.f k (ds.map dgt) = some (ds.map dgt).reverse := hk
   rw [bIText.l0, if_neg (by simp), if_neg (by decide), hk', Option.bind_some]
   unfold outOf
   rw [if_neg (by decide), List.append_nil]
  ·have hrev := rev_ev (ds.map dgt ++ [45]) (by simp; omega)
   refine Ev.succ (Late.step (g := fun _ => some (outOf true ds)) hrev.late (fun k hk => ?_) (Ev.pure _))
   have hk' : sRev.f k (ds.map dgt ++ [45]) = some (ds.map dgt ++ [45]).reverse := hk
   rw [bIText.l0, if_neg (by simp), if_pos rfl, if_pos (by rw [List.length_map]; omega), hk', Option.bind_some]
   unfold outOf
   rw [if_pos rfl]
 have hc2 : 2 ≤ b ^ e := by
  have := pow_le' (show 1 ≤ b by omega) he1
  rw [Int.pow_one] at this
  omega
 intro f
 induction f with
 | zero =>
  intro q mq hf hql hq ds hi
  have h0 := Can_nonneg (by omega) hq
  have : mq = 0 := by omega
  subst this
  rw [Can_zero (by omega) hq]
  exact hfin ds hi
 | succ f ih =>
  intro q mq hf hql hq ds hi
  by_cases h1 : q = []
  ·subst h1
   have : mq = 0 := by rw [← hq.1.2]; rfl
   subst this
   exact hfin ds hi
  ·have hpos := Can_pos (by omega) hq h1
   obtain ⟨t, ht, hct⟩ := short_ev hq hql (show 0 < b ^ e by omega) hbe
   have hdiv : mq / b ^ e < mq := by
    rw [Int.ediv_lt_iff_lt_mul (by omega)]
    have := Int.mul_le_mul_of_nonneg_left hc2 (show 0 ≤ mq by omega)
    omega
   have hdiv0 : 0 ≤ mq / b ^ e := Int.ediv_nonneg (by omega) (by omega)
   have htl : t.length ≤ q.length := by
    refine Can_len (by omega) hct ?_
    have h2 := V_lt (show (0 : Int) < 18446744073709551616 by omega) hq.1.1
    rw [hq.1.2] at h2
    omega
   have hmod0 := Int.emod_nonneg mq (show b ^ e ≠ 0 by omega)
   have hmod := Int.emod_lt_of_pos mq (show 0 < b ^ e by omega)
   have hed : mq % b ^ e + b ^ e * (mq / b ^ e) = mq := Int.emod_add_mul_ediv mq (b ^ e)
   obtain ⟨ds', hc, hev⟩ := text_l1 (c := b ^ e) hb hb' neg he hn hL hbe t (mq / b ^ e) hct (ih t (mq / b ^ e) (by omega) (by omega) hct) e 0 ds (mq % b ^ e) (by omega) hmod0 hmod (by rw [hed]; exact hi)
   refine ⟨ds', hc, Ev.succ (Late.step ht.late (fun k hk => ?_) hev)⟩
   have hk' : big_short.f k q (b ^ e) = some (t, mq % b ^ e) := hk
   have hlp : (q.length : Int) > 0 := by have := List.length_pos_iff.2 h1; omega
   rw [bIText.l0, if_pos hlp, hk', Option.bind_some]
   rfl
theorem text_ev {l : List Int} {n b : Int} (h : Can 18446744073709551616 l n) (hl : l.length < 100000000) (hne : l ≠ []) (hb : 2 ≤ b) (hb' : b ≤ 36) (neg : Bool) :
  ∃ ds, Can b ds n ∧ Ev (fun k => bIText.f k l b neg) (outOf neg ds) := by
 obtain ⟨e, h1, h2, h3, _, h5⟩ := chunk_ev b hb hb'
 have hn : n < b ^ (64 * l.length) := by
  have h6 := V_lt (show (0 : Int) < 18446744073709551616 by omega) h.1.1
  rw [h.1.2] at h6
  have h7 : (18446744073709551616 : Int) ≤ b ^ 64 := pow_mono (a := 2) (by omega) hb 64
  have h8 := pow_mono (show (0 : Int) ≤ 18446744073709551616 by omega) h7 l.length
  rw [← Int.pow_mul] at h8
  exact Int.lt_of_lt_of_le h6 h8
 obtain ⟨ds, hc, hev⟩ := text_l0 (n := n) hb hb' neg h1 h2 hn (by omega) h3 n.toNat l n (Nat.le_refl _) hl h [] ⟨Dig_nil _, by simp [V], fun _ h => absurd rfl h, Can_nonneg (by omega) h⟩
 refine ⟨ds, hc, Late.step (h5.late) (fun k hk => ?_) hev⟩
 have hk' : big_chunk.f k b = some (b ^ e, (e : Int)) := hk
 have hlp : ¬ (l.length : Int) = 0 := by have := List.length_pos_iff.2 hne; omega
 unfold bIText.f
 rw [if_neg hlp, hk', Option.bind_some]
 rfl
def textOf (neg : Bool) (ds : List Int) : ByteArray := if ds = [] then (⟨#[48]⟩ : ByteArray) else outOf neg ds
theorem right_can {l : List Int} {n : Int} (h : Can 18446744073709551616 l n) (hl : l.length ≤ 4096) (neg : Bool) : limb_Right.f neg l = some (!(neg && decide (l = []))) := by
 unfold limb_Right.f
 by_cases h0 : l = []
 ·subst h0
  cases neg <;> simp
 ·have hp := List.length_pos_iff.2 h0
  have ht := h.2 h0
  rw [getLast_rd] at ht
  have e : wrap64 ((l.length : Int) - 1) = (l.length : Int) - 1 := w64 (by omega) (by omega)
  have c1 : ¬ (l.length : Int) = 0 := by clear e; omega
  have c2 : (l.length : Int) > 0 := by clear e; omega
  have c3 : (l.length : Int) ≤ 4096 := by clear e; omega
  have c4 : 0 ≤ (l.length : Int) - 1 := by clear e; omega
  have c5 : (l.length : Int) - 1 < (l.length : Int) := by clear e; omega
  rw [if_neg c1, if_pos c2, if_pos c3, e, if_pos c4, if_pos c5, decide_eq_false h0]
  simp [ht]
theorem print_ev {l : List Int} {n b : Int} (h : Can 18446744073709551616 l n) (hl : l.length ≤ 4096) (hb : 2 ≤ b) (hb' : b ≤ 36) (neg : Bool) (hneg : l = [] → neg = false) :
  ∃ ds, Can b ds n ∧ Ev (fun k => base_Print.f k neg l b) (textOf neg ds, 0) := by
 have hright := right_can h hl neg
 have hr : (!(neg && decide (l = []))) = true := by
  by_cases h0 : l = []
  ·rw [hneg h0]; rfl
  ·simp [h0]
 rw [hr] at hright
 have hmay : base_may.f b = some true := may_true hb hb'
 have hint := exactInt_ev h (by omega) neg
 by_cases h0 : l = []
 ·subst h0
  have hn : n = 0 := by rw [← h.1.2]; rfl
  subst hn
  refine ⟨[], Can_nil b, Late.step (g := fun _ => some (textOf neg [], 0)) hint.late (fun k hk => ?_) (Ev.pure _)⟩
  have hk' : exact_Int.f k neg [] = some (neg && decide (0 < ([] : List Int).length), []) := hk
  unfold base_Print.f
  rw [hright, Option.bind_some, if_pos rfl, hmay, Option.bind_some, if_pos rfl, hk', Option.bind_some]
  rfl
 ·have hp := List.length_pos_iff.2 h0
  have hsg : (neg && decide (0 < l.length)) = neg := by simp [hp]
  rw [hsg] at hint
  obtain ⟨ds, hc, hev⟩ := text_ev h (by omega) h0 hb hb' neg
  have hne : ds ≠ [] := by
   intro hd
   subst hd
   have : n = 0 := by rw [← hc.1.2]; rfl
   have := Can_pos (by omega) h h0
   omega
  refine ⟨ds, hc, Late.step (g := fun _ => some (textOf neg ds, 0)) (hint.late.and hev.late) (fun k hk => ?_) (Ev.pure _)⟩
  have k1 : exact_Int.f k neg l = some (neg, l) := hk.1
  have k2 : bIText.f k l b neg = some (outOf neg ds) := hk.2
  unfold base_Print.f
  rw [hright, Option.bind_some, if_pos rfl, hmay, Option.bind_some, if_pos rfl, k1, Option.bind_some]
  show (bIText.f k l b neg).bind _ = _
  rw [k2, Option.bind_some]
  unfold textOf
  rw [if_neg hne]
end Go.Proofs.Ytbmddlldadbfnaa.BM
end
section
namespace Go.Proofs.Ytbmddlldadbfnaa.BM
open Go.RowKit Go.Proofs.YtbmddlldadbfnaaW.PrintWords Go.Proofs.YtbmddlldadbfnaaW.PrintLast Go.Proofs.YtbmddlldadbfnaaW.PrintMore
open Go.Proofs.Ytbmddlldadbfnaa.BA
theorem dgt_range {d : Int} (h0 : 0 ≤ d) (h1 : d < 36) : 48 ≤ dgt d ∧ dgt d < 128 := by unfold dgt; split <;> omega
theorem bt_nums (xs : List Int) (h : ∀ x ∈ xs, 0 ≤ x ∧ x < 256) (i : Nat) (hi : i < xs.length) : bt (strOfNums xs) (i : Int) = rd xs (i : Int) := by
 have hsz : (strOfNums xs).size = xs.length := by simp [strOfNums, ByteArray.size]
 unfold bt
 have e : ((i : Nat) : Int).toNat = i := by omega
 simp only [e]
 rw [dif_pos (by omega), rd_nat xs hi]
 have hx := h _ (List.getElem_mem hi)
 have : (strOfNums xs)[i]'(by omega) = UInt8.ofNat (xs[i]'hi).toNat := by simp [strOfNums, ByteArray.getElem_eq_getElem_data]
 rw [this, UInt8.toNat_ofNat']
 omega
theorem nums_size (xs : List Int) : (strOfNums xs).size = xs.length := by simp [strOfNums, ByteArray.size]
end Go.Proofs.Ytbmddlldadbfnaa.BM
end
section
namespace Go.Proofs.Ytbmddlldadbfnaa.BM
open Go.RowKit Go.Proofs.YtbmddlldadbfnaaW.PrintWords Go.Proofs.YtbmddlldadbfnaaW.PrintLast Go.Proofs.YtbmddlldadbfnaaW.PrintMore
open Go.Proofs.Ytbmddlldadbfnaa.BA
structure Good (b : Int) (neg : Bool) (ds : List Int) : Prop where
 dig : Dig b ds
 ne : ds ≠ []
 top : 2 ≤ ds.length → Top ds
 sign : neg = true → Top ds
theorem out_size (neg : Bool) (ds : List Int) : (outOf neg ds).size = ds.length + (if neg = true then 1 else 0) := by
 unfold outOf
 rw [nums_size]
 cases neg <;> simp
theorem out_bt {b : Int} (hb' : b ≤ 36) {neg : Bool} {ds : List Int} (hd : Dig b ds) (j : Nat) (hj : j < ds.length) :
  bt (outOf neg ds) (((if neg = true then 1 else 0) + j : Nat) : Int) = dgt (rd ds ((ds.length - 1 - j : Nat) : Int)) := by
 have hall : ∀ x ∈ (ds.map dgt ++ (if neg = true then [45] else [])).reverse, 0 ≤ x ∧ x < 256 := by
  intro x hx
  rw [List.mem_reverse, List.mem_append] at hx
  rcases hx with hx | hx
  ·obtain ⟨d, hd', rfl⟩ := List.mem_map.1 hx
   have := hd d hd'
   have := dgt_range this.1 (by omega)
   omega
  ·cases neg
   ·simp at hx
   ·simp at hx; omega
 unfold outOf
 rw [bt_nums _ hall _ (by cases neg <;> simp <;> omega)]
 cases neg
 ·simp only [Bool.false_eq_true, if_false, List.append_nil, Nat.zero_add]
  rw [rd_nat _ (by simp; exact hj), List.getElem_reverse, rd_nat _ (by omega)]
  simp
 ·simp only [if_true, List.reverse_append, List.reverse_singleton]
  rw [rd_nat _ (by simp; omega), List.getElem_append_right (by simp), List.getElem_reverse, rd_nat _ (by omega)]
  simp
theorem out_sign {b : Int} (hb' : b ≤ 36) {neg : Bool} {ds : List Int} (hd : Dig b ds) (hne : ds ≠ []) : (bt (outOf neg ds) 0 == 45) = neg ∧ startOf (outOf neg ds) = (if neg = true then 1 else 0) := by
 have hp := List.length_pos_iff.2 hne
 cases neg
 ·have h := out_bt (neg := false) hb' hd 0 hp
  have hr := rd_dig hd (i := ((ds.length - 1 - 0 : Nat) : Int)) (by omega) (by omega)
  have h2 := dgt_range hr.1 (by omega)
  have h3 : bt (outOf false ds) 0 = dgt (rd ds ((ds.length - 1 - 0 : Nat) : Int)) := h
  refine ⟨beq_false_of_ne (by omega), ?_⟩
  unfold startOf
  rw [if_neg (by omega)]
  rfl
 ·have h : bt (outOf true ds) 0 = 45 := by
   unfold outOf
   simp only [if_true, List.reverse_append, List.reverse_singleton]
   have := bt_nums ([45] ++ (ds.map dgt).reverse) (by
    intro x hx
    rcases List.mem_append.1 hx with hx | hx
    ·simp at hx; omega
    ·rw [List.mem_reverse] at hx
     obtain ⟨d, hd', rfl⟩ := List.mem_map.1 hx
     have := hd d hd'
     have := dgt_range this.1 (by omega)
     omega) 0 (by simp)
   exact this
  refine ⟨by rw [h]; rfl, ?_⟩
  unfold startOf
  rw [if_pos h]
  rfl
end Go.Proofs.Ytbmddlldadbfnaa.BM
end
section
namespace Go.Proofs.Ytbmddlldadbfnaa.BM
open Go.RowKit Go.Proofs.YtbmddlldadbfnaaW.PrintWords Go.Proofs.YtbmddlldadbfnaaW.PrintLast Go.Proofs.YtbmddlldadbfnaaW.PrintMore
open Go.Proofs.Ytbmddlldadbfnaa.BA
theorem Good.zero {b : Int} {neg : Bool} {ds : List Int} (g : Good b neg ds) (hb : 2 ≤ b) (hv : V b ds = 0) : ds = [0] ∧ neg = false := by
 have ht : ¬ Top ds := fun ht => by
  have hc : Can b ds 0 := ⟨⟨g.dig, hv⟩, ht⟩
  exact g.ne (Can_zero (by omega) hc)
 have hl : ds.length < 2 := by
  rcases Nat.lt_or_ge ds.length 2 with h | h
  ·exact h
  ·exact absurd (g.top h) ht
 refine ⟨?_, ?_⟩
 ·match ds, g.ne, hl, hv with
  | [d], _, _, hv =>
   simp [V] at hv
   rw [hv]
 ·cases neg
  ·rfl
  ·exact absurd (g.sign rfl) ht
end Go.Proofs.Ytbmddlldadbfnaa.BM
end
section
namespace Go.Proofs.Ytbmddlldadbfnaa.BM
open Go.RowKit Go.Proofs.YtbmddlldadbfnaaW.PrintWords Go.Proofs.YtbmddlldadbfnaaW.PrintLast Go.Proofs.YtbmddlldadbfnaaW.PrintMore
open Go.Proofs.Ytbmddlldadbfnaa.BA Go.Proofs.Ytbmddlldadbfnaa.BB Go.Proofs.Ytbmddlldadbfnaa.BD
theorem of_f (a : Int) : ∃ b, w19of.f a = some b ∧ 2 ≤ b ∧ b ≤ 36 := by
 have hp : ∃ p, rkPick.f a 35 = some p ∧ 0 ≤ p ∧ p < 35 := by
  have ht : -35 < Int.tmod a 35 ∧ Int.tmod a 35 < 35 := by
   have h2 := Int.tmod_lt_of_pos a (show (0 : Int) < 35 by omega)
   have h3 := Int.lt_tmod_of_pos a (show (0 : Int) < 35 by omega)
   omega
  unfold rkPick.f
  rw [if_neg (by omega), if_neg (by omega)]
  by_cases h : Int.tmod a 35 < 0
  ·rw [if_pos h, w64 (by omega) (by omega)]
   exact ⟨_, rfl, by omega, by omega⟩
  ·rw [if_neg h]
   exact ⟨_, rfl, by omega, by omega⟩
 obtain ⟨p, hp, p0, p1⟩ := hp
 refine ⟨2 + p, ?_, by omega, by omega⟩
 unfold w19of.f
 rw [hp, Option.bind_some, w64 (by omega) (by omega)]
theorem whole_int_ev {l : List Int} (hd : Dig 18446744073709551616 l) (neg : Bool) : ∃ t n, Ev (fun k => rmWhole_Int.f k neg l 40) (neg && decide (0 < t.length), t) ∧ Can 18446744073709551616 t n ∧ t.length ≤ 40 := by
 have fin : ∀ (k : Nat) (t : List Int), (if neg = true then some (decide (0 < t.length), t) else some (false, t)) = some (neg && decide (0 < t.length), t) := by
  intro k t
  cases neg <;> rfl
 by_cases h : (l.length : Int) > 40
 ·obtain ⟨t, ht, hc, htl⟩ := nattrim_ev 18446744073709551616 (l := l.take 40) (n := V 18446744073709551616 (l.take 40)) (by rw [List.length_take]; omega) ⟨Dig_take hd 40, rfl⟩
  refine ⟨t, _, Late.step (g := fun _ => some (neg && decide (0 < t.length), t)) ht.late (fun k hk => ?_) (Ev.pure _), hc, by rw [List.length_take] at htl; omega⟩
  have hk' : r00NatTrim.f k (l.take (40 : Int).toNat) = some t := hk
  unfold rmWhole_Int.f
  rw [if_pos h, if_pos (by omega), if_pos (by omega), hk', Option.bind_some]
  exact fin k t
 ·obtain ⟨t, ht, hc, htl⟩ := nattrim_ev 18446744073709551616 (l := l) (n := V 18446744073709551616 l) (by omega) ⟨hd, rfl⟩
  refine ⟨t, _, Late.step (g := fun _ => some (neg && decide (0 < t.length), t)) ht.late (fun k hk => ?_) (Ev.pure _), hc, by omega⟩
  have hk' : r00NatTrim.f k l = some t := hk
  unfold rmWhole_Int.f
  rw [if_neg h, hk', Option.bind_some]
  exact fin k t
end Go.Proofs.Ytbmddlldadbfnaa.BM
end
section
namespace Go.Proofs.Ytbmddlldadbfnaa.BM
open Go.RowKit Go.Proofs.YtbmddlldadbfnaaW.PrintWords Go.Proofs.YtbmddlldadbfnaaW.PrintLast Go.Proofs.YtbmddlldadbfnaaW.PrintMore
open Go.Proofs.Ytbmddlldadbfnaa.BB
open Go.Proofs.Ytbmddlldadbfnaa.BE Go.Proofs.Ytbmddlldadbfnaa.BC
theorem bitsOf_spec {l : List Int} {n : Int} (h : Can 18446744073709551616 l n) (hl : l ≠ []) : ∃ m : Nat, bitsOf l = (m : Int) + 1 ∧ (2 : Int) ^ m ≤ n ∧ n < 2 ^ (m + 1) := by
 have h0 : 0 < l.length := List.length_pos_iff.2 hl
 obtain ⟨j, hj⟩ : ∃ j, l.length = j + 1 := ⟨l.length - 1, by omega⟩
 have hr := rd_dig h.1.1 (i := (l.length : Int) - 1) (by omega) (by omega)
 have ht := h.2 hl
 rw [getLast_rd] at ht
 obtain ⟨x, hx⟩ : ∃ x, x = rd l ((l.length : Int) - 1) := ⟨_, rfl⟩
 rw [← hx] at hr ht
 have hs := bitLen_spec x.toNat
 have hb1 : bitLen x.toNat ≠ 0 := by unfold bitLen; rw [if_neg (by omega)]; omega
 obtain ⟨c, hc⟩ : ∃ c, bitLen x.toNat = c + 1 := ⟨bitLen x.toNat - 1, by omega⟩
 rw [hc] at hs
 have hv : n = V 18446744073709551616 (l.take j) + 18446744073709551616 ^ j * x := by
  have := V_take 18446744073709551616 l (i := j) (by omega)
  rw [List.take_of_length_le (by omega), h.1.2, show (j : Int) = (l.length : Int) - 1 by omega, ← hx] at this
  exact this
 have hlo := V_nonneg (B := 18446744073709551616) (by omega) (Dig_take h.1.1 j)
 have hhi := V_lt (B := 18446744073709551616) (by omega) (Dig_take h.1.1 j)
 rw [show (l.take j).length = j by rw [List.length_take]; omega] at hhi
 have hp : (18446744073709551616 : Int) ^ j = 2 ^ (64 * j) := by rw [Int.pow_mul]; rfl
 have h1 : (2 : Int) ^ c ≤ x := by
  have := hs.2 (by omega)
  have h2 : ((2 ^ (c + 1 - 1) : Nat) : Int) ≤ (x.toNat : Int) := Int.ofNat_le.2 this
  rw [Int.natCast_pow, show c + 1 - 1 = c by omega] at h2
  have h3 : ((2 : Nat) : Int) = 2 := rfl
  rw [h3] at h2
  omega
 have h2 : x + 1 ≤ (2 : Int) ^ (c + 1) := by
  have := hs.1
  have h2 : (x.toNat : Int) < ((2 ^ (c + 1) : Nat) : Int) := Int.ofNat_lt.2 this
  rw [Int.natCast_pow] at h2
  have h3 : ((2 : Nat) : Int) = 2 := rfl
  rw [h3] at h2
  omega
 refine ⟨64 * j + c, ?_, ?_, ?_⟩
 ·unfold bitsOf
  rw [if_neg hl, ← hx, hc]
  omega
 ·rw [hv, hp, Int.pow_add]
  have := Int.mul_le_mul_of_nonneg_left h1 (Int.le_of_lt (pow_pos' (B := 2) (by omega) (64 * j)))
  omega
 ·rw [hv, hp, show 64 * j + c + 1 = 64 * j + (c + 1) by omega, Int.pow_add]
  rw [hp] at hhi
  have := Int.mul_le_mul_of_nonneg_left h2 (Int.le_of_lt (pow_pos' (B := 2) (by omega) (64 * j)))
  rw [Int.mul_add, Int.mul_one] at this
  omega
theorem bitsOf_mono {a b : List Int} {x y : Int} (ha : Can 18446744073709551616 a x) (hb : Can 18446744073709551616 b y) (h1 : a ≠ []) (h2 : b ≠ []) (h : x ≤ y) : bitsOf a ≤ bitsOf b := by
 obtain ⟨m, hm, h3, h4⟩ := bitsOf_spec ha h1
 obtain ⟨p, hp, h5, h6⟩ := bitsOf_spec hb h2
 have : m ≤ p := by
  refine Nat.le_of_not_lt fun hlt => ?_
  have := pow_le' (B := 2) (by omega) (show p + 1 ≤ m by omega)
  omega
 omega
theorem sign_ev {l : List Int} {n : Int} (h : Can 18446744073709551616 l n) (hb : l.length < 1073741824) (neg : Bool) (e : Int) : Ev (fun k => r00Num_Sign.f k neg l e) (if l = [] then 0 else if neg = true then -1 else 1) := by
 refine Late.step (zero_ev h hb neg e).late (fun k hk => ?_) (Ev.pure _)
 have hk' : r00Num_Zero.f k neg l e = some (decide (l = [])) := hk
 unfold r00Num_Sign.f
 rw [hk', Option.bind_some]
 by_cases hl : l = []
 ·rw [if_pos hl, if_pos (decide_eq_true hl)]
 ·rw [if_neg hl, if_neg (by simpa using hl)]
  cases neg <;> rfl
theorem cmp_loop {a b : List Int} (ha : Dig 18446744073709551616 a) (hb : Dig 18446744073709551616 b) (hl : a.length = b.length) (hs : a.length < 1099511627776) : ∀ (i : Nat), i ≤ a.length →
  Ev (fun k => r00NatCmp.l0 k a b ((i : Int) - 1)) (if V 18446744073709551616 (a.take i) < V 18446744073709551616 (b.take i) then -1 else if V 18446744073709551616 (a.take i) > V 18446744073709551616 (b.take i) then 1 else 0)
 | 0, _ => by
  refine Ev.succ (Ev.congr (Ev.pure _) fun k => ?_)
  rw [r00NatCmp.l0, if_neg (by omega)]
  simp [V]
 | i + 1, hi => by
  have ih := cmp_loop ha hb hl hs i (by omega)
  have hva := V_take 18446744073709551616 a (i := i) (by omega)
  have hvb := V_take 18446744073709551616 b (i := i) (by omega)
  have la := V_lt (B := 18446744073709551616) (by omega) (Dig_take ha i)
  have lb := V_lt (B := 18446744073709551616) (by omega) (Dig_take hb i)
  have na := V_nonneg (B := 18446744073709551616) (by omega) (Dig_take ha i)
  have nb := V_nonneg (B := 18446744073709551616) (by omega) (Dig_take hb i)
  rw [show (a.take i).length = i by rw [List.length_take]; omega] at la
  rw [show (b.take i).length = i by rw [List.length_take]; omega] at lb
  have ei : (((i + 1 : Nat) : Int) - 1) = (i : Int) := by omega
  have key : ∀ (P x y p q : Int), 0 < P → p < P → 0 ≤ q → x < y → p + P * x < q + P * y := by
   intro P x y p q hP hp hq hxy
   have := Int.mul_le_mul_of_nonneg_left (show x + 1 ≤ y by omega) (Int.le_of_lt hP)
   rw [Int.mul_add, Int.mul_one] at this
   omega
  have hP := pow_pos' (B := 18446744073709551616) (by omega) i
  by_cases h1 : rd a (i : Int) < rd b (i : Int)
  ·have hlt := key _ _ _ _ _ hP la nb h1
   rw [← hva, ← hvb] at hlt
   rw [if_pos hlt]
   refine Ev.succ (Ev.congr (Ev.pure _) fun k => ?_)
   rw [ei, r00NatCmp.l0, if_pos (by omega), if_pos (by omega), if_pos (by omega), if_pos (by omega), if_pos h1]
  ·by_cases h2 : rd a (i : Int) > rd b (i : Int)
   ·have hlt := key _ _ _ _ _ hP lb na h2
    rw [← hva, ← hvb] at hlt
    rw [if_neg (by omega), if_pos hlt]
    refine Ev.succ (Ev.congr (Ev.pure _) fun k => ?_)
    rw [ei, r00NatCmp.l0, if_pos (by omega), if_pos (by omega), if_pos (by omega), if_pos (by omega), if_neg h1, if_pos h2]
   ·have h3 : rd a (i : Int) = rd b (i : Int) := by omega
    have e : (if V 18446744073709551616 (a.take (i + 1)) < V 18446744073709551616 (b.take (i + 1)) then (-1 : Int) else if V 18446744073709551616 (a.take (i + 1)) > V 18446744073709551616 (b.take (i + 1)) then 1 else 0) = (if V 18446744073709551616 (a.take i) < V 18446744073709551616 (b.take i) then -1 else if V 18446744073709551616 (a.take i) > V 18446744073709551616 (b.take i) then 1 else 0) := by
     rw [hva, hvb, h3]
     obtain ⟨P, hPe⟩ : ∃ P, P = (18446744073709551616 : Int) ^ i * rd b (i : Int) := ⟨_, rfl⟩
     rw [← hPe]
     have c1 : (V 18446744073709551616 (a.take i) + P < V 18446744073709551616 (b.take i) + P) = (V 18446744073709551616 (a.take i) < V 18446744073709551616 (b.take i)) := by apply propext; omega
     have c2 : (V 18446744073709551616 (a.take i) + P > V 18446744073709551616 (b.take i) + P) = (V 18446744073709551616 (a.take i) > V 18446744073709551616 (b.take i)) := by apply propext; omega
     simp only [c1, c2]
    rw [e]
    refine Ev.succ (Ev.congr ih fun k => ?_)
    rw [ei, r00NatCmp.l0, if_pos (by omega), if_pos (by omega), if_pos (by omega), if_pos (by omega), if_neg h1, if_neg h2, w64 (by omega) (by omega)]
theorem cmp_ev {a b : List Int} {x y : Int} (ha : Can 18446744073709551616 a x) (hb : Can 18446744073709551616 b y) (hla : a.length < 1073741824) (hlb : b.length < 1073741824) :
  Ev (fun k => r00NatCmp.f k a b) (if x < y then -1 else if x > y then 1 else 0) := by
 have hlt : ∀ {a b : List Int} {x y : Int}, Can 18446744073709551616 a x → Can 18446744073709551616 b y → a.length < b.length → x < y := by
  intro a b x y ha hb h
  have h1 := V_lt (B := 18446744073709551616) (by omega) ha.1.1
  rw [ha.1.2] at h1
  have h2 := Can_low (by omega) hb (by intro h'; rw [h'] at h; simp at h)
  have h3 := pow_le' (B := 18446744073709551616) (by omega) (show a.length ≤ b.length - 1 by omega)
  omega
 by_cases hl : a.length = b.length
 ·have h := cmp_loop ha.1.1 hb.1.1 hl (by omega) a.length (Nat.le_refl _)
  rw [List.take_of_length_le (Nat.le_refl _), List.take_of_length_le (by omega), ha.1.2, hb.1.2] at h
  refine Late.step ((nattrim_can (by omega) ha (by omega)).late.and (nattrim_can (by omega) hb (by omega)).late) (fun k hk => ?_) h
  have hk1 : r00NatTrim.f k a = some a := hk.1
  have hk2 : r00NatTrim.f k b = some b := hk.2
  unfold r00NatCmp.f
  rw [hk1, Option.bind_some, hk2, Option.bind_some, if_pos (by omega), w64 (by omega) (by omega)]
 ·refine Late.step (g := fun _ => some _) ((nattrim_can (by omega) ha (by omega)).late.and (nattrim_can (by omega) hb (by omega)).late) (fun k hk => ?_) (Ev.pure _)
  have hk1 : r00NatTrim.f k a = some a := hk.1
  have hk2 : r00NatTrim.f k b = some b := hk.2
  unfold r00NatCmp.f
  rw [hk1, Option.bind_some, hk2, Option.bind_some, if_neg (by omega)]
  by_cases h : a.length < b.length
  ·rw [if_pos (by omega), if_pos (hlt ha hb h)]
  ·have := hlt hb ha (by omega)
   rw [if_neg (by omega), if_neg (by omega), if_pos (by omega)]
theorem sub_alg (B P vp w va vb d w2 x y : Int) (h : vp = va - vb + P * w) (h2 : B * w2 + (x - y - w) = d) : vp + P * d = va + P * x - (vb + P * y) + P * B * w2 := by
 rw [h, ← h2]; grind
theorem sub_loop {a b : List Int} (ha : Dig 4294967296 a) (hb : Dig 4294967296 b) (hla : a.length < 100000000) (hlb : b.length ≤ a.length) (hge : V 4294967296 b ≤ V 4294967296 a) : ∀ (m i : Nat) (p : List Int) (c : Int),
  i + m = a.length → p.length = i → Dig 4294967296 p → 0 ≤ c → c ≤ 1 → V 4294967296 p = V 4294967296 (a.take i) - V 4294967296 (b.take i) + 4294967296 ^ i * c →
  ∃ r, Ev (fun k => r00NatSub.l0 k a b p c i) r ∧ Can 18446744073709551616 r (V 4294967296 a - V 4294967296 b) := by
 intro m
 induction m with
 | zero =>
  intro i p c hi hp hd hc0 hc1 hv
  rw [List.take_of_length_le (by omega), List.take_of_length_le (by omega)] at hv
  have hlt := V_lt (B := 4294967296) (by omega) hd
  rw [hp] at hlt
  have hc : c = 0 := by
   rcases Int.lt_or_le 0 c with h | h
   ·have : c = 1 := by omega
    subst this
    rw [Int.mul_one] at hv
    omega
   ·omega
  subst hc
  rw [Int.mul_zero, Int.add_zero] at hv
  obtain ⟨r, he, hcan, hlen⟩ := limbs2_ev (l := p) ⟨hd, hv⟩ (by omega)
  refine ⟨r, Ev.succ (Ev.congr (Ev.bind (g := fun _ t => some t) he (Ev.pure _)) fun k => ?_), hcan⟩
  rw [r00NatSub.l0, if_neg (by omega)]
 | succ m ih =>
  intro i p c hi hp hd hc0 hc1 hv
  have hx := rd_dig ha (i := (i : Int)) (by omega) (by omega)
  have hy := dg_range (by omega) hb i
  have hva := V_take 4294967296 a (i := i) (by omega)
  have hvb := V_dg 4294967296 b i
  obtain ⟨x, hxe⟩ : ∃ x, x = rd a (i : Int) := ⟨_, rfl⟩
  obtain ⟨y, hye⟩ : ∃ y, y = dg b i := ⟨_, rfl⟩
  rw [← hxe] at hx hva
  rw [← hye] at hy hvb
  obtain ⟨s, hs⟩ : ∃ s, s = 4294967296 + x - y - c := ⟨_, rfl⟩
  obtain ⟨r, he, hcan⟩ := ih (i + 1) (p ++ [s % 4294967296]) (1 - s / 4294967296) (by omega) (by simp [hp]) (Dig_snoc hd (by omega) (by omega)) (by omega) (by omega) (by
   rw [V_snoc, hp, hva, hvb, Int.pow_succ]
   exact sub_alg _ _ _ _ _ _ _ _ _ _ hv (by omega))
  refine ⟨r, Ev.succ (Ev.congr he fun k => ?_), hcan⟩
  have e0 : IntKind.u64.wrap (4294967296 + x) = 4294967296 + x := u64 (by omega) (by omega)
  have e1 : IntKind.u64.wrap (4294967296 + x - y) = 4294967296 + x - y := u64 (by omega) (by omega)
  have e2 : IntKind.u64.wrap (4294967296 + x - y - c) = s := by rw [u64 (by omega) (by omega), hs]
  have e3 : Int.tmod s 4294967296 = s % 4294967296 := Int.tmod_eq_emod_of_nonneg (by omega)
  have e4 : IntKind.u64.wrap (Int.tdiv s 4294967296) = s / 4294967296 := by rw [Int.tdiv_eq_ediv_of_nonneg (by omega)]; exact u64 (by omega) (by omega)
  have e5 : IntKind.u64.wrap (1 - s / 4294967296) = 1 - s / 4294967296 := u64 (by omega) (by omega)
  have e6 : wrap64 ((i : Int) + 1) = ((i + 1 : Nat) : Int) := by rw [w64 (by omega) (by omega)]; omega
  have c1 : p.length < 17592186044416 := by rw [hp]; clear e0 e1 e2 e3 e4 e5 e6; omega
  have c2 : i < a.length := by clear e0 e1 e2 e3 e4 e5 e6; omega
  rw [r00NatSub.l0, if_pos (Int.ofNat_lt.2 c2), if_pos (Int.natCast_nonneg _), digit_f, Option.bind_some, if_pos c1, ← hxe, ← hye, e0, e1, e2, e3, e4, e5, e6]
theorem sub_ev {a b : List Int} {x y : Int} (ha : Can 18446744073709551616 a x) (hb : Can 18446744073709551616 b y) (hla : a.length < 10000000) (hlb : b.length < 10000000) (hle : y ≤ x) :
  ∃ r, Ev (fun k => r00NatSub.f k a b) r ∧ Can 18446744073709551616 r (x - y) := by
 obtain ⟨p, hp, hcp, hlp⟩ := halves_ev ha.1 (by omega)
 obtain ⟨q, hq, hcq, hlq⟩ := halves_ev hb.1 (by omega)
 have hlen : q.length ≤ p.length := by
  refine Nat.le_of_not_lt fun h => ?_
  have h1 := V_lt (B := 4294967296) (by omega) hcp.1.1
  rw [hcp.1.2] at h1
  have h2 := Can_low (by omega) hcq (by intro h'; rw [h'] at h; simp at h)
  have h3 := pow_le' (B := 4294967296) (by omega) (show p.length ≤ q.length - 1 by omega)
  omega
 obtain ⟨r, hr, hc⟩ := sub_loop hcp.1.1 hcq.1.1 (by omega) hlen (by rw [hcp.1.2, hcq.1.2]; exact hle) p.length 0 [] 0 (by omega) rfl (Dig_nil _) (by omega) (by omega) (by simp [V])
 rw [hcp.1.2, hcq.1.2] at hc
 refine ⟨r, Late.step (hp.late.and hq.late) (fun k hk => ?_) hr, hc⟩
 have hk1 : r00halves.f k a = some p := hk.1
 have hk2 : r00halves.f k b = some q := hk.2
 unfold r00NatSub.f
 rw [hk1, Option.bind_some, hk2, Option.bind_some]
 rfl
theorem compare_ev {a b : List Int} {x y : Int} (ha : Can 18446744073709551616 a x) (hb : Can 18446744073709551616 b y) (hla : a.length < 10000000) (hlb : b.length < 10000000) (h1 : a ≠ []) (hle : x ≤ y) (neg : Bool) :
  Ev (fun k => r00Compare.f k neg a 0 neg b 0) (if x = y then 0 else if neg = true then 1 else -1) := by
 have hx := Can_pos (by omega) ha h1
 have h2 : b ≠ [] := by
  intro h; subst h
  have : y = 0 := by rw [← hb.1.2]; rfl
  omega
 have hb1 := bitsOf_le ha
 have hb2 := bitsOf_le hb
 have hmono := bitsOf_mono ha hb h1 h2 hle
 have s1 := sign_ev ha (by omega) neg 0
 have s2 := sign_ev hb (by omega) neg 0
 rw [if_neg h1] at s1
 rw [if_neg h2] at s2
 have t1 : ∀ k {l : List Int}, 0 ≤ bitsOf l → bitsOf l ≤ 64 * 10000000 → r00NatBits.f k l = some (bitsOf l) → r00Num_Top.f k neg l 0 = some (bitsOf l) := by
  intro k l hl0 hl hk
  unfold r00Num_Top.f
  rw [hk, Option.bind_some, w64 (by omega) (by omega), Int.zero_add]
 have hsg : ¬ (if neg = true then (-1 : Int) else 1) = 0 := by cases neg <;> decide
 by_cases hbit : bitsOf a < bitsOf b
 ·have hne : ¬ x = y := by
   intro h; subst h
   rw [Can_unique (by omega) ha hb] at hbit
   omega
  refine Late.step (g := fun _ => some _) (s1.late.and (s2.late.and ((natbits_ev ha (by omega)).late.and (natbits_ev hb (by omega)).late))) (fun k hk => ?_) (Ev.pure _)
  obtain ⟨k1, k2, k3, k4⟩ := hk
  unfold r00Compare.f
  rw [k1, Option.bind_some, k2, Option.bind_some, if_neg (by omega), if_neg (by omega), if_neg hsg, t1 k hb1.1 (by omega) k3, Option.bind_some, t1 k hb2.1 (by omega) k4, Option.bind_some, if_pos hbit, if_neg hne]
  cases neg
  ·show some (wrap64 (-1)) = some (-1)
   rw [w64 (by omega) (by omega)]
  ·show some (wrap64 (- -1)) = some 1
   rw [w64 (by omega) (by omega)]
   rfl
 ·have hcmp := cmp_ev ha hb (by omega) (by omega)
  have hup := natup_ev hb (by omega)
  have e0 : wrap64 (0 - 0) = 0 := w64 (by omega) (by omega)
  have nn : (neg == !neg) = false := by cases neg <;> rfl
  have less : ∃ (sg : Bool) (r : List Int) (n : Int), Late (fun k => BE.r00Plus.f k neg a 0 (!neg) b 0 = some (sg, r, 0)) ∧ Can 18446744073709551616 r n ∧ (x = y → n = 0) ∧ (¬ x = y → n ≠ 0 ∧ sg = !neg) ∧ r.length < 1073741824 := by
   by_cases hxy : x = y
   ·obtain ⟨r, hr, hc⟩ := sub_ev ha hb hla hlb (by omega)
    rw [show x - y = 0 by omega] at hc
    rw [if_neg (by omega), if_neg (by omega)] at hcmp
    refine ⟨neg, r, 0, (Ev.succ (Late.step (g := fun _ => some (neg, r, 0)) ((zero_ev ha (by omega) neg 0).late.and ((zero_ev hb (by omega) (!neg) 0).late.and (hup.late.and (hcmp.late.and hr.late)))) (fun k hk => ?_) (Ev.pure _))).late, hc, fun _ => rfl, fun h => absurd hxy h, by rw [Can_zero (by omega) hc]; decide⟩
    obtain ⟨k1, k2, k3, k4, k5⟩ := hk
    rw [decide_eq_false h1] at k1
    rw [decide_eq_false h2] at k2
    rw [BE.r00Plus.f, k1, Option.bind_some, if_neg (by decide), k2, Option.bind_some, if_neg (by decide), if_neg (by decide), e0, k3, Option.bind_some, nn, if_neg (by decide), k4, Option.bind_some, if_pos (by decide), k5, Option.bind_some]
   ·obtain ⟨r, hr, hc⟩ := sub_ev hb ha hlb hla (by omega)
    rw [if_pos (by omega)] at hcmp
    have hrl : r.length ≤ b.length := Can_len (by omega) hc (by
     have := V_lt (B := 18446744073709551616) (by omega) hb.1.1
     rw [hb.1.2] at this
     omega)
    refine ⟨!neg, r, y - x, (Ev.succ (Late.step (g := fun _ => some (!neg, r, 0)) ((zero_ev ha (by omega) neg 0).late.and ((zero_ev hb (by omega) (!neg) 0).late.and (hup.late.and (hcmp.late.and hr.late)))) (fun k hk => ?_) (Ev.pure _))).late, hc, fun h => absurd h hxy, fun _ => ⟨by omega, rfl⟩, by omega⟩
    obtain ⟨k1, k2, k3, k4, k5⟩ := hk
    rw [decide_eq_false h1] at k1
    rw [decide_eq_false h2] at k2
    rw [BE.r00Plus.f, k1, Option.bind_some, if_neg (by decide), k2, Option.bind_some, if_neg (by decide), if_neg (by decide), e0, k3, Option.bind_some, nn, if_neg (by decide), k4, Option.bind_some, if_neg (by decide), k5, Option.bind_some]
  obtain ⟨sg, r, n, hp, hc, hz, hnz, hrl⟩ := less
  have s3 := sign_ev hc hrl sg 0
  have hrr : (if r = [] then (0 : Int) else if sg = true then -1 else 1) = (if x = y then 0 else if neg = true then 1 else -1) := by
   by_cases hxy : x = y
   ·rw [if_pos hxy, if_pos]
    have := hz hxy
    subst this
    exact Can_zero (by omega) hc
   ·obtain ⟨q1, q2⟩ := hnz hxy
    rw [if_neg hxy, if_neg, q2]
    ·cases neg <;> rfl
    ·intro h
     subst h
     exact q1 (by rw [← hc.1.2]; rfl)
  rw [hrr] at s3
  refine Late.step (g := fun _ => some _) (s1.late.and (s2.late.and ((natbits_ev ha (by omega)).late.and ((natbits_ev hb (by omega)).late.and (hp.and s3.late))))) (fun k hk => ?_) (Ev.pure _)
  obtain ⟨k1, k2, k3, k4, k5, k6⟩ := hk
  have k7 : r00Less.f k neg a 0 neg b 0 = some (sg, r, 0) := k5
  unfold r00Compare.f
  rw [k1, Option.bind_some, k2, Option.bind_some, if_neg (by omega), if_neg (by omega), if_neg hsg, t1 k hb1.1 (by omega) k3, Option.bind_some, t1 k hb2.1 (by omega) k4, Option.bind_some, if_neg hbit, Option.bind_some, Option.bind_some, if_neg (by omega), k7, Option.bind_some]
  show (r00Num_Sign.f k sg r 0).bind _ = _
  rw [k6, Option.bind_some]
end Go.Proofs.Ytbmddlldadbfnaa.BM
end
section
namespace Go.Proofs.Ytbmddlldadbfnaa.BM
open Go.RowKit Go.Proofs.YtbmddlldadbfnaaW.PrintWords Go.Proofs.YtbmddlldadbfnaaW.PrintLast Go.Proofs.YtbmddlldadbfnaaW.PrintMore
open Go.Proofs.Ytbmddlldadbfnaa.BA Go.Proofs.Ytbmddlldadbfnaa.BD Go.Proofs.Ytbmddlldadbfnaa.BE Go.Proofs.Ytbmddlldadbfnaa.BC
open Go.Proofs.Ytbmddlldadbfnaa.BB
theorem hasPrefix (s : ByteArray) : strings_HasPrefix.f s (⟨#[45]⟩ : ByteArray) = some (bt s 0 == 45) := by
 unfold strings_HasPrefix.f BC.stringslite_HasPrefix.f
 have e : ((⟨#[45]⟩ : ByteArray).size : Int) = 1 := rfl
 rw [e]
 by_cases h0 : 0 < s.size
 ·rw [if_pos (by omega), if_pos (by decide), if_pos (by omega), Option.bind_some]
  have h1 : s.extract 0 1 = ⟨#[s[0]'h0]⟩ := by
   apply ByteArray.ext
   apply Array.ext
   ·show (s.extract 0 1).size = 1
    rw [ByteArray.size_extract]; omega
   ·intro i h1 h2
    have : i = 0 := by simp at h2; omega
    subst this
    exact ByteArray.getElem_extract (i := 0) (b := s) (start := 0) (stop := 1) (by rw [ByteArray.size_extract]; omega)
  show some ((s.extract 0 1).toList == _) = _
  rw [h1]
  have h2 : (⟨#[s[0]'h0]⟩ : ByteArray).toList = [s[0]'h0] := ByteArray.toList_mk [s[0]'h0]
  have h3 : (⟨#[45]⟩ : ByteArray).toList = [45] := ByteArray.toList_mk [45]
  rw [h2, h3]
  have h4 : bt s 0 = ((s[0]'h0).toNat : Int) := by unfold bt; rw [dif_pos (by exact h0)]; rfl
  rw [h4]
  by_cases h5 : s[0]'h0 = 45
  ·rw [h5]; rfl
  ·have : ¬ ((s[0]'h0).toNat : Int) = 45 := fun h => h5 (UInt8.toNat_inj.1 (by simpa using (by omega : (s[0]'h0).toNat = 45)))
   rw [beq_false_of_ne this]
   simp [h5]
 ·rw [if_neg (by omega), Option.bind_some]
  have h4 : bt s 0 = 0 := by unfold bt; rw [dif_neg (by exact h0)]
  rw [h4]
  rfl
theorem trimBB (s : ByteArray) : BB.strings_TrimPrefix.f s (⟨#[45]⟩ : ByteArray) = some (bodyOf s) := trimPrefix s
theorem trimBC (s : ByteArray) : BC.strings_TrimPrefix.f s (⟨#[45]⟩ : ByteArray) = some (bodyOf s) := trimPrefix s
theorem text_size {b n : Int} (hb' : b ≤ 36) {neg : Bool} {ds : List Int} (hd : Can b ds n) (hneg : ds = [] → neg = false) :
  ((bodyOf (textOf neg ds)).size : Int) = max (ds.length : Int) 1 ∧ (bt (textOf neg ds) 0 == 45) = neg := by
 by_cases h : ds = []
 ·subst h
  have := hneg rfl
  subst this
  exact ⟨by decide, by decide⟩
 ·obtain ⟨h1, h2⟩ := out_sign (neg := neg) hb' hd.1.1 h
  have h3 : 0 < ds.length := List.length_pos_iff.2 h
  unfold textOf
  rw [if_neg h]
  refine ⟨?_, h1⟩
  rw [body_size, h2, out_size]
  split <;> omega
theorem counts_loop {b n : Int} {ds t : List Int} (hb : 2 ≤ b) (hb' : b ≤ 36) (ht : Can 18446744073709551616 t n) (htl : t.length ≤ 40) (hd : Can b ds n) (hne : ds ≠ []) (hdl : ds.length ≤ 2560) (neg : Bool) :
  ∀ (m j : Nat) (p : List Int), j + m + 1 = ds.length → Can 18446744073709551616 p (b ^ j) → Ev (fun k => w19BaseCounts.l0 k b (ds.length : Int) j neg t false p 0) true := by
 have hn40 := V_lt (show (0 : Int) < 18446744073709551616 by omega) ht.1.1
 rw [ht.1.2] at hn40
 have h40 := pow_le' (B := 18446744073709551616) (by omega) htl
 have hlow := Can_low (by omega) hd hne
 have hhi := V_lt (show 0 < b by omega) hd.1.1
 rw [hd.1.2] at hhi
 have hplen : ∀ (j : Nat) (p : List Int), j + 1 ≤ ds.length → Can 18446744073709551616 p (b ^ j) → p.length ≤ 40 := by
  intro j p hj hp
  refine Can_len (by omega) hp ?_
  have := pow_le' (B := b) (by omega) (show j ≤ ds.length - 1 by omega)
  omega
 obtain ⟨wb, hwb, hwc, hwl⟩ := whole_ev (a := b) (by omega) (by omega)
 intro m
 induction m with
 | zero =>
  intro j p hj hp
  have hpl := hplen j p (by omega) hp
  have hj1 : ds.length - 1 = j := by omega
  rw [hj1] at hlow
  have hpne : p ≠ [] := by
   intro h; subst h
   have h0 : b ^ j = 0 := by rw [← hp.1.2]; rfl
   have := pow_pos' (show 0 < b by omega) j
   omega
  have htne : t ≠ [] := by
   intro h; subst h
   have h0 : n = 0 := by rw [← ht.1.2]; rfl
   have := pow_pos' (show 0 < b by omega) j
   omega
  have c1 := compare_ev hp ht (by omega) (by omega) hpne hlow false
  obtain ⟨q, hq, hqc⟩ := times0_ev hp hwc (by omega) (by omega) false false
  have hlt : n < b ^ j * b := by
   have h3 : b ^ (j + 1) = b ^ j * b := Int.pow_succ b j
   rw [show j + 1 = ds.length by omega] at h3
   rw [← h3]; exact hhi
  have hql : q.length ≤ 41 := by
   refine Can_len (by omega) hqc ?_
   have h1 : b ^ j * b ≤ n * 36 := Int.le_trans (Int.mul_le_mul_of_nonneg_right hlow (by omega)) (Int.mul_le_mul_of_nonneg_left hb' (by have := Can_nonneg (by omega) ht; omega))
   have h2 : (18446744073709551616 : Int) ^ 41 = 18446744073709551616 ^ 40 * 18446744073709551616 := Int.pow_succ _ _
   rw [h2]
   clear h2
   omega
  have c2 := compare_ev ht hqc (by omega) (by omega) htne (by omega) false
  rw [if_neg (by omega), if_neg (by decide)] at c2
  refine Ev.succ (Late.step (g := fun _ => some true) (c1.late.and (hwb.late.and (hq.late.and (c2.late.and awake_ev.late)))) (fun k hk => ?_) (Ev.pure _))
  obtain ⟨k1, k2, k3, k4, k5⟩ := hk
  have hc1 : (if b ^ j = n then (0 : Int) else if false = true then 1 else -1) ≤ 0 := by split <;> decide
  have ew : wrap64 ((ds.length : Int) - 1) = (j : Int) := by rw [w64 (by omega) (by omega)]; omega
  rw [w19BaseCounts.l0, ew, if_neg (by omega), k1, Option.bind_some, if_pos hc1, k2, Option.bind_some]
  show (r00Times.f k false p 0 false wb 0).bind _ = _
  rw [k3, Option.bind_some]
  show (r00Compare.f k false t 0 false q 0).bind _ = _
  rw [k4, Option.bind_some, if_pos (by decide), k5, Option.bind_some]
 | succ m ih =>
  intro j p hj hp
  have hpl := hplen j p (by omega) hp
  obtain ⟨q, hq, hqc⟩ := times0_ev hp hwc (by omega) (by omega) false false
  rw [← Int.pow_succ] at hqc
  refine Ev.succ (Late.step (hwb.late.and hq.late) (fun k hk => ?_) (ih (j + 1) q (by omega) hqc))
  obtain ⟨k2, k3⟩ := hk
  have ew : wrap64 ((ds.length : Int) - 1) = (ds.length : Int) - 1 := w64 (by omega) (by omega)
  have ej : wrap64 ((j : Int) + 1) = ((j + 1 : Nat) : Int) := by rw [w64 (by omega) (by omega)]; omega
  have hlt : (j : Int) < (ds.length : Int) - 1 := by clear ew ej; omega
  rw [w19BaseCounts.l0, ew, if_pos hlt, k2, Option.bind_some]
  show (r00Times.f k false p 0 false wb 0).bind _ = _
  rw [k3, Option.bind_some, ej]
  rfl
theorem counts_true (neg : Bool) (l : List Int) (a : Int) (hd : Dig 18446744073709551616 l) : ∃ k, w19BaseCounts.f k neg l a = some true := by
 obtain ⟨b, hof, hb, hb'⟩ := of_f a
 obtain ⟨t, n, ht, hc, htl⟩ := whole_int_ev hd neg
 obtain ⟨sg, hsg⟩ : ∃ sg, sg = (neg && decide (0 < t.length)) := ⟨_, rfl⟩
 have hneg : t = [] → sg = false := fun h => by subst h; rw [hsg]; simp
 obtain ⟨ds, hds, hp⟩ := print_ev hc (by omega) hb hb' sg hneg
 have hz : t = [] ↔ ds = [] := by
  constructor
  ·intro h; subst h
   have h0 : n = 0 := by rw [← hc.1.2]; rfl
   subst h0
   exact Can_zero (by omega) hds
  ·intro h; subst h
   have h0 : n = 0 := by rw [← hds.1.2]; rfl
   subst h0
   exact Can_zero (by omega) hc
 obtain ⟨e1, e2⟩ := text_size hb' hds (neg := sg) (fun h => hneg (hz.2 h))
 have hdl : ds.length ≤ 2560 := by
  refine Can_len (by omega) hds ?_
  have h6 := V_lt (show (0 : Int) < 18446744073709551616 by omega) hc.1.1
  rw [hc.1.2] at h6
  have h7 : (18446744073709551616 : Int) ≤ b ^ 64 := pow_mono (a := 2) (by omega) hb 64
  have h8 := pow_mono (show (0 : Int) ≤ 18446744073709551616 by omega) h7 40
  rw [← Int.pow_mul] at h8
  have h9 := pow_le' (B := 18446744073709551616) (by omega) htl
  exact Int.lt_of_lt_of_le h6 (Int.le_trans h9 h8)
 refine Ev.ex (f := fun k => w19BaseCounts.f k neg l a) ?_
 have cnt : ∀ k, base_Print.f k sg t b = some (textOf sg ds, 0) → base_Count.f k sg t b = some (max (ds.length : Int) 1, 0) := by
  intro k hk
  unfold base_Count.f
  rw [hk, Option.bind_some, trimBB, Option.bind_some, e1]
 have e0 : wrap64 (0 + 0) = 0 := w64 (by omega) (by omega)
 by_cases h : ds = []
 ·have ht0 := hz.2 h
  refine Late.step (g := fun _ => some true) (ht.late.and (hp.late.and awake_ev.late)) (fun k hk => ?_) (Ev.pure _)
  obtain ⟨k1, k2, k3⟩ := hk
  rw [← hsg] at k1
  have hs0 := hneg ht0
  have hc' := cnt k k2
  rw [h] at hc' k2 e1 e2
  unfold w19BaseCounts.f
  rw [hof, Option.bind_some, k1, Option.bind_some]
  show (base_Count.f k sg t b).bind _ = _
  rw [hc', Option.bind_some]
  show (base_Print.f k sg t b).bind _ = _
  rw [k2, Option.bind_some, e0, if_pos rfl, trimBC, Option.bind_some, if_pos e1, hasPrefix, Option.bind_some, e2]
  show (if (sg != sg) = true then none else if (t.length : Int) = 0 then _ else _) = _
  rw [if_neg (by simp), if_pos (by rw [ht0]; rfl), if_pos (by rfl), hs0, if_pos (show (textOf false []).toList = [48] from by unfold textOf; rw [if_pos rfl]; exact ByteArray.toList_mk [48]), k3, Option.bind_some]
 ·have h0 : 0 < ds.length := List.length_pos_iff.2 h
  have htne : t ≠ [] := fun h' => h (hz.1 h')
  have ht0 : 0 < t.length := List.length_pos_iff.2 htne
  obtain ⟨w1, hw1, hwc, hwl⟩ := whole_ev (a := 1) (by omega) (by omega)
  refine Late.step (ht.late.and (hp.late.and hw1.late)) (fun k hk => ?_) (counts_loop hb hb' hc htl hds h hdl sg (ds.length - 1) 0 w1 (by omega) (by simpa using hwc))
  obtain ⟨k1, k2, k3⟩ := hk
  rw [← hsg] at k1
  have hc' := cnt k k2
  have em : max (ds.length : Int) 1 = (ds.length : Int) := by omega
  rw [em] at hc' e1
  unfold w19BaseCounts.f
  rw [hof, Option.bind_some, k1, Option.bind_some]
  show (base_Count.f k sg t b).bind _ = _
  rw [hc', Option.bind_some]
  show (base_Print.f k sg t b).bind _ = _
  rw [k2, Option.bind_some, e0, if_pos rfl, trimBC, Option.bind_some, if_pos e1, hasPrefix, Option.bind_some, e2]
  show (if (sg != sg) = true then none else if (t.length : Int) = 0 then _ else _) = _
  rw [if_neg (by simp), if_neg (by omega), k3, Option.bind_some]
  rfl
end Go.Proofs.Ytbmddlldadbfnaa.BM
end

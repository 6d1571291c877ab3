/- Part of the proof that package base tells any number in any base, and counts its digits, as the reference does, and leaves the number as it was; numbers of more than 40 limbs that may be are not looked at. -/
import Derived.Test.YtbmddlldadbfnaaCD4
section
namespace Go.Proofs.Ytbmddlldadbfnaa.BM
open Go.RowKit Go.Proofs.YtbmddlldadbfnaaW.PrintWords Go.Proofs.YtbmddlldadbfnaaW.PrintLast Go.Proofs.YtbmddlldadbfnaaW.PrintMore
open Go.Proofs.Ytbmddlldadbfnaa.BA (base_Print.f base_may.f limb_Right.f)
open Go.Proofs.Ytbmddlldadbfnaa.BB
theorem low_l0_eq : ∀ (k : Nat) (l : List Int) (i : Int), BP.r00low.l0 k l i = BB.r00low.l0 k l i
 | 0, _, _ => rfl
 | k + 1, l, i => by rw [BP.r00low.l0, BB.r00low.l0, low_l0_eq k]
theorem low2_ev {l : List Int} {n : Int} (B : Int) (hb : l.length < 1099511627776) (hn : Num B l n) : ∃ r, Ev (fun k => BP.r00low.f k l) r ∧ Can B r n ∧ r.length ≤ l.length := by
 obtain ⟨r, he, h⟩ := low_ev B hb hn
 exact ⟨r, Ev.congr he fun k => low_l0_eq k l _, h⟩
theorem rshort_loop {l : List Int} (hdl : Dig 4294967296 l) (hl : l.length < 100000000) {d : Int} (hd0 : 0 < d) (hd : d < 4294967296) : ∀ (i : Nat) (q : List Int) (rem : Int),
  i ≤ l.length → q.length = l.length - i → Dig 4294967296 q → 0 ≤ rem → rem < d → V 4294967296 (l.drop i) = V 4294967296 q * d + rem →
  ∃ t r, Ev (fun k => BP.r00short.l0 k l d (List.replicate i 0 ++ q) rem ((i : Int) - 1)) (t, r) ∧ Can 4294967296 t (V 4294967296 l / d) ∧ r = V 4294967296 l % d ∧ t.length ≤ l.length := by
 intro i
 induction i with
 | zero =>
  intro q rem hi hq hdq hr0 hr hv
  rw [List.drop_zero] at hv
  have e1 : V 4294967296 l / d = V 4294967296 q := by
   rw [hv, Int.add_comm, Int.add_mul_ediv_right _ _ (by omega), Int.ediv_eq_zero_of_lt hr0 hr, Int.zero_add]
  have e2 : V 4294967296 l % d = rem := by
   rw [hv, Int.add_comm, Int.add_mul_emod_self_right, Int.emod_eq_of_lt hr0 hr]
  obtain ⟨t, ht, hc, hlen⟩ := low2_ev 4294967296 (l := q) (n := V 4294967296 q) (by omega) ⟨hdq, rfl⟩
  refine ⟨t, rem, Ev.succ (Ev.congr (Ev.bind (g := fun _ t121 => some (t121, rem)) ht (Ev.pure _)) fun k => ?_), by rw [e1]; exact hc, e2.symm, by omega⟩
  rw [BP.r00short.l0, if_neg (by omega)]
  simp
 | succ i ih =>
  intro q rem hi hq hdq hr0 hr hv
  have ra := rd_dig hdl (i := (i : Int)) (by omega) (by omega)
  obtain ⟨s, hs⟩ : ∃ s, s = rem * 4294967296 + rd l (i : Int) := ⟨_, rfl⟩
  obtain ⟨Q, hQ⟩ : ∃ Q, Q = s / d := ⟨_, rfl⟩
  obtain ⟨R, hR⟩ : ∃ R, R = s % d := ⟨_, rfl⟩
  have hN : s = Q * d + R := by have := Int.mul_ediv_add_emod s d; rw [← hQ, ← hR, Int.mul_comm] at this; exact this.symm
  have hs0 : 0 ≤ s := by omega
  have hR0 : 0 ≤ R := by rw [hR]; exact Int.emod_nonneg _ (by omega)
  have hRd : R < d := by rw [hR]; exact Int.emod_lt_of_pos _ hd0
  have hQ0 : 0 ≤ Q := by rw [hQ]; exact Int.ediv_nonneg (by omega) (by omega)
  have hQW : Q < 4294967296 := by
   rw [hQ, Int.ediv_lt_iff_lt_mul hd0]
   have := Int.mul_le_mul_of_nonneg_right (show rem + 1 ≤ d by omega) (show (0 : Int) ≤ 4294967296 by omega)
   omega
  have hdrop : l.drop i = rd l (i : Int) :: l.drop (i + 1) := by rw [rd_nat l (by omega)]; exact List.drop_eq_getElem_cons (by omega)
  obtain ⟨t, r, he, hc, hrr, hlen⟩ := ih (Q :: q) R (by omega) (by simp; omega) (by
   intro a ha
   rcases List.mem_cons.1 ha with h | h
   ·subst h; exact ⟨hQ0, hQW⟩
   ·exact hdq a h) hR0 hRd (by
   rw [hdrop, V, V, hv]
   exact short_alg _ _ _ _ _ _ _ (by rw [← hs]; exact hN))
  refine ⟨t, r, Ev.succ (Ev.congr he fun k => ?_), hc, hrr, hlen⟩
  have e1 : IntKind.u64.wrap (rem * 4294967296) = rem * 4294967296 := u64 (by omega) (by omega)
  have e2 : IntKind.u64.wrap (rem * 4294967296 + rd l (i : Int)) = s := by rw [u64 (by omega) (by omega), hs]
  have e3 : IntKind.u64.wrap (Int.tdiv s d) = Q := by rw [Int.tdiv_eq_ediv_of_nonneg hs0, ← hQ]; exact u64 hQ0 (by omega)
  have e4 : Int.tmod s d = R := by rw [Int.tmod_eq_emod_of_nonneg hs0, hR]
  have e5 : wrap64 ((i : Int) - 1) = (i : Int) - 1 := w64 (by omega) (by omega)
  have c1 : (i : Int) < (l.length : Int) := by clear e1 e2 e3 e4 e5; omega
  have c2 : (i : Int) < ((List.replicate (i + 1) 0 ++ q : List Int).length : Int) := by clear e1 e2 e3 e4 e5; simp; omega
  have c3 : ¬ d = 0 := by clear e1 e2 e3 e4 e5; omega
  rw [show ((i + 1 : Nat) : Int) - 1 = (i : Int) by clear e1 e2 e3 e4 e5; omega, BP.r00short.l0, if_pos (Int.natCast_nonneg _), if_pos (Int.natCast_nonneg _), if_pos c1, if_neg c3, if_pos c2, e1, e2, e3, e4, e5, Int.toNat_natCast, set_rep]
theorem rshort_ev {l : List Int} {n d : Int} (h : Can 4294967296 l n) (hl : l.length < 100000000) (hd0 : 0 < d) (hd : d < 4294967296) :
  ∃ t, Ev (fun k => BP.r00short.f k l d) (t, n % d) ∧ Can 4294967296 t (n / d) ∧ t.length ≤ l.length := by
 obtain ⟨t, r, he, hc, hr, hlen⟩ := rshort_loop h.1.1 hl hd0 hd l.length [] 0 (Nat.le_refl _) (by simp) (Dig_nil _) (by omega) (by omega) (by simp [V])
 rw [h.1.2] at hc hr
 subst hr
 refine ⟨t, Ev.congr he fun k => ?_, hc, hlen⟩
 have e : wrap64 ((l.length : Int) - 1) = (l.length : Int) - 1 := w64 (by omega) (by omega)
 have c : l.length ≤ 35184372088832 := by clear e; omega
 unfold BP.r00short.f
 rw [if_pos (Int.natCast_nonneg _), Int.toNat_natCast, if_pos c, e]
 simp
theorem natdiv_ev {l : List Int} {n b : Int} (h : Can 18446744073709551616 l n) (hl : l.length < 1000000) (hne : l ≠ []) (hb : 2 ≤ b) (hb' : b ≤ 36) :
  ∃ q r, Ev (fun k => BP.r00NatDiv.f k l [b]) (q, r) ∧ Can 18446744073709551616 q (n / b) ∧ Can 18446744073709551616 r (n % b) ∧ q.length ≤ l.length := by
 have hn := Can_pos (by omega) h hne
 have hcb : Can 18446744073709551616 [b] b := Can_digit (by omega) (by omega)
 have hcb' : Can 4294967296 [b] b := Can_digit (by omega) (by omega)
 obtain ⟨x, hx, hcx, hlx⟩ := halves_ev h.1 (by omega)
 obtain ⟨y, hy, hcy, _⟩ := halves_ev hcb.1 (by simp)
 obtain rfl := Can_unique (by omega) hcy hcb'
 have hxne : 0 < x.length := by
  refine List.length_pos_iff.2 fun h0 => ?_
  subst h0
  have : n = 0 := by rw [← hcx.1.2]; rfl
  omega
 obtain ⟨t, ht, hct, hlt⟩ := rshort_ev hcx (by omega) (show 0 < b by omega) (by omega)
 obtain ⟨q, hq, hcq, _⟩ := limbs2_ev hct.1 (by omega)
 have hm0 := Int.emod_nonneg n (show b ≠ 0 by omega)
 have hm1 := Int.emod_lt_of_pos n (show 0 < b by omega)
 obtain ⟨r, hr, hcr, _⟩ := natof_ev (a := n % b) hm0 (by omega)
 have hql : q.length ≤ l.length := by
  refine Can_len (by omega) hcq ?_
  have h1 := V_lt (B := 18446744073709551616) (by omega) h.1.1
  rw [h.1.2] at h1
  have := Int.ediv_le_self b (show 0 ≤ n by omega)
  omega
 refine ⟨q, r, Late.step (g := fun _ => some (q, r)) (hx.late.and (hy.late.and (ht.late.and (hq.late.and hr.late)))) (fun k hk => ?_) (Ev.pure _), hcq, hcr, hql⟩
 obtain ⟨k1, k2, k3, k4, k5⟩ := hk
 have c1 : ¬ (x.length : Int) < (([b] : List Int).length : Int) := by simp; omega
 unfold BP.r00NatDiv.f
 rw [k1, Option.bind_some, k2, Option.bind_some, if_neg c1, if_pos (show ((([b] : List Int).length : Nat) : Int) = 1 from rfl), if_pos (show (0 : Int) < ((([b] : List Int).length : Nat) : Int) from Int.one_pos)]
 show (BP.r00short.f k x b).bind _ = _
 rw [k3, Option.bind_some]
 show (r00limbs.f k t).bind _ = _
 rw [k4, Option.bind_some]
 show (r00NatOf.f k (n % b)).bind _ = _
 rw [k5, Option.bind_some]
theorem rev_l1 (x : List Int) (hx : x.length < 1000000000000) : ∀ (m i : Nat), i + m = x.length → Ev (fun k => BP.r19Text.l1 k x (x.reverse.take i ++ List.replicate m 0) i) (strOfNums x.reverse) := by
 intro m
 induction m with
 | zero =>
  intro i hi
  refine Ev.succ (Ev.congr (Ev.pure _) fun k => ?_)
  rw [BP.r19Text.l1, if_neg (by omega), List.replicate_zero, List.append_nil, List.take_of_length_le (by simp; omega)]
 | succ m ih =>
  intro i hi
  refine Ev.succ (Ev.congr (ih (i + 1) (by omega)) fun k => ?_)
  have e1 : wrap64 ((x.length : Int) - 1) = (x.length : Int) - 1 := w64 (by omega) (by omega)
  have e2 : wrap64 ((x.length : Int) - 1 - (i : Int)) = ((x.length - 1 - i : Nat) : Int) := by rw [w64 (by omega) (by omega)]; omega
  have e3 : wrap64 ((i : Int) + 1) = ((i + 1 : Nat) : Int) := by rw [w64 (by omega) (by omega)]; omega
  have c1 : (i : Int) < (x.length : Int) := by clear e1 e2 e3; omega
  have c2 : ((x.length - 1 - i : Nat) : Int) < (x.length : Int) := by clear e1 e2 e3; omega
  have c3 : (i : Int) < ((x.reverse.take i ++ List.replicate (m + 1) 0 : List Int).length : Int) := by clear e1 e2 e3; simp; omega
  have e4 : rd x ((x.length - 1 - i : Nat) : Int) = x.reverse[i]'(by simp; clear e1 e2 e3; omega) := by
   rw [rd_nat x (by clear e1 e2 e3; omega), List.getElem_reverse]
  rw [BP.r19Text.l1, if_pos c1, e1, e2, if_pos (Int.natCast_nonneg _), if_pos c2, if_pos (Int.natCast_nonneg _), if_pos c3, e3, e4, Int.toNat_natCast]
  congr 1
  rw [List.set_append_right _ _ (by simp; clear e1 e2 e3 e4; omega), show i - (x.reverse.take i).length = 0 by simp; clear e1 e2 e3 e4; omega, List.replicate_succ, List.set_cons_zero, List.take_succ_eq_append_getElem (by simp; clear e1 e2 e3 e4; omega), List.append_assoc]
  rfl
theorem rev_j1 (x : List Int) (hx : x.length < 1000000000000) : Ev (fun k => BP.r19Text.j1 k x) (strOfNums x.reverse) := by
 have h := rev_l1 x hx x.length 0 (by omega)
 refine Ev.succ (Ev.congr h fun k => ?_)
 have c : x.length ≤ 281474976710656 := by omega
 rw [BP.r19Text.j1, if_pos (Int.natCast_nonneg _), Int.toNat_natCast, if_pos c]
 simp
theorem rtext_loop {b n : Int} {L : Nat} (hb : 2 ≤ b) (hb' : b ≤ 36) (neg : Bool) (hn : n < b ^ L) (hL : L < 100000000000) (x : List Int) (e : Int) :
  ∀ (f : Nat) (q : List Int) (mq : Int), mq.toNat ≤ f → q.length < 1000000 → Can 18446744073709551616 q mq → ∀ ds, Inv b n ds mq → ∃ ds', Can b ds' n ∧ Ev (fun k => BP.r19Text.l0 k [b] (ds.map dgt) q neg x e) (outOf neg ds') := by
 have hfin : ∀ ds, Inv b n ds 0 → ∃ ds', Can b ds' n ∧ Ev (fun k => BP.r19Text.l0 k [b] (ds.map dgt) [] neg x e) (outOf neg ds') := by
  intro ds hi
  have hc := hi.can
  have hlen := Can_len (by omega) hc hn
  have hbits := natbits_ev (Can_nil 18446744073709551616) (by decide)
  refine ⟨ds, hc, ?_⟩
  have hj := rev_j1 (ds.map dgt ++ (if neg = true then [45] else [])) (by cases neg <;> simp <;> omega)
  refine Ev.succ (Late.step hbits.late (fun k hk => ?_) hj)
  have hk' : r00NatBits.f k [] = some (bitsOf []) := hk
  have c1 : (ds.map dgt).length < 140737488355328 := by rw [List.length_map]; omega
  rw [BP.r19Text.l0, hk', Option.bind_some, if_neg (by decide)]
  cases neg
  ·rw [if_neg (by decide), if_neg (by decide), List.append_nil]
  ·rw [if_pos rfl, if_pos c1, if_pos rfl]
 intro f
 induction f with
 | zero =>
  intro q mq hf hq hc ds hi
  have h0 := Can_nonneg (by omega) hc
  have : mq = 0 := by omega
  subst this
  rw [Can_zero (by omega) hc]
  exact hfin ds hi
 | succ f ih =>
  intro q mq hf hq hc ds hi
  by_cases hq0 : q = []
  ·subst hq0
   have : mq = 0 := by rw [← hc.1.2]; rfl
   subst this
   exact hfin ds hi
  ·have hM := Can_pos (by omega) hc hq0
   obtain ⟨t, r, hd, hct, hcr, htl⟩ := natdiv_ev hc hq hq0 hb hb'
   have hlen := hi.len hb hn hM
   have hm0 := Int.emod_nonneg mq (show b ≠ 0 by omega)
   have hm1 := Int.emod_lt_of_pos mq (show 0 < b by omega)
   have hdec : mq / b < mq := Int.ediv_lt_self_of_pos_of_ne_one hM (by omega)
   have hnn := Int.ediv_nonneg (show 0 ≤ mq by omega) (show 0 ≤ b by omega)
   obtain ⟨ds', hc', hev⟩ := ih t (mq / b) (by omega) (by omega) hct (ds ++ [mq % b]) (hi.push hb hM)
   have hbits := natbits_ev hc (by omega)
   have hz := bitsOf_zero hc
   rw [decide_eq_false hq0] at hz
   have hb0 := (bitsOf_le hc).1
   have hbp : bitsOf q > 0 := by
    have : bitsOf q ≠ 0 := by simpa using hz
    omega
   have c1 : (ds.map dgt).length < 140737488355328 := by rw [List.length_map]; omega
   have hdig := ref_digit (mq % b) hm0 (by omega)
   refine ⟨ds', hc', Ev.succ (Late.step (hbits.late.and hd.late) (fun k hk => ?_) hev)⟩
   obtain ⟨k1, k2⟩ := hk
   rw [BP.r19Text.l0, k1, Option.bind_some, if_pos hbp, k2, Option.bind_some, List.map_append]
   by_cases hr0 : r = []
   ·subst hr0
    have hz0 : mq % b = 0 := by rw [← hcr.1.2]; rfl
    rw [if_neg (show ¬ ((([] : List Int).length : Int) > 0) by decide)]
    rw [hz0] at hdig ⊢
    rw [hdig, Option.bind_some, if_pos c1]
    rfl
   ·have hrr : r = [mq % b] := by
     refine Can_unique (B := 18446744073709551616) (by omega) hcr (Can_digit ?_ (by omega))
     exact Can_pos (by omega) hcr hr0
    subst hrr
    rw [if_pos (show (([mq % b] : List Int).length : Int) > 0 from Int.one_pos), if_pos (show (0 : Int) < (([mq % b] : List Int).length : Int) from Int.one_pos)]
    show (r19digit.f (wrap64 (mq % b))).bind _ = _
    rw [w64 (by omega) (by omega), hdig, Option.bind_some, if_pos c1]
    rfl
theorem rtext_ev {l : List Int} {n b : Int} (h : Can 18446744073709551616 l n) (hl : l.length < 100000) (hb : 2 ≤ b) (hb' : b ≤ 36) (neg : Bool) (e : Int) :
  ∃ ds, Can b ds n ∧ Ev (fun k => BP.r19Text.f k neg l e b) (textOf neg ds) := by
 have hz := zero_ev h (by omega) neg e
 by_cases h0 : l = []
 ·subst h0
  have hn : n = 0 := by rw [← h.1.2]; rfl
  subst hn
  refine ⟨[], Can_nil b, Late.step (g := fun _ => some (textOf neg [])) hz.late (fun k hk => ?_) (Ev.pure _)⟩
  have hk' : r00Num_Zero.f k neg [] e = some true := hk
  unfold BP.r19Text.f
  rw [hk', Option.bind_some, if_pos rfl]
  rfl
 ·have hp := Can_pos (by omega) h h0
  obtain ⟨bl, hbl, hcb, _⟩ := natof_ev (a := b) (by omega) (by omega)
  obtain rfl := Can_unique (by omega) hcb (Can_digit (B := 18446744073709551616) (show 0 < b by omega) (by omega))
  have hlt : n < b ^ (64 * l.length) := by
   have h6 := V_lt (show (0 : Int) < 18446744073709551616 by omega) h.1.1
   rw [h.1.2] at h6
   have h7 : (18446744073709551616 : Int) ≤ b ^ 64 := pow_mono (a := 2) (by omega) hb 64
   have h8 := pow_mono (show (0 : Int) ≤ 18446744073709551616 by omega) h7 l.length
   rw [← Int.pow_mul] at h8
   exact Int.lt_of_lt_of_le h6 h8
  obtain ⟨ds, hc, hev⟩ := rtext_loop hb hb' neg hlt (by omega) l e n.toNat l n (Nat.le_refl _) (by omega) h [] ⟨Dig_nil b, by simp [V], fun h' => absurd h' (by omega), by omega⟩
  have hne : ds ≠ [] := by
   intro hd
   subst hd
   have : n = 0 := by rw [← hc.1.2]; rfl
   omega
  refine ⟨ds, hc, Late.step (hz.late.and hbl.late) (fun k hk => ?_) (by unfold textOf; rw [if_neg hne]; exact hev)⟩
  obtain ⟨k1, k2⟩ := hk
  rw [decide_eq_false h0] at k1
  unfold BP.r19Text.f
  rw [k1, Option.bind_some, if_neg (by decide), u64 (by omega) (by omega), k2, Option.bind_some]
  rfl
end Go.Proofs.Ytbmddlldadbfnaa.BM
end
section
namespace Go.Proofs.Ytbmddlldadbfnaa.BM
open Go.RowKit Go.Proofs.YtbmddlldadbfnaaW.PrintWords Go.Proofs.YtbmddlldadbfnaaW.PrintLast Go.Proofs.YtbmddlldadbfnaaW.PrintMore
open Go.Proofs.Ytbmddlldadbfnaa.BA (base_Print.f base_may.f limb_Right.f)
open Go.Proofs.Ytbmddlldadbfnaa.BB
theorem right_both (neg : Bool) (l : List Int) (hl : l.length ≤ 17592186044416) : ∃ r, limb_Right.f neg l = some r ∧ BP.r00RightInt.f neg l = some r ∧ (r = true → l.length ≤ 4096 ∧ Top l ∧ (l = [] → neg = false)) := by
 unfold limb_Right.f BP.r00RightInt.f
 by_cases h0 : l = []
 ·subst h0
  cases neg
  ·exact ⟨true, rfl, rfl, fun _ => ⟨by decide, fun h => absurd rfl h, fun _ => rfl⟩⟩
  ·exact ⟨false, rfl, rfl, fun h => by cases h⟩
 ·have hp := List.length_pos_iff.2 h0
  have e : wrap64 ((l.length : Int) - 1) = (l.length : Int) - 1 := w64 (by omega) (by omega)
  have c1 : ¬ (l.length : Int) = 0 := by clear e; omega
  have c2 : (l.length : Int) > 0 := by clear e; omega
  have c4 : 0 ≤ (l.length : Int) - 1 := by clear e; omega
  have c5 : (l.length : Int) - 1 < (l.length : Int) := by clear e; omega
  by_cases c3 : (l.length : Int) ≤ 4096
  ·refine ⟨rd l ((l.length : Int) - 1) != 0, ?_, ?_, fun h => ⟨by clear e; omega, fun hne => ?_, fun h' => absurd h' h0⟩⟩
   ·rw [if_neg c1, if_pos c2, if_pos c3, e, if_pos c4, if_pos c5]
   ·rw [if_neg c1, if_pos c3, e, if_pos c4, if_pos c5]
   ·rw [getLast_rd]
    simpa using h
  ·refine ⟨false, ?_, ?_, fun h => by cases h⟩
   ·rw [if_neg c1, if_pos c2, if_neg c3]
   ·rw [if_neg c1, if_neg c3]
theorem text_size2 {b n : Int} (hb' : b ≤ 36) {neg : Bool} {ds : List Int} (hd : Can b ds n) (hneg : ds = [] → neg = false) :
  ((bodyOf (textOf neg ds)).size : Int) = max (ds.length : Int) 1 ∧ (bt (textOf neg ds) 0 == 45) = neg ∧ ((textOf neg ds).size : Int) = max (ds.length : Int) 1 + (if neg = true then 1 else 0) := by
 by_cases h : ds = []
 ·subst h
  have := hneg rfl
  subst this
  exact ⟨by decide, by decide, by decide⟩
 ·obtain ⟨h1, h2⟩ := out_sign (neg := neg) hb' hd.1.1 h
  have h3 : 0 < ds.length := List.length_pos_iff.2 h
  unfold textOf
  rw [if_neg h]
  refine ⟨?_, h1, ?_⟩
  ·rw [body_size, h2, out_size]
   split <;> omega
  ·rw [out_size]
   split <;> omega
theorem prints_same {l : List Int} (hd : Dig 18446744073709551616 l) (hl : l.length ≤ 17592186044416) (hcap : ¬ (40 < l.length ∧ l.length ≤ 4096)) (neg : Bool) (b : Int) :
  ∃ s e m g, Late fun k => base_Print.f k neg l b = some (s, e) ∧ BP.r19Print.f k neg l b = some (s, e) ∧ base_Count.f k neg l b = some (m, g) ∧ BP.r19Count.f k neg l b = some (m, g) := by
 obtain ⟨r, hr1, hr2, hr3⟩ := right_both neg l hl
 have bad : (r = true → ¬ (2 ≤ b ∧ b ≤ 36)) → ∃ s e m g, Late fun k => base_Print.f k neg l b = some (s, e) ∧ BP.r19Print.f k neg l b = some (s, e) ∧ base_Count.f k neg l b = some (m, g) ∧ BP.r19Count.f k neg l b = some (m, g) := by
  intro hbad
  refine ⟨⟨#[]⟩, 2, 0, 2, 1, fun k hk => ?_⟩
  obtain ⟨k, rfl⟩ : ∃ j, k = j + 1 := ⟨k - 1, by omega⟩
  have p1 : base_Print.f (k + 1) neg l b = some (⟨#[]⟩, 2) := by
   unfold base_Print.f
   rw [hr1, Option.bind_some]
   cases r
   ·rfl
   ·rw [if_pos rfl, may_eq, may_false (hbad rfl), Option.bind_some]
    rfl
  have p2 : BP.r19Print.f (k + 1) neg l b = some (⟨#[]⟩, 2) := by
   unfold BP.r19Print.f
   rw [hr2, Option.bind_some]
   cases r
   ·rfl
   ·rw [if_pos rfl, may_false (hbad rfl), Option.bind_some]
    rfl
  refine ⟨p1, p2, ?_, ?_⟩
  ·unfold base_Count.f
   rw [p1, Option.bind_some]
   rfl
  ·unfold BP.r19Count.f
   rw [p2, Option.bind_some]
   rfl
 cases r
 ·exact bad (fun h => by cases h)
 ·by_cases hb : 2 ≤ b ∧ b ≤ 36
  ·obtain ⟨h1, h2, h3⟩ := hr3 rfl
   have hc : Can 18446744073709551616 l (V 18446744073709551616 l) := ⟨⟨hd, rfl⟩, h2⟩
   obtain ⟨ds, hds, hp⟩ := print_ev hc (by omega) hb.1 hb.2 neg h3
   obtain ⟨ds', hds', hq⟩ := rtext_ev hc (by omega) hb.1 hb.2 neg 0
   obtain rfl := Can_unique (by omega) hds' hds
   have hdsn : ds' = [] → neg = false := fun h => h3 (by
    subst h
    have hv0 : V 18446744073709551616 l = 0 := by rw [← hds'.1.2]; rfl
    rw [hv0] at hc
    exact Can_zero (by omega) hc)
   obtain ⟨e1, e2, e3⟩ := text_size2 hb.2 hds' hdsn
   have hdl : ds'.length ≤ 2560 := by
    refine Can_len (by omega) hds' ?_
    have h6 := V_lt (show (0 : Int) < 18446744073709551616 by omega) hd
    have h7 : (18446744073709551616 : Int) ≤ b ^ 64 := pow_mono (a := 2) (by omega) hb.1 64
    have h8 := pow_mono (show (0 : Int) ≤ 18446744073709551616 by omega) h7 40
    rw [← Int.pow_mul] at h8
    have h9 := pow_le' (B := 18446744073709551616) (by omega) (show l.length ≤ 40 by omega)
    exact Int.lt_of_lt_of_le h6 (Int.le_trans h9 h8)
   have htrim := nattrim_can (by omega) hc (by omega)
   have key := hp.late.and (hq.late.and htrim.late)
   obtain ⟨K, hK⟩ := key
   refine ⟨textOf neg ds', 0, max (ds'.length : Int) 1, 0, K + 1, fun k hk => ?_⟩
   obtain ⟨k, rfl⟩ : ∃ j, k = j + 1 := ⟨k - 1, by omega⟩
   obtain ⟨p1, _⟩ := hK (k + 1) (by omega)
   have q1 : BP.r19Text.f k neg l 0 b = some (textOf neg ds') := (hK k (by omega)).2.1
   have q2 : r00NatTrim.f k l = some l := (hK k (by omega)).2.2
   have p2 : BP.r19Print.f (k + 1) neg l b = some (textOf neg ds', 0) := by
    unfold BP.r19Print.f
    rw [hr2, Option.bind_some, if_pos rfl, may_true hb.1 hb.2, Option.bind_some, BP.r19Print.j0, if_neg (by decide)]
    unfold BP.r00Int.f
    rw [q2, Option.bind_some, Option.bind_some]
    show (BP.r19Text.f k neg l 0 b).bind _ = _
    rw [q1, Option.bind_some]
   refine ⟨p1, p2, ?_, ?_⟩
   ·unfold base_Count.f
    rw [p1, Option.bind_some]
    show (BB.strings_TrimPrefix.f (textOf neg ds') ⟨#[45]⟩).bind _ = _
    rw [show BB.strings_TrimPrefix.f (textOf neg ds') (⟨#[45]⟩ : ByteArray) = some (bodyOf (textOf neg ds')) from trimPrefix _, Option.bind_some, e1]
   ·unfold BP.r19Count.f
    rw [p2, Option.bind_some]
    show (if (0 : Int) = 0 then (if 0 < ((textOf neg ds').size : Int) then (if bt (textOf neg ds') 0 = 45 then some (wrap64 (((textOf neg ds').size : Int) - 1), 0) else some (((textOf neg ds').size : Int), 0)) else none) else some (0, 0)) = _
    rw [if_pos rfl, e3]
    cases neg
    ·have h45 : ¬ bt (textOf false ds') 0 = 45 := by simpa using e2
     simp only [Bool.false_eq_true, if_false, Int.add_zero]
     rw [if_pos (by omega), if_neg h45]
    ·have h45 : bt (textOf true ds') 0 = 45 := by simpa using e2
     simp only [if_true]
     rw [if_pos (by omega), if_pos h45, w64 (by omega) (by omega)]
     congr 2
     omega
  ·exact bad (fun _ => hb)
theorem samelimbs2 (l : List Int) (hl : l.length ≤ 17592186044416) : ∀ (m i : Nat), i + m = l.length → Ev (fun k => rkSameLimbs.l0 k l l i) true := by
 intro m
 induction m with
 | zero =>
  intro i hi
  refine Ev.succ (Ev.congr (Ev.pure _) fun k => ?_)
  rw [rkSameLimbs.l0, if_neg (by omega)]
 | succ m ih =>
  intro i hi
  refine Ev.succ (Ev.congr (ih (i + 1) (by omega)) fun k => ?_)
  have e : wrap64 ((i : Int) + 1) = ((i + 1 : Nat) : Int) := by rw [w64 (by omega) (by omega)]; omega
  have c : (i : Int) < (l.length : Int) := by clear e; omega
  rw [rkSameLimbs.l0, if_pos c, if_pos (Int.natCast_nonneg _), if_pos c, if_pos rfl, e]
theorem sameint2 (n : Bool) (l : List Int) (hl : l.length ≤ 17592186044416) : Ev (fun k => rkSameInt.f k n l n l) true := by
 refine Ev.congr (Ev.bind (g := fun _ t => some t) (samelimbs2 l hl l.length 0 (by omega)) (Ev.pure _)) fun k => ?_
 unfold rkSameInt.f rkSameLimbs.f
 rw [if_pos (by simp), if_pos rfl]
 rfl
theorem mark_f (i : Int) (h0 : 0 ≤ i) (h1 : i < 1000) : BP.rkmark.f 1 i = some (8000024 + i) := by
 unfold BP.rkmark.f
 rw [show wrap64 (1000003 * wrap64 (1 + 7)) = 8000024 from by decide +kernel, w64 (by omega) (by omega)]
theorem kept_loop (l : List Int) (hl : l.length ≤ 17592186044416) : ∀ (m i : Nat), i + m = l.length + 12 → Ev (fun k => BP.rkKeptLimbs.l0 k l (l ++ BP.marks 12) i) true := by
 have hL : (l ++ BP.marks 12).length = l.length + 12 := by rw [List.length_append, BP.marks_len]
 intro m
 induction m with
 | zero =>
  intro i hi
  refine Ev.succ (Ev.congr (Ev.pure _) fun k => ?_)
  rw [BP.rkKeptLimbs.l0, if_neg (by omega)]
 | succ m ih =>
  intro i hi
  refine Ev.succ (Ev.congr (ih (i + 1) (by omega)) fun k => ?_)
  have e : wrap64 ((i : Int) + 1) = ((i + 1 : Nat) : Int) := by rw [w64 (by omega) (by omega)]; omega
  have c0 : (i : Int) < ((l ++ BP.marks 12).length : Int) := by clear e; omega
  rw [BP.rkKeptLimbs.l0, if_pos c0]
  by_cases h : i < l.length
  ·have c1 : (i : Int) < (l.length : Int) := by clear e; omega
   have c2 : ¬ (i : Int) ≥ (l.length : Int) := by clear e; omega
   have er : rd (l ++ BP.marks 12) (i : Int) = rd l (i : Int) := by
    rw [rd_nat _ (by clear e; omega), rd_nat _ h, List.getElem_append_left h]
   rw [if_pos c1, if_pos (Int.natCast_nonneg _), if_pos er, if_neg c2, e]
  ·have c1 : ¬ (i : Int) < (l.length : Int) := by clear e; omega
   have c2 : (i : Int) ≥ (l.length : Int) := by clear e; omega
   obtain ⟨j, hj⟩ : ∃ j, i = l.length + j := ⟨i - l.length, by clear e; omega⟩
   have ew : wrap64 ((i : Int) - (l.length : Int)) = (j : Int) := by rw [w64 (by omega) (by omega)]; omega
   have er : rd (l ++ BP.marks 12) (i : Int) = 8000024 + (j : Int) := by
    rw [rd_nat _ (by clear e ew; omega), List.getElem_append_right (by clear e ew; omega)]
    unfold BP.marks
    rw [List.getElem_map, List.getElem_range]
    clear e ew
    omega
   have eu : IntKind.u64.wrap (8000024 + (j : Int)) = 8000024 + (j : Int) := u64 (by clear e ew; omega) (by clear e ew; omega)
   rw [if_neg c1, if_pos c2, if_pos (Int.natCast_nonneg _), ew, mark_f (j : Int) (by clear e ew; omega) (by clear e ew; omega), Option.bind_some, eu, if_pos er, e]
theorem kept_ev (l : List Int) (hl : l.length ≤ 17592186044416) : Ev (fun k => BP.rkKeptLimbs.l0 k l (l ++ BP.marks 12) 0) true := kept_loop l hl (l.length + 12) 0 (by omega)
end Go.Proofs.Ytbmddlldadbfnaa.BM
end

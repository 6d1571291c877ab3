/- Part of the proof that package base tells any number in any base, and counts its digits, as the reference does, and leaves the number as it was; numbers of more than 40 limbs that may be are not looked at. -/
import Derived.Test.YtbmddlldadbfnaaProg
import Derived.Below
import Derived.Deep.Draws
import Derived.Deep.AppendLies
import Derived.Maps.AppendAt
import Derived.OwnWalk
import Derived.Laws.BytesArg
import Derived.Laws.MakeOwn
import Derived.Laws.OwnMore
import Derived.Deep.OwnRows
import Derived.Tactics
import Derived.Lib.ConvBytes
import Derived.Laws.Slices
import Derived.WalkKit
import Derived.KernelRfl
import Derived.RowKit3
import Derived.Deep.LoopGhost
import Derived.Deep.QuietTactic
import Derived.BigQuiet
import Derived.WideLaws
import Derived.Deep.DeepCutAuto
import Derived.Deep.CutBlock
import Derived.Deep.RegionHeld3
import Derived.Laws.Rows
import Derived.Lib.AppendStr
import Derived.ArgAppend
import Derived.Laws.IdiomCopy
import Derived.OrdersHeld
import Derived.Laws.BitsLemmas
import Derived.RowKit
import Derived.Deep.DeepAppendRoom
import Derived.Test.YtbmddlldadbfnaaCD3
section
namespace Go.Proofs.Ytbmddlldadbfnaa.BM
open Go.RowKit Go.Proofs.YtbmddlldadbfnaaW.PrintWords Go.Proofs.YtbmddlldadbfnaaW.PrintLast Go.Proofs.YtbmddlldadbfnaaW.PrintMore
open Go.Proofs.Ytbmddlldadbfnaa.BA
theorem whole_step (k : Nat) (l x4 : List Int) (nb i j : Nat) (hi : i < nb) (h4 : x4.length = nb) (hj : j = nb - 1 - i) (hj8 : j / 8 < l.length) (hn : nb < 1099511627776) :
  exact_Whole.l0 (k + 1) l x4 nb i = exact_Whole.l0 k l (x4.set i (byteAt l j)) nb ((i + 1 : Nat) : Int) := by
 have e1 : wrap64 ((wrap64 ((x4.length : Int) - 1)) - (i : Int)) = (j : Int) := by rw [w64 (n := (x4.length : Int) - 1) (by omega) (by omega), w64 (by omega) (by omega)]; omega
 have e2 : wrap64 (Int.tdiv ((j : Nat) : Int) 8) = ((j / 8 : Nat) : Int) := by rw [Int.tdiv_eq_ediv_of_nonneg (by omega), w64 (by omega) (by omega)]; omega
 have e3 : wrap64 (8 * (Int.tmod ((j : Nat) : Int) 8)) = ((8 * (j % 8) : Nat) : Int) := by rw [Int.tmod_eq_emod_of_nonneg (by omega), w64 (by omega) (by omega)]; omega
 have e4 : wrap64 ((i : Int) + 1) = ((i + 1 : Nat) : Int) := by rw [w64 (by omega) (by omega)]; omega
 have c1 : (i : Int) < (nb : Int) := by clear e1 e2 e3 e4; omega
 have c2 : ((j / 8 : Nat) : Int) < (l.length : Int) := by clear e1 e2 e3 e4; omega
 have c3 : (i : Int) < (x4.length : Int) := by clear e1 e2 e3 e4; omega
 rw [exact_Whole.l0, if_pos c1, e1, e2, e3, e4, if_pos (Int.natCast_nonneg _), if_pos c2, if_pos (Int.natCast_nonneg _), if_pos (Int.natCast_nonneg _), if_pos c3, shr_byte _ _ (Nat.mod_lt _ (by decide))]
 rfl
theorem whole_loop (l : List Int) (nb : Nat) (hn : nb < 1099511627776) (hl : ∀ j, j < nb → j / 8 < l.length) : ∀ (m i : Nat), i + m = nb →
  Ev (fun k => exact_Whole.l0 k l ((List.range i).map (fun i => byteAt l (nb - 1 - i)) ++ List.replicate m 0) nb i) (bytesOf l nb) := by
 intro m
 induction m with
 | zero =>
  intro i hi
  refine Ev.succ (Ev.congr (Ev.pure _) fun k => ?_)
  have : i = nb := by omega
  subst this
  rw [exact_Whole.l0, if_neg (Int.lt_irrefl _)]
  simp [bytesOf]
 | succ m ih =>
  intro i hi
  refine Ev.succ (Ev.congr (ih (i + 1) (by omega)) fun k => ?_)
  rw [whole_step k l _ nb i (nb - 1 - i) (by omega) (by simp; omega) rfl (hl _ (by omega)) hn]
  have e := set_pad ((List.range i).map (fun i => byteAt l (nb - 1 - i))) (byteAt l (nb - 1 - i)) m
  rw [List.length_map, List.length_range] at e
  rw [e, List.range_succ, List.map_append]
  rfl
theorem wholeB_ev (l : List Int) (hl : l.length < 100000000) : Ev (fun k => exact_Whole.f k l) (bytesOf l (8 * l.length)) := by
 have h := whole_loop l (8 * l.length) (by omega) (fun j hj => by omega) (8 * l.length) 0 (by omega)
 refine Ev.congr h fun k => ?_
 have e : wrap64 (8 * (l.length : Int)) = ((8 * l.length : Nat) : Int) := by rw [w64 (by omega) (by omega)]; omega
 have c : 8 * l.length ≤ 281474976710656 := by clear e; omega
 unfold exact_Whole.f
 rw [e, if_pos (Int.natCast_nonneg _), Int.toNat_natCast, if_pos c]
 simp
theorem or_at {A v : Int} {m : Nat} (hA : 0 ≤ A) (hv0 : 0 ≤ v) (hv : v < 256) (hm : m < 8) (ht : A * 256 ^ (m + 1) + v * 256 ^ m < 18446744073709551616) :
  Go.bits .or .u64 (A * 256 ^ (m + 1)) (shl .u64 (IntKind.u64.wrap v) ((8 * m : Nat) : Int)) = A * 256 ^ (m + 1) + v * 256 ^ m := by
 have hp := pow_pos' (show (0 : Int) < 256 by omega) m
 have hvm := Int.mul_nonneg hv0 (Int.le_of_lt hp)
 have hAm := Int.mul_nonneg hA (Int.le_of_lt (pow_pos' (show (0 : Int) < 256 by omega) (m + 1)))
 have hlt : v * 256 ^ m < 256 ^ (m + 1) := by
  rw [Int.pow_succ, Int.mul_comm ((256 : Int) ^ m)]
  exact Int.mul_lt_mul_of_pos_right hv hp
 have e1 : shl .u64 (IntKind.u64.wrap v) ((8 * m : Nat) : Int) = v * 256 ^ m := by
  unfold shl
  rw [u64 hv0 (by omega), show min ((8 * m : Nat) : Int).toNat IntKind.u64.bits = 8 * m by simp [IntKind.bits]; omega, pow256]
  exact u64 hvm (by omega)
 rw [e1]
 obtain ⟨a, ha⟩ := Int.eq_ofNat_of_zero_le hA
 obtain ⟨b, hb⟩ := Int.eq_ofNat_of_zero_le hvm
 have hP : ((2 ^ (8 * (m + 1)) : Nat) : Int) = (256 : Int) ^ (m + 1) := by rw [← pow256, Int.natCast_pow]; rfl
 have hA2 : A * 256 ^ (m + 1) = ((2 ^ (8 * (m + 1)) * a : Nat) : Int) := by rw [Int.natCast_mul, hP, ha]; exact Int.mul_comm _ _
 have hb2 : b < 2 ^ (8 * (m + 1)) := by omega
 rw [hA2, hb] at ht ⊢
 rw [bits_or_u64_nat _ b (by omega) (by omega), ← Nat.two_pow_add_eq_or_of_lt hb2]
 omega
def cleared (x : Int) (c : Nat) : Int := x / 256 ^ c * 256 ^ c
theorem cleared_zero (x : Int) : cleared x 0 = x := by simp [cleared]
theorem cleared_step (x : Int) (m : Nat) : x / 256 ^ (m + 1) * 256 ^ (m + 1) + x / 256 ^ m % 256 * 256 ^ m = cleared x m := by
 have := div_step x m
 unfold cleared
 rw [← this, Int.pow_succ]
 grind
theorem cleared_le {x : Int} (_h : 0 ≤ x) (m : Nat) : cleared x m ≤ x := by
 have := Int.ediv_mul_le x (show (256 : Int) ^ m ≠ 0 from Int.ne_of_gt (pow_pos' (by omega) m))
 exact this
theorem set_step (k : Nat) (bs x5 : List Int) (i j : Nat) (y : Int) (hi : i < bs.length) (hj : j = bs.length - 1 - i) (hj8 : j / 8 < x5.length) (hn : bs.length < 1099511627776)
  (hy : Go.bits .or .u64 (rd x5 ((j / 8 : Nat) : Int)) (shl .u64 (IntKind.u64.wrap (rd bs (i : Int))) ((8 * (j % 8) : Nat) : Int)) = y) :
  bISetBytes.l0 (k + 1) bs x5 bs.length i = bISetBytes.l0 k bs (x5.set (j / 8) y) bs.length ((i + 1 : Nat) : Int) := by
 have e1 : wrap64 ((wrap64 ((bs.length : Int) - 1)) - (i : Int)) = (j : Int) := by rw [w64 (n := (bs.length : Int) - 1) (by omega) (by omega), w64 (by omega) (by omega)]; omega
 have e2 : wrap64 (Int.tdiv ((j : Nat) : Int) 8) = ((j / 8 : Nat) : Int) := by rw [Int.tdiv_eq_ediv_of_nonneg (by omega), w64 (by omega) (by omega)]; omega
 have e3 : wrap64 (8 * (Int.tmod ((j : Nat) : Int) 8)) = ((8 * (j % 8) : Nat) : Int) := by rw [Int.tmod_eq_emod_of_nonneg (by omega), w64 (by omega) (by omega)]; omega
 have e4 : wrap64 ((i : Int) + 1) = ((i + 1 : Nat) : Int) := by rw [w64 (by omega) (by omega)]; omega
 rw [bISetBytes.l0, if_pos (Int.ofNat_lt.2 hi), e1, e2, e3, e4, if_pos (Int.natCast_nonneg _), if_pos (Int.ofNat_lt.2 hj8), if_pos (Int.natCast_nonneg _), if_pos (Int.ofNat_lt.2 hi), if_pos (Int.natCast_nonneg _), hy, Int.toNat_natCast]
theorem setbytes_loop {l : List Int} (hd : Dig 18446744073709551616 l) (hlen : l.length < 100000000) : ∀ (m i : Nat) (x5 : List Int), i + m = 8 * l.length → x5.length = l.length + 1 →
  (∀ t : Nat, t < l.length → rd x5 (t : Int) = cleared (rd l (t : Int)) (min (8 * l.length - i - 8 * t) 8)) → rd x5 ((l.length : Nat) : Int) = 0 →
  Ev (fun k => bISetBytes.l0 k (bytesOf l (8 * l.length)) x5 (bytesOf l (8 * l.length)).length i) (l ++ [0]) := by
 have hnl : (bytesOf l (8 * l.length)).length = 8 * l.length := by simp [bytesOf]
 intro m
 induction m with
 | zero =>
  intro i x5 hi hl hv hz
  refine Ev.succ (Ev.congr (Ev.pure _) fun k => ?_)
  rw [bISetBytes.l0, if_neg (by omega)]
  congr 1
  apply List.ext_getElem
  ·simp [hl]
  ·intro t h1 h2
   rcases Nat.lt_or_ge t l.length with hlt | hge
   ·have h3 := hv t hlt
    rw [show min (8 * l.length - i - 8 * t) 8 = 0 by omega, cleared_zero, rd_nat _ h1, rd_nat _ hlt] at h3
    rw [List.getElem_append_left hlt, h3]
   ·have : t = l.length := by omega
    subst this
    rw [rd_nat _ h1] at hz
    rw [hz]
    simp
 | succ m ih =>
  intro i x5 hi hl hv hz
  obtain ⟨j, hj⟩ : ∃ j, j = 8 * l.length - 1 - i := ⟨_, rfl⟩
  have hjt : j / 8 < l.length := by omega
  have hx := rd_dig hd (i := ((j / 8 : Nat) : Int)) (by omega) (by omega)
  have hb : rd (bytesOf l (8 * l.length)) (i : Int) = byteAt l j := by
   rw [rd_nat _ (by rw [hnl]; omega), rd_bytes l (8 * l.length) i (by omega), ← hj]
  have hold := hv (j / 8) hjt
  rw [show min (8 * l.length - i - 8 * (j / 8)) 8 = j % 8 + 1 by omega] at hold
  have hbr := byteAt_range l j
  have hle := cleared_le hx.1 (j % 8)
  have hcs := cleared_step (rd l ((j / 8 : Nat) : Int)) (j % 8)
  have hy : Go.bits .or .u64 (rd x5 ((j / 8 : Nat) : Int)) (shl .u64 (IntKind.u64.wrap (rd (bytesOf l (8 * l.length)) (i : Int))) ((8 * (j % 8) : Nat) : Int)) = cleared (rd l ((j / 8 : Nat) : Int)) (j % 8) := by
   rw [hold, hb]
   unfold cleared
   rw [or_at (Int.ediv_nonneg hx.1 (Int.pow_nonneg (by omega))) hbr.1 hbr.2 (by omega) (by unfold byteAt; rw [hcs]; omega)]
   unfold byteAt
   rw [hcs]
   rfl
  refine Ev.succ (Ev.congr (ih (i + 1) (x5.set (j / 8) (cleared (rd l ((j / 8 : Nat) : Int)) (j % 8))) (by omega) (by rw [List.length_set]; exact hl) (fun t ht => ?_) ?_) fun k => ?_)
  ·rw [rd_set _ _ _ _ (by omega)]
   by_cases h : t = j / 8
   ·rw [if_pos h, h, show min (8 * l.length - (i + 1) - 8 * (j / 8)) 8 = j % 8 by omega]
   ·rw [if_neg h, hv t ht]
    congr 1
    omega
  ·rw [rd_set _ _ _ _ (by omega), if_neg (by omega)]
   exact hz
  ·exact set_step k _ x5 i j _ (by rw [hnl]; omega) (by rw [hnl]; omega) (by omega) (by rw [hnl]; omega) hy
theorem setbytes_ev {l : List Int} (hd : Dig 18446744073709551616 l) (hlen : l.length < 100000000) : Ev (fun k => bISetBytes.f k 0 (bytesOf l (8 * l.length))) (l ++ [0]) := by
 have hnl : (bytesOf l (8 * l.length)).length = 8 * l.length := by simp [bytesOf]
 have hrep : ∀ t : Nat, rd (List.replicate (l.length + 1) 0) (t : Int) = 0 := by
  intro t
  unfold rd
  simp [List.getD_eq_getElem?_getD, List.getElem?_replicate]
  split <;> rfl
 have h := setbytes_loop hd hlen (8 * l.length) 0 (List.replicate (l.length + 1) 0) (by omega) (by simp) (fun t ht => by
  have hx := rd_dig hd (i := (t : Int)) (by omega) (by omega)
  rw [hrep, show min (8 * l.length - 0 - 8 * t) 8 = 8 by omega]
  unfold cleared
  rw [Int.ediv_eq_zero_of_lt hx.1 (show rd l (t : Int) < 256 ^ 8 from hx.2), Int.zero_mul]) (hrep _)
 refine Ev.congr h fun k => ?_
 have e : wrap64 ((wrap64 (((bytesOf l (8 * l.length)).length : Int) / 8)) + 1) = ((l.length + 1 : Nat) : Int) := by
  rw [hnl, w64 (n := ((8 * l.length : Nat) : Int) / 8) (by omega) (by omega), w64 (by omega) (by omega)]; omega
 have c : l.length + 1 ≤ 35184372088832 := by clear e; omega
 unfold bISetBytes.f
 rw [e, if_pos (Int.natCast_nonneg _), Int.toNat_natCast, if_pos c]
 rfl
theorem exactInt_ev {l : List Int} {n : Int} (h : Can 18446744073709551616 l n) (hl : l.length < 100000000) (neg : Bool) : Ev (fun k => exact_Int.f k neg l) (neg && decide (0 < l.length), l) := by
 have h1 := wholeB_ev l hl
 have h2 := setbytes_ev h.1.1 hl
 obtain ⟨r, h3, hc, _⟩ := trim_ev 18446744073709551616 (l.length + 1) (l := l ++ [0]) (n := n) (by simp) (by omega) ⟨Dig_snoc h.1.1 (by omega) (by omega), by rw [V_snoc, h.1.2]; simp⟩
 have := Can_unique (by omega) hc h
 subst this
 have h4 := trim_can (by omega) h (by omega)
 refine Late.step (g := fun _ => some (neg && decide (0 < r.length), r)) (h1.late.and (h2.late.and (h3.late.and h4.late))) (fun k hk => ?_) (Ev.pure _)
 have k1 : exact_Whole.f k r = some (bytesOf r (8 * r.length)) := hk.1
 have k2 : bISetBytes.f k 0 (bytesOf r (8 * r.length)) = some (r ++ [0]) := hk.2.1
 have k3 : big_trim.f k (r ++ [0]) = some r := hk.2.2.1
 have k4 : big_trim.f k r = some r := hk.2.2.2
 unfold exact_Int.f
 rw [k1, Option.bind_some, k2, Option.bind_some, k3, Option.bind_some]
 cases neg
 ·rfl
 ·rw [if_pos rfl, clone_f r (by omega), Option.bind_some, k4, Option.bind_some]
  rfl
end Go.Proofs.Ytbmddlldadbfnaa.BM
end
section
namespace Go.Proofs.Ytbmddlldadbfnaa.BM
open Go.RowKit Go.Proofs.YtbmddlldadbfnaaW.PrintWords Go.Proofs.YtbmddlldadbfnaaW.PrintLast Go.Proofs.YtbmddlldadbfnaaW.PrintMore
open Go.Proofs.Ytbmddlldadbfnaa.BA
theorem guess (y yn1 yn0 u d q rh : Int) (hy : y = yn1 * 4294967296 + yn0) (hq : q * yn1 + rh = u) : (q * yn0 > 4294967296 * rh + d) ↔ u * 4294967296 + d < q * y := by
 have e : q * y = (u - rh) * 4294967296 + q * yn0 := by rw [hy, ← hq]; grind
 rw [e]
 omega
structure Guess (y yn1 yn0 u d Q : Int) : Prop where
 hy : y = yn1 * 4294967296 + yn0
 h1 : 2147483648 ≤ yn1
 h2 : yn1 < 4294967296
 h3 : 0 ≤ yn0
 h4 : yn0 < 4294967296
 hu0 : 0 ≤ u
 hu : u < y
 hd0 : 0 ≤ d
 hd : d < 4294967296
 hQ : Q = (u * 4294967296 + d) / y
theorem Guess.le {y yn1 yn0 u d Q : Int} (g : Guess y yn1 yn0 u d Q) (q : Int) : q ≤ Q ↔ q * y ≤ u * 4294967296 + d := by
 rw [g.hQ]
 have := g.hu0; have := g.hu
 exact Int.le_ediv_iff_mul_le (by omega)
theorem Guess.range {y yn1 yn0 u d Q : Int} (g : Guess y yn1 yn0 u d Q) : 0 ≤ Q ∧ Q < 4294967296 := by
 have h0 := g.hu0; have h1 := g.hu; have h2 := g.hd0; have h3 := g.hd
 refine ⟨by rw [g.hQ]; exact Int.ediv_nonneg (by omega) (by omega), ?_⟩
 rcases Int.lt_or_le Q 4294967296 with h | h
 ·exact h
 ·have := (g.le 4294967296).1 h
  omega
theorem Guess.test {y yn1 yn0 u d Q q rh : Int} (g : Guess y yn1 yn0 u d Q) (hq : q * yn1 + rh = u) (_hr0 : 0 ≤ rh) (_hr : rh < 4294967296) (hge : Q ≤ q) (hle : q ≤ 4294967297) :
  ((q ≥ 4294967296 ∨ q * yn0 > 4294967296 * rh + d) → Q ≤ q - 1 ∧ (q - 1) * yn1 + (rh + yn1) = u ∧ (4294967296 ≤ rh + yn1 → q - 1 = Q)) ∧ (¬ (q ≥ 4294967296 ∨ q * yn0 > 4294967296 * rh + d) → q = Q) := by
 have hrg := g.range
 have hgs := guess y yn1 yn0 u d q rh g.hy hq
 have hl := g.le q
 refine ⟨fun h => ?_, fun h => ?_⟩
 ·have h1 : Q ≤ q - 1 := by
   rcases h with h | h
   ·omega
   ·have := hgs.1 h
    have : ¬ q ≤ Q := fun h' => by have := hl.1 h'; omega
    omega
  have h2 : (q - 1) * yn1 + (rh + yn1) = u := by rw [Int.sub_mul]; omega
  refine ⟨h1, h2, fun hb => ?_⟩
  have hgs2 := guess y yn1 yn0 u d (q - 1) (rh + yn1) g.hy h2
  have hn : ¬ ((q - 1) * yn0 > 4294967296 * (rh + yn1) + d) := by
   have h3 := g.h3; have h4 := g.h4; have hd0 := g.hd0
   have := Int.mul_le_mul (show q - 1 ≤ 4294967296 by omega) (show yn0 ≤ 4294967295 by omega) h3 (by omega)
   omega
  have : (q - 1) * y ≤ u * 4294967296 + d := by
   rcases Int.lt_or_le (u * 4294967296 + d) ((q - 1) * y) with h' | h'
   ·exact absurd (hgs2.2 h') hn
   ·exact h'
  have := (g.le (q - 1)).2 this
  omega
 ·have : ¬ (u * 4294967296 + d < q * y) := fun h' => h (.inr (hgs.2 h'))
  have := hl.2 (by omega)
  omega
theorem Guess.first {y yn1 yn0 u d Q : Int} (g : Guess y yn1 yn0 u d Q) : Q ≤ u / yn1 ∧ u / yn1 ≤ 4294967297 ∧ u / yn1 * yn1 + u % yn1 = u ∧ 0 ≤ u % yn1 ∧ u % yn1 < 4294967296 ∧ 0 ≤ u / yn1 := by
 have h1 := g.h1; have h2 := g.h2; have h3 := g.h3; have h4 := g.h4; have hu0 := g.hu0; have hu := g.hu; have hy := g.hy; have hd0 := g.hd0; have hd := g.hd
 have hr0 := Int.emod_nonneg u (show yn1 ≠ 0 by omega)
 have hr := Int.emod_lt_of_pos u (show 0 < yn1 by omega)
 have he : u / yn1 * yn1 + u % yn1 = u := by have := Int.mul_ediv_add_emod u yn1; rw [Int.mul_comm]; exact this
 refine ⟨?_, ?_, he, hr0, by omega, Int.ediv_nonneg hu0 (by omega)⟩
 ·have hrg := g.range
  have hq := (g.le Q).1 (Int.le_refl _)
  rw [Int.le_ediv_iff_mul_le (by omega)]
  have hm := Int.mul_nonneg hrg.1 h3
  have e : Q * y = Q * yn1 * 4294967296 + Q * yn0 := by rw [hy]; grind
  omega
 ·have : u / yn1 < 4294967298 := by
   rw [Int.ediv_lt_iff_lt_mul (by omega)]
   omega
  omega
theorem dv_test (q yn0 rh d : Int) (q0 : 0 ≤ q) (h3 : 0 ≤ yn0) (h4 : yn0 < 4294967296) (hr0 : 0 ≤ rh) (hr : rh < 4294967296) (hd0 : 0 ≤ d) (hd : d < 4294967296) (hq : q < 4294967296) :
  decide ((IntKind.u64.wrap (q * yn0)) > (IntKind.u64.wrap ((IntKind.u64.wrap (4294967296 * rh)) + d))) = decide (q * yn0 > 4294967296 * rh + d) := by
 have hm0 := Int.mul_nonneg q0 h3
 have hm1 := Int.mul_le_mul (show q ≤ 4294967295 by omega) (show yn0 ≤ 4294967295 by omega) h3 (by omega)
 rw [u64 hm0 (by omega), u64 (n := 4294967296 * rh) (by omega) (by omega), u64 (by omega) (by omega)]
theorem dv_loop1 {y s yn1 yn0 u d u0 Q : Int} (g : Guess y yn1 yn0 u d Q) {r : Int × Int} (hr : Ev (fun k => bits_Div64.j2 k y s yn1 yn0 u d u0 Q) r) :
  ∀ (m : Nat) (q rh : Int), (q - Q).toNat ≤ m → q * yn1 + rh = u → 0 ≤ rh → rh < 4294967296 → Q ≤ q → q ≤ 4294967297 → Ev (fun k => bits_Div64.l0 k y s yn1 yn0 u d u0 q rh) r := by
 have hrg := g.range
 have h1 := g.h1; have h2 := g.h2; have h3 := g.h3; have h4 := g.h4; have hd0 := g.hd0; have hd := g.hd
 intro m
 induction m with
 | zero =>
  intro q rh hm hq hr0 hrl hge hle
  obtain ⟨t1, t2⟩ := g.test hq hr0 hrl hge hle
  have hn : ¬ (q ≥ 4294967296 ∨ q * yn0 > 4294967296 * rh + d) := fun h => by have := (t1 h).1; omega
  have hqQ := t2 hn
  subst hqQ
  refine Ev.succ (Ev.succ (Ev.congr hr fun k => ?_))
  rw [bits_Div64.l0, if_neg (fun h => hn (.inl h)), dv_test q yn0 rh d hrg.1 h3 h4 hr0 hrl hd0 hd hrg.2, decide_eq_false (fun h => hn (.inr h)), bits_Div64.j1, if_neg (by decide)]
 | succ m ih =>
  intro q rh hm hq hr0 hrl hge hle
  obtain ⟨t1, t2⟩ := g.test hq hr0 hrl hge hle
  by_cases hc : q ≥ 4294967296 ∨ q * yn0 > 4294967296 * rh + d
  ·obtain ⟨a1, a2, a3⟩ := t1 hc
   have hhead : ∀ k, bits_Div64.l0 (k + 1 + 1) y s yn1 yn0 u d u0 q rh = bits_Div64.j1 (k + 1) y s yn1 yn0 u d u0 q rh true := by
    intro k
    rw [bits_Div64.l0]
    by_cases hb : q ≥ 4294967296
    ·rw [if_pos hb]
    ·rw [if_neg hb, dv_test q yn0 rh d (by omega) h3 h4 hr0 hrl hd0 hd (by omega), decide_eq_true (hc.elim (fun h => absurd h hb) id)]
   have e1 : IntKind.u64.wrap (rh + yn1) = rh + yn1 := u64 (by omega) (by omega)
   have e2 : IntKind.u64.wrap (q - 1) = q - 1 := u64 (by omega) (by omega)
   by_cases hb : 4294967296 ≤ rh + yn1
   ·have := a3 hb
    refine Ev.succ (Ev.succ (Ev.congr hr fun k => ?_))
    rw [hhead, bits_Div64.j1, if_pos rfl, e1, e2, if_pos hb, this]
   ·refine Ev.succ (Ev.succ (Ev.congr (ih (q - 1) (rh + yn1) (by omega) a2 (by omega) (by omega) a1 (by omega)) fun k => ?_))
    rw [hhead, bits_Div64.j1, if_pos rfl, e1, e2, if_neg hb]
  ·have hqQ := t2 hc
   subst hqQ
   refine Ev.succ (Ev.succ (Ev.congr hr fun k => ?_))
   rw [bits_Div64.l0, if_neg (fun h => hc (.inl h)), dv_test q yn0 rh d hrg.1 h3 h4 hr0 hrl hd0 hd hrg.2, decide_eq_false (fun h => hc (.inr h)), bits_Div64.j1, if_neg (by decide)]
theorem dv_loop2 {y s yn1 yn0 u d q1 Q : Int} (g : Guess y yn1 yn0 u d Q) {r : Int × Int} (hs : 0 ≤ s) (hr : some (IntKind.u64.wrap ((IntKind.u64.wrap (q1 * 4294967296)) + Q), shr .u64 (IntKind.u64.wrap ((IntKind.u64.wrap ((IntKind.u64.wrap (u * 4294967296)) + d)) - (IntKind.u64.wrap (Q * y)))) s) = some r) :
  ∀ (m : Nat) (q rh : Int), (q - Q).toNat ≤ m → q * yn1 + rh = u → 0 ≤ rh → rh < 4294967296 → Q ≤ q → q ≤ 4294967297 → Ev (fun k => bits_Div64.l1 k y s yn1 yn0 d q1 rh u q) r := by
 have hrg := g.range
 have h1 := g.h1; have h2 := g.h2; have h3 := g.h3; have h4 := g.h4; have hd0 := g.hd0; have hd := g.hd
 intro m
 induction m with
 | zero =>
  intro q rh hm hq hr0 hrl hge hle
  obtain ⟨t1, t2⟩ := g.test hq hr0 hrl hge hle
  have hn : ¬ (q ≥ 4294967296 ∨ q * yn0 > 4294967296 * rh + d) := fun h => by have := (t1 h).1; omega
  have hqQ := t2 hn
  subst hqQ
  refine Ev.succ (Ev.succ (Ev.congr (Ev.pure r) fun k => ?_))
  rw [bits_Div64.l1, if_neg (fun h => hn (.inl h)), dv_test q yn0 rh d hrg.1 h3 h4 hr0 hrl hd0 hd hrg.2, decide_eq_false (fun h => hn (.inr h)), bits_Div64.j4, if_neg (by decide), if_pos hs, hr]
 | succ m ih =>
  intro q rh hm hq hr0 hrl hge hle
  obtain ⟨t1, t2⟩ := g.test hq hr0 hrl hge hle
  by_cases hc : q ≥ 4294967296 ∨ q * yn0 > 4294967296 * rh + d
  ·obtain ⟨a1, a2, a3⟩ := t1 hc
   have hhead : ∀ k, bits_Div64.l1 (k + 1 + 1) y s yn1 yn0 d q1 rh u q = bits_Div64.j4 (k + 1) y s yn1 yn0 d q1 rh u q true := by
    intro k
    rw [bits_Div64.l1]
    by_cases hb : q ≥ 4294967296
    ·rw [if_pos hb]
    ·rw [if_neg hb, dv_test q yn0 rh d (by omega) h3 h4 hr0 hrl hd0 hd (by omega), decide_eq_true (hc.elim (fun h => absurd h hb) id)]
   have e1 : IntKind.u64.wrap (rh + yn1) = rh + yn1 := u64 (by omega) (by omega)
   have e2 : IntKind.u64.wrap (q - 1) = q - 1 := u64 (by omega) (by omega)
   by_cases hb : 4294967296 ≤ rh + yn1
   ·have := a3 hb
    refine Ev.succ (Ev.succ (Ev.congr (Ev.pure r) fun k => ?_))
    rw [hhead, bits_Div64.j4, if_pos rfl, e1, e2, if_pos hb, this, if_pos hs, hr]
   ·refine Ev.succ (Ev.succ (Ev.congr (ih (q - 1) (rh + yn1) (by omega) a2 (by omega) (by omega) a1 (by omega)) fun k => ?_))
    rw [hhead, bits_Div64.j4, if_pos rfl, e1, e2, if_neg hb]
  ·have hqQ := t2 hc
   subst hqQ
   refine Ev.succ (Ev.succ (Ev.congr (Ev.pure r) fun k => ?_))
   rw [bits_Div64.l1, if_neg (fun h => hc (.inl h)), dv_test q yn0 rh d hrg.1 h3 h4 hr0 hrl hd0 hd hrg.2, decide_eq_false (fun h => hc (.inr h)), bits_Div64.j4, if_neg (by decide), if_pos hs, hr]
end Go.Proofs.Ytbmddlldadbfnaa.BM
end
section
namespace Go.Proofs.Ytbmddlldadbfnaa.BM
open Go.RowKit Go.Proofs.YtbmddlldadbfnaaW.PrintWords Go.Proofs.YtbmddlldadbfnaaW.PrintLast Go.Proofs.YtbmddlldadbfnaaW.PrintMore
open Go.Proofs.Ytbmddlldadbfnaa.BA
theorem or_sum {a b : Int} {s : Nat} (ha : 0 ≤ a) (hb0 : 0 ≤ b) (hb : b < 2 ^ s) (ht : a * 2 ^ s + b < 18446744073709551616) : Go.bits .or .u64 (a * 2 ^ s) b = a * 2 ^ s + b := by
 obtain ⟨x, hx⟩ := Int.eq_ofNat_of_zero_le ha
 obtain ⟨z, hz⟩ := Int.eq_ofNat_of_zero_le hb0
 have hP : ((2 ^ s : Nat) : Int) = (2 : Int) ^ s := by rw [Int.natCast_pow]; rfl
 have e : a * 2 ^ s = ((2 ^ s * x : Nat) : Int) := by rw [Int.natCast_mul, hP, hx]; exact Int.mul_comm _ _
 have hz2 : z < 2 ^ s := by omega
 rw [e, hz] at ht ⊢
 rw [bits_or_u64_nat _ z (by omega) (by omega), ← Nat.two_pow_add_eq_or_of_lt hz2]
 omega
theorem wrap_mod (a d p r : Int) (h : a * 4294967296 + d - p = r) (h0 : 0 ≤ r) (h1 : r < 18446744073709551616) : IntKind.u64.wrap ((IntKind.u64.wrap ((IntKind.u64.wrap (a * 4294967296)) + d)) - (IntKind.u64.wrap p)) = r := by
 rw [u64m, u64m, u64m, u64m]
 omega
theorem dv_two {N P y y' u un10 un21 Q1 Q0 r : Int} (hP : 0 < P) (hy0 : 0 < y) (hy : y' = y * P) (hN : N * P = u * 18446744073709551616 + un10) (h1 : u * 4294967296 + un10 / 4294967296 = Q1 * y' + un21) (h2 : un21 * 4294967296 + un10 % 4294967296 = Q0 * y' + r)
  (hr0 : 0 ≤ r) (hr : r < y') : N / y = Q1 * 4294967296 + Q0 ∧ N % y = r / P := by
 have e : N * P = (Q1 * 4294967296 + Q0) * y' + r := by
  have hd := Int.mul_ediv_add_emod un10 4294967296
  rw [hN]
  have : (Q1 * 4294967296 + Q0) * y' = Q1 * y' * 4294967296 + Q0 * y' := by grind
  rw [this]
  omega
 have e2 : (N - (Q1 * 4294967296 + Q0) * y) * P = r := by
  rw [Int.sub_mul, e, hy]
  have : (Q1 * 4294967296 + Q0) * y * P = (Q1 * 4294967296 + Q0) * (y * P) := Int.mul_assoc _ _ _
  omega
 generalize hq : Q1 * 4294967296 + Q0 = Q at e2 ⊢
 generalize hrho : N - Q * y = rho at e2
 have hrho0 : 0 ≤ rho := by
  rcases Int.lt_or_le rho 0 with h | h
  ·have := Int.mul_lt_mul_of_pos_right h hP; rw [Int.zero_mul] at this; omega
  ·exact h
 have hrho1 : rho < y := by
  rcases Int.lt_or_le rho y with h | h
  ·exact h
  ·have := Int.mul_le_mul_of_nonneg_right h (Int.le_of_lt hP); rw [← hy] at this; omega
 have eN : N = rho + y * Q := by rw [Int.mul_comm y Q]; omega
 refine ⟨?_, ?_⟩
 ·rw [eN, Int.add_mul_ediv_left _ _ (by omega), Int.ediv_eq_zero_of_lt hrho0 hrho1, Int.zero_add]
 ·rw [eN, Int.add_mul_emod_self_left, Int.emod_eq_of_lt hrho0 hrho1, ← e2, Int.mul_ediv_cancel _ (by omega)]
theorem dv_split {hi lo : Int} {s : Nat} (hs : s ≤ 64) : (hi * 18446744073709551616 + lo) * 2 ^ s = (hi * 2 ^ s + lo / 2 ^ (64 - s)) * 18446744073709551616 + lo * 2 ^ s % 18446744073709551616 := by
 have hW : (18446744073709551616 : Int) = 2 ^ s * 2 ^ (64 - s) := by rw [← Int.pow_add, show s + (64 - s) = 64 by omega]; rfl
 have h1 := Int.mul_ediv_add_emod (lo * 2 ^ s) 18446744073709551616
 have h2 : lo * 2 ^ s / 18446744073709551616 = lo / 2 ^ (64 - s) := by
  rw [hW, Int.mul_comm lo]
  exact Int.mul_ediv_mul_of_pos _ _ (pow_pos' (by omega) s)
 rw [h2] at h1
 grind
theorem div64_ev {hi lo y : Int} (h0 : 0 ≤ hi) (h1 : hi < y) (hy : y < 18446744073709551616) (hl0 : 0 ≤ lo) (hl : lo < 18446744073709551616) :
  Ev (fun k => bits_Div64.f k hi lo y) ((hi * 18446744073709551616 + lo) / y, (hi * 18446744073709551616 + lo) % y) := by
 by_cases hz : hi = 0
 ·subst hz
  refine Ev.congr (Ev.pure _) fun k => ?_
  have a1 : IntKind.u64.wrap (Int.tdiv lo y) = lo / y := by
   rw [Int.tdiv_eq_ediv_of_nonneg hl0]
   have := Int.ediv_le_self y hl0
   exact u64 (Int.ediv_nonneg hl0 (by omega)) (by omega)
  unfold bits_Div64.f
  rw [if_neg (by omega), if_neg (by omega), if_pos rfl, a1, Int.tmod_eq_emod_of_nonneg hl0, Int.zero_mul, Int.zero_add]
 ·have hlz := lz_ev y (by omega) hy
  have hb64 := bitLen_le64 (x := y.toNat) (by omega)
  have hspec := bitLen_spec y.toNat
  obtain ⟨s, hs⟩ : ∃ s : Nat, s = 64 - bitLen y.toNat := ⟨_, rfl⟩
  have hs64 : (64 : Int) - (bitLen y.toNat : Int) = (s : Int) := by omega
  have hbp := bitLen_pos (x := y.toNat) (by omega)
  rw [hs64] at hlz
  have hpos : (0 : Int) < 2 ^ s := pow_pos' (by omega) s
  have hpos2 : (0 : Int) < 2 ^ (64 - s) := pow_pos' (by omega) _
  have hW : (2 : Int) ^ s * 2 ^ (64 - s) = 18446744073709551616 := by rw [← Int.pow_add, show s + (64 - s) = 64 by omega]; rfl
  have yup : y * 2 ^ s < 18446744073709551616 := by
   have : y < 2 ^ (64 - s) := by
    have h := hspec.1
    have e : ((2 ^ bitLen y.toNat : Nat) : Int) = (2 : Int) ^ (64 - s) := by rw [Int.natCast_pow, show 64 - s = bitLen y.toNat by omega]; rfl
    omega
   have := Int.mul_lt_mul_of_pos_right this hpos
   rw [Int.mul_comm ((2 : Int) ^ (64 - s))] at this
   omega
  have ylo : 9223372036854775808 ≤ y * 2 ^ s := by
   have h := hspec.2 (by omega)
   have e : ((2 ^ (bitLen y.toNat - 1) : Nat) : Int) = (2 : Int) ^ (63 - s) := by rw [Int.natCast_pow, show 63 - s = bitLen y.toNat - 1 by omega]; rfl
   have h2 : (2 : Int) ^ (63 - s) ≤ y := by omega
   have := Int.mul_le_mul_of_nonneg_right h2 (Int.le_of_lt hpos)
   have e2 : (2 : Int) ^ (63 - s) * 2 ^ s = 9223372036854775808 := by rw [← Int.pow_add, show 63 - s + s = 63 by omega]; rfl
   omega
  have hlow0 : 0 ≤ lo / 2 ^ (64 - s) := Int.ediv_nonneg hl0 (Int.le_of_lt hpos2)
  have hlow : lo / 2 ^ (64 - s) < 2 ^ s := by
   rw [Int.ediv_lt_iff_lt_mul hpos2, hW]; exact hl
  have hhi : hi * 2 ^ s + 2 ^ s ≤ y * 2 ^ s := by
   have := Int.mul_le_mul_of_nonneg_right (show hi + 1 ≤ y by omega) (Int.le_of_lt hpos)
   rw [Int.add_mul, Int.one_mul] at this
   exact this
  have hhi0 := Int.mul_nonneg h0 (Int.le_of_lt hpos)
  have hsplit := dv_split (hi := hi) (lo := lo) (s := s) (by omega)
  obtain ⟨u, hu⟩ : ∃ u, u = hi * 2 ^ s + lo / 2 ^ (64 - s) := ⟨_, rfl⟩
  obtain ⟨v, hv⟩ : ∃ v, v = lo * 2 ^ s % 18446744073709551616 := ⟨_, rfl⟩
  obtain ⟨y', hy'⟩ : ∃ y', y' = y * 2 ^ s := ⟨_, rfl⟩
  have hv0 : 0 ≤ v := by rw [hv]; exact Int.emod_nonneg _ (by omega)
  have hv1 : v < 18446744073709551616 := by rw [hv]; exact Int.emod_lt_of_pos _ (by omega)
  rw [← hu, ← hv] at hsplit
  have m1 : min ((s : Nat) : Int).toNat IntKind.u64.bits = s := by simp [IntKind.bits]; omega
  have m2 : min ((64 : Int) - (s : Int)).toNat IntKind.u64.bits = 64 - s := by show min ((64 : Int) - (s : Int)).toNat 64 = 64 - s; omega
  have f1 : shl .u64 y (s : Int) = y' := by unfold shl; rw [m1, hy']; exact u64 (by omega) yup
  have f2 : shl .u64 hi (s : Int) = hi * 2 ^ s := by unfold shl; rw [m1]; exact u64 hhi0 (by omega)
  have f3 : shr .u64 lo ((64 : Int) - (s : Int)) = lo / 2 ^ (64 - s) := by unfold shr; rw [m2]
  have f4 : shl .u64 lo (s : Int) = v := by unfold shl; rw [m1, u64m, hv]
  have f5 : Go.bits .or .u64 (hi * 2 ^ s) (lo / 2 ^ (64 - s)) = u := by rw [or_sum h0 hlow0 hlow (by omega), hu]
  have f6 : Go.bits .and .u64 y' 4294967295 = y' % 4294967296 := and_low32 y' (by omega) (by omega)
  have f7 : Go.bits .and .u64 v 4294967295 = v % 4294967296 := and_low32 v hv0 hv1
  have hu0 : 0 ≤ u := by omega
  have huy : u < y' := by omega
  have g1 : Guess y' (y' / 4294967296) (y' % 4294967296) u (v / 4294967296) ((u * 4294967296 + v / 4294967296) / y') := ⟨by omega, by omega, by omega, by omega, by omega, hu0, huy, by omega, by omega, rfl⟩
  obtain ⟨Q1, hQ1⟩ : ∃ Q1, Q1 = (u * 4294967296 + v / 4294967296) / y' := ⟨_, rfl⟩
  obtain ⟨w, hw⟩ : ∃ w, w = (u * 4294967296 + v / 4294967296) % y' := ⟨_, rfl⟩
  have hw0 : 0 ≤ w := by rw [hw]; exact Int.emod_nonneg _ (by omega)
  have hwy : w < y' := by rw [hw]; exact Int.emod_lt_of_pos _ (by omega)
  have ed1 : u * 4294967296 + v / 4294967296 = Q1 * y' + w := by have := Int.mul_ediv_add_emod (u * 4294967296 + v / 4294967296) y'; rw [← hQ1, ← hw, Int.mul_comm] at this; exact this.symm
  rw [← hQ1] at g1
  have g2 : Guess y' (y' / 4294967296) (y' % 4294967296) w (v % 4294967296) ((w * 4294967296 + v % 4294967296) / y') := ⟨by omega, by omega, by omega, by omega, by omega, hw0, hwy, by omega, by omega, rfl⟩
  obtain ⟨Q0, hQ0⟩ : ∃ Q0, Q0 = (w * 4294967296 + v % 4294967296) / y' := ⟨_, rfl⟩
  obtain ⟨r, hr⟩ : ∃ r, r = (w * 4294967296 + v % 4294967296) % y' := ⟨_, rfl⟩
  have hr0 : 0 ≤ r := by rw [hr]; exact Int.emod_nonneg _ (by omega)
  have hry : r < y' := by rw [hr]; exact Int.emod_lt_of_pos _ (by omega)
  have ed2 : w * 4294967296 + v % 4294967296 = Q0 * y' + r := by have := Int.mul_ediv_add_emod (w * 4294967296 + v % 4294967296) y'; rw [← hQ0, ← hr, Int.mul_comm] at this; exact this.symm
  rw [← hQ0] at g2
  obtain ⟨fin1, fin2⟩ := dv_two (N := hi * 18446744073709551616 + lo) hpos (by omega) hy' hsplit ed1 ed2 hr0 hry
  have hrg1 := g1.range
  have hrg2 := g2.range
  have hans : some (IntKind.u64.wrap ((IntKind.u64.wrap (Q1 * 4294967296)) + Q0), shr .u64 (IntKind.u64.wrap ((IntKind.u64.wrap ((IntKind.u64.wrap (w * 4294967296)) + v % 4294967296)) - (IntKind.u64.wrap (Q0 * y')))) (s : Int)) =
    some ((hi * 18446744073709551616 + lo) / y, (hi * 18446744073709551616 + lo) % y) := by
   rw [wrap_mod w (v % 4294967296) (Q0 * y') r (by omega) hr0 (by omega), u64 (n := Q1 * 4294967296) (by omega) (by omega), u64 (by omega) (by omega), fin1, fin2]
   unfold shr
   rw [m1]
  obtain ⟨b1, b2, b3, b4, b5, b6⟩ := g2.first
  have loop2 := dv_loop2 (s := (s : Int)) (q1 := Q1) g2 (Int.natCast_nonneg _) hans (w / (y' / 4294967296) - Q0).toNat (w / (y' / 4294967296)) (w % (y' / 4294967296)) (Nat.le_refl _) b3 b4 b5 b1 b2
  have j2 : Ev (fun k => bits_Div64.j2 k y' s (y' / 4294967296) (y' % 4294967296) u (v / 4294967296) (v % 4294967296) Q1) ((hi * 18446744073709551616 + lo) / y, (hi * 18446744073709551616 + lo) % y) := by
   refine Ev.succ (Ev.congr loop2 fun k => ?_)
   have hwm : IntKind.u64.wrap ((IntKind.u64.wrap ((IntKind.u64.wrap (u * 4294967296)) + v / 4294967296)) - (IntKind.u64.wrap (Q1 * y'))) = w := wrap_mod u (v / 4294967296) (Q1 * y') w (by omega) hw0 (by omega)
   have hq : IntKind.u64.wrap (Int.tdiv w (y' / 4294967296)) = w / (y' / 4294967296) := by rw [Int.tdiv_eq_ediv_of_nonneg hw0]; exact u64 b6 (by omega)
   have hrm : IntKind.u64.wrap (w - IntKind.u64.wrap (w / (y' / 4294967296) * (y' / 4294967296))) = w % (y' / 4294967296) := by rw [u64m, u64m]; omega
   rw [bits_Div64.j2, if_neg (by omega), hwm, hq, hrm]
  obtain ⟨a1, a2, a3, a4, a5, a6⟩ := g1.first
  have loop1 := dv_loop1 (s := (s : Int)) (u0 := v % 4294967296) g1 j2 (u / (y' / 4294967296) - Q1).toNat (u / (y' / 4294967296)) (u % (y' / 4294967296)) (Nat.le_refl _) a3 a4 a5 a1 a2
  refine Late.step (hlz.late) (fun k hk => ?_) loop1
  have hk' : bits_LeadingZeros64.f k y = some (s : Int) := hk
  have us : IntKind.u64.wrap (s : Int) = (s : Int) := u64 (by omega) (by omega)
  have us2 : IntKind.u64.wrap ((64 : Int) - (s : Int)) = (64 : Int) - (s : Int) := u64 (by omega) (by omega)
  have hq : IntKind.u64.wrap (Int.tdiv u (y' / 4294967296)) = u / (y' / 4294967296) := by rw [Int.tdiv_eq_ediv_of_nonneg hu0]; exact u64 a6 (by omega)
  have hrm : IntKind.u64.wrap (u - IntKind.u64.wrap (u / (y' / 4294967296) * (y' / 4294967296))) = u % (y' / 4294967296) := by rw [u64m, u64m]; omega
  have d1 : ¬ y = 0 := by omega
  have d2 : ¬ y ≤ hi := by omega
  have d3 : ¬ y' / 4294967296 = 0 := by omega
  have d4 : 0 ≤ (64 : Int) - (s : Int) := by omega
  unfold bits_Div64.f
  rw [if_neg d1, if_neg d2, if_neg hz, hk', Option.bind_some, us, us2, if_pos (Int.natCast_nonneg _), if_pos d4, f1, if_neg d3, f2, f3, f4, f5, f6, f7, hq, hrm]
end Go.Proofs.Ytbmddlldadbfnaa.BM
end
section
namespace Go.Proofs.Ytbmddlldadbfnaa.BM
open Go.RowKit Go.Proofs.YtbmddlldadbfnaaW.PrintWords Go.Proofs.YtbmddlldadbfnaaW.PrintLast Go.Proofs.YtbmddlldadbfnaaW.PrintMore
open Go.Proofs.Ytbmddlldadbfnaa.BA
theorem short_step (k : Nat) (l x6 : List Int) (d r : Int) (i : Nat) (q r' : Int) (hi : i < l.length) (h6 : i < x6.length) (hl : l.length < 1099511627776) (hd : bits_Div64.f k r (rd l i) d = some (q, r')) :
  big_short.l0 (k + 1) l d x6 r i = big_short.l0 k l d (x6.set i q) r' ((i : Int) - 1) := by
 have e : wrap64 ((i : Int) - 1) = (i : Int) - 1 := w64 (by omega) (by omega)
 rw [big_short.l0, if_pos (Int.natCast_nonneg _), if_pos (Int.natCast_nonneg _), if_pos (Int.ofNat_lt.2 hi), hd, Option.bind_some]
 show (if (i : Int) < (x6.length : Int) then _ else none) = _
 rw [if_pos (Int.ofNat_lt.2 h6), e]
 rfl
theorem short_alg (W vq d rem a q r' : Int) (h : rem * W + a = q * d + r') : a + W * (vq * d + rem) = (q + W * vq) * d + r' := by
 have : a + W * (vq * d + rem) = (rem * W + a) + W * vq * d := by grind
 rw [this, h]
 grind
theorem set_rep (i : Nat) (d : Int) (q : List Int) : (List.replicate (i + 1) 0 ++ q).set i d = List.replicate i 0 ++ (d :: q) := by
 rw [List.set_append_left _ _ (by simp), List.replicate_succ']
 have : (List.replicate i (0 : Int) ++ [0]).set i d = List.replicate i 0 ++ [d] := by
  have h := List.set_append_right (s := List.replicate i (0 : Int)) (t := [0]) i d (by simp)
  rw [h]; simp
 rw [this]; simp
theorem short_loop {l : List Int} (hdl : Dig 18446744073709551616 l) (hl : l.length < 100000000) {d : Int} (hd0 : 0 < d) (hd : d < 18446744073709551616) : ∀ (i : Nat) (q : List Int) (rem : Int),
  i ≤ l.length → q.length = l.length - i → Dig 18446744073709551616 q → 0 ≤ rem → rem < d → V 18446744073709551616 (l.drop i) = V 18446744073709551616 q * d + rem →
  ∃ t r, Ev (fun k => big_short.l0 k l d (List.replicate i 0 ++ q) rem ((i : Int) - 1)) (t, r) ∧ Can 18446744073709551616 t (V 18446744073709551616 l / d) ∧ r = V 18446744073709551616 l % d := by
 intro i
 induction i with
 | zero =>
  intro q rem hi hq hdq hr0 hr hv
  rw [List.drop_zero] at hv
  have e1 : V 18446744073709551616 l / d = V 18446744073709551616 q := by
   rw [hv, Int.add_comm, Int.add_mul_ediv_right _ _ (by omega), Int.ediv_eq_zero_of_lt hr0 hr, Int.zero_add]
  have e2 : V 18446744073709551616 l % d = rem := by
   rw [hv, Int.add_comm, Int.add_mul_emod_self_right, Int.emod_eq_of_lt hr0 hr]
  obtain ⟨t, ht, hc, _⟩ := trim_ev 18446744073709551616 q.length (l := q) (n := V 18446744073709551616 q) rfl (by omega) ⟨hdq, rfl⟩
  refine ⟨t, rem, Ev.succ (Ev.congr (Ev.bind (g := fun _ t121 => some (t121, rem)) ht (Ev.pure _)) fun k => ?_), by rw [e1]; exact hc, e2.symm⟩
  rw [big_short.l0, if_neg (by omega)]
  simp
 | succ i ih =>
  intro q rem hi hq hdq hr0 hr hv
  have ra := rd_dig hdl (i := (i : Int)) (by omega) (by omega)
  have hdiv := div64_ev (hi := rem) (lo := rd l (i : Int)) (y := d) hr0 hr hd ra.1 ra.2
  obtain ⟨Q, hQ⟩ : ∃ Q, Q = (rem * 18446744073709551616 + rd l (i : Int)) / d := ⟨_, rfl⟩
  obtain ⟨R, hR⟩ : ∃ R, R = (rem * 18446744073709551616 + rd l (i : Int)) % d := ⟨_, rfl⟩
  rw [← hQ, ← hR] at hdiv
  have hN : rem * 18446744073709551616 + rd l (i : Int) = Q * d + R := by have := Int.mul_ediv_add_emod (rem * 18446744073709551616 + rd l (i : Int)) d; rw [← hQ, ← hR, Int.mul_comm] at this; exact this.symm
  have hR0 : 0 ≤ R := by rw [hR]; exact Int.emod_nonneg _ (by omega)
  have hRd : R < d := by rw [hR]; exact Int.emod_lt_of_pos _ hd0
  have hQ0 : 0 ≤ Q := by rw [hQ]; exact Int.ediv_nonneg (by omega) (by omega)
  have hQW : Q < 18446744073709551616 := by
   rw [hQ, Int.ediv_lt_iff_lt_mul hd0]
   have := Int.mul_le_mul_of_nonneg_right (show rem + 1 ≤ d by omega) (show (0 : Int) ≤ 18446744073709551616 by omega)
   omega
  have hdrop : l.drop i = rd l (i : Int) :: l.drop (i + 1) := by rw [rd_nat l (by omega)]; exact List.drop_eq_getElem_cons (by omega)
  obtain ⟨t, r, he, hc, hrr⟩ := ih (Q :: q) R (by omega) (by simp; omega) (by
   intro a ha
   rcases List.mem_cons.1 ha with h | h
   ·subst h; exact ⟨hQ0, hQW⟩
   ·exact hdq a h) hR0 hRd (by
   rw [hdrop, V, V, hv]
   exact short_alg _ _ _ _ _ _ _ hN)
  refine ⟨t, r, Ev.succ (Late.step hdiv.late (fun k hk => ?_) he), hc, hrr⟩
  rw [show ((i + 1 : Nat) : Int) - 1 = (i : Int) by omega, short_step k l _ d rem i Q R (by omega) (by simp; omega) (by omega) hk, set_rep]
theorem short_ev {l : List Int} {n d : Int} (h : Can 18446744073709551616 l n) (hl : l.length < 100000000) (hd0 : 0 < d) (hd : d < 18446744073709551616) :
  ∃ t, Ev (fun k => big_short.f k l d) (t, n % d) ∧ Can 18446744073709551616 t (n / d) := by
 obtain ⟨t, r, he, hc, hr⟩ := short_loop h.1.1 hl hd0 hd l.length [] 0 (Nat.le_refl _) (by simp) (Dig_nil _) (by omega) (by omega) (by simp [V])
 rw [h.1.2] at hc hr
 subst hr
 refine ⟨t, Ev.congr he fun k => ?_, hc⟩
 have e : wrap64 ((l.length : Int) - 1) = (l.length : Int) - 1 := w64 (by omega) (by omega)
 have c : l.length ≤ 35184372088832 := by clear e; omega
 unfold big_short.f
 rw [if_pos (Int.natCast_nonneg _), Int.toNat_natCast, if_pos c, e]
 simp
theorem rev_step (k : Nat) (y : List Int) (i j : Nat) (h : i < j) (hj : j < y.length) (hl : y.length < 1099511627776) :
  sRev.l0 (k + 1) y i j = sRev.l0 k ((y.set i (rd y j)).set j (rd y i)) ((i + 1 : Nat) : Int) ((j : Int) - 1) := by
 have e1 : wrap64 ((i : Int) + 1) = ((i + 1 : Nat) : Int) := by rw [w64 (by omega) (by omega)]; omega
 have e2 : wrap64 ((j : Int) - 1) = (j : Int) - 1 := w64 (by omega) (by omega)
 have c : i < y.length := by clear e1 e2; omega
 rw [sRev.l0, if_pos (Int.ofNat_lt.2 h), if_pos (Int.natCast_nonneg _), if_pos (Int.ofNat_lt.2 hj), if_pos (Int.natCast_nonneg _), if_pos (Int.ofNat_lt.2 c), e1, e2, Int.toNat_natCast, Int.toNat_natCast]
theorem rev_loop (x : List Int) (hl : x.length < 1000000000000) : ∀ (m i : Nat) (y : List Int), x.length - 2 * i ≤ m → y.length = x.length → (∀ t : Nat, t < x.length → rd y (t : Int) = if t < i ∨ x.length ≤ t + i then rd x ((x.length - 1 - t : Nat) : Int) else rd x (t : Int)) →
  Ev (fun k => sRev.l0 k y i ((x.length : Int) - 1 - i)) x.reverse := by
 have fin : ∀ (i : Nat) (y : List Int), x.length ≤ 2 * i + 1 → y.length = x.length → (∀ t : Nat, t < x.length → rd y (t : Int) = if t < i ∨ x.length ≤ t + i then rd x ((x.length - 1 - t : Nat) : Int) else rd x (t : Int)) → Ev (fun k => sRev.l0 k y i ((x.length : Int) - 1 - i)) x.reverse := by
  intro i y hm hy hv
  refine Ev.succ (Ev.congr (Ev.pure _) fun k => ?_)
  rw [sRev.l0, if_neg (by omega)]
  congr 1
  apply List.ext_getElem
  ·simp [hy]
  ·intro t h1 h2
   have h := hv t (by omega)
   rw [rd_nat _ h1] at h
   rw [h, List.getElem_reverse]
   by_cases hc : t < i ∨ x.length ≤ t + i
   ·rw [if_pos hc, rd_nat _ (by omega)]
   ·rw [if_neg hc, rd_nat _ (by omega)]
    congr 1
    omega
 intro m
 induction m with
 | zero =>
  intro i y hm hy hv
  exact fin i y (by omega) hy hv
 | succ m ih =>
  intro i y hm hy hv
  by_cases hc : x.length ≤ 2 * i + 1
  ·exact fin i y hc hy hv
  ·obtain ⟨j, hj⟩ : ∃ j : Nat, j = x.length - 1 - i := ⟨_, rfl⟩
   have hij : i < j := by omega
   have hi := hv i (by omega)
   have hjv := hv j (by omega)
   rw [if_neg (by omega)] at hi hjv
   refine Ev.succ (Ev.congr (ih (i + 1) ((y.set i (rd y j)).set j (rd y i)) (by omega) (by simp [hy]) (fun t ht => ?_)) fun k => ?_)
   ·rw [rd_set _ _ _ _ (by simp; omega), rd_set _ _ _ _ (by omega)]
    by_cases h1 : t = j
    ·rw [if_pos h1, if_pos (by omega), hi, h1]
     congr 2
     omega
    ·rw [if_neg h1]
     by_cases h2 : t = i
     ·rw [if_pos h2, if_pos (by omega), hjv, h2]
      congr 2
     ·rw [if_neg h2, hv t ht]
      by_cases h3 : t < i ∨ x.length ≤ t + i
      ·rw [if_pos h3, if_pos (by omega)]
      ·rw [if_neg h3, if_neg (by omega)]
   ·rw [show (x.length : Int) - 1 - (i : Int) = (j : Int) by omega, rev_step k y i j hij (by omega) (by omega), show (j : Int) - 1 = (x.length : Int) - 1 - ((i + 1 : Nat) : Int) by omega]
theorem rev_ev (x : List Int) (hl : x.length < 1000000000000) : Ev (fun k => sRev.f k x) x.reverse := by
 have h := rev_loop x hl x.length 0 x (by omega) rfl (fun t ht => by rw [if_neg (by omega)])
 refine Ev.congr h fun k => ?_
 unfold sRev.f
 rw [w64 (by omega) (by omega)]
 simp
end Go.Proofs.Ytbmddlldadbfnaa.BM
end
section
namespace Go.Proofs.Ytbmddlldadbfnaa.BM
open Go.RowKit Go.Proofs.YtbmddlldadbfnaaW.PrintWords Go.Proofs.YtbmddlldadbfnaaW.PrintLast Go.Proofs.YtbmddlldadbfnaaW.PrintMore
open Go.Proofs.Ytbmddlldadbfnaa.BA
def outOf (neg : Bool) (ds : List Int) : ByteArray := strOfNums ((ds.map dgt ++ (if neg = true then [45] else [])).reverse)
structure Inv (b n : Int) (ds : List Int) (M : Int) : Prop where
 dig : Dig b ds
 val : V b ds + b ^ ds.length * M = n
 top : M = 0 → Top ds
 pos : 0 ≤ M
theorem Inv.len {b n : Int} {ds : List Int} {M : Int} (h : Inv b n ds M) (hb : 2 ≤ b) {L : Nat} (hn : n < b ^ L) (hM : 0 < M) : ds.length < L := by
 rcases Nat.lt_or_ge ds.length L with h1 | h1
 ·exact h1
 ·exfalso
  have h2 := pow_le' (show 1 ≤ b by omega) h1
  have h3 := Int.mul_le_mul_of_nonneg_left (show 1 ≤ M by omega) (Int.le_of_lt (pow_pos' (show 0 < b by omega) ds.length))
  have h4 := V_nonneg (show 0 < b by omega) h.dig
  have h5 := h.val
  omega
theorem Inv.can {b n : Int} {ds : List Int} (h : Inv b n ds 0) : Can b ds n := ⟨⟨h.dig, by have := h.val; omega⟩, h.top rfl⟩
theorem Inv.push {b n : Int} {ds : List Int} {M : Int} (h : Inv b n ds M) (hb : 2 ≤ b) (hM : 0 < M) : Inv b n (ds ++ [M % b]) (M / b) := by
 have h0 := Int.emod_nonneg M (show b ≠ 0 by omega)
 have h1 := Int.emod_lt_of_pos M (show 0 < b by omega)
 have he := Int.mul_ediv_add_emod M b
 refine ⟨Dig_snoc h.dig h0 h1, ?_, fun hz => ?_, Int.ediv_nonneg (by omega) (by omega)⟩
 ·rw [V_snoc, List.length_append, List.length_singleton, Int.pow_succ, ← h.val]
  conv => rhs; rw [← he]
  grind
 ·intro hne
  have hg : (ds ++ [M % b]).getLast hne = M % b := by simp
  rw [hg]
  rw [hz] at he
  omega
theorem l1_push (k : Nat) (b : Int) (neg : Bool) (c e : Int) (x7 q : List Int) (r : Int) (j : Nat) (hb : 2 ≤ b) (hb' : b ≤ 36) (hr0 : 0 ≤ r) (hr : r < 18446744073709551616) (hj : (j : Int) < e) (he : e ≤ 64) (h7 : x7.length < 140737488355328) (hq : ¬ (q = [] ∧ r = 0)) :
  bIText.l1 (k + 1) b neg c e x7 q r e j = bIText.l1 k b neg c e (x7 ++ [dgt (r % b)]) q (r / b) e ((j + 1 : Nat) : Int) := by
 have hm0 := Int.emod_nonneg r (show b ≠ 0 by omega)
 have hm1 := Int.emod_lt_of_pos r (show 0 < b by omega)
 have e1 : IntKind.u64.wrap b = b := u64 (by omega) (by omega)
 have e2 : Int.tmod r b = r % b := Int.tmod_eq_emod_of_nonneg hr0
 have e3 : IntKind.u64.wrap (Int.tdiv r b) = r / b := by
  rw [Int.tdiv_eq_ediv_of_nonneg hr0]
  have := Int.ediv_le_self b hr0
  exact u64 (Int.ediv_nonneg hr0 (by omega)) (by omega)
 have e4 : wrap64 ((j : Int) + 1) = ((j + 1 : Nat) : Int) := by rw [w64 (by omega) (by omega)]; omega
 have e5 : bt (⟨#[48, 49, 50, 51, 52, 53, 54, 55, 56, 57, 97, 98, 99, 100, 101, 102, 103, 104, 105, 106, 107, 108, 109, 110, 111, 112, 113, 114, 115, 116, 117, 118, 119, 120, 121, 122]⟩ : ByteArray) (r % b) = dgt (r % b) := by
  have h := allDigits_bt ⟨(r % b).toNat, by omega⟩
  have ht : (((r % b).toNat : Nat) : Int) = r % b := by omega
  simp only [ht] at h
  exact h
 have n1 : ¬ b = 0 := by omega
 have n2 : r % b < 36 := by omega
 rw [bIText.l1, if_pos hj, e1, e2, e3, e4, e5]
 by_cases h1 : (q.length : Int) = 0
 ·have h2 : ¬ r = 0 := fun h => hq ⟨List.eq_nil_of_length_eq_zero (Int.ofNat_inj.1 h1), h⟩
  rw [if_pos h1, if_neg h2, if_neg n1, if_pos hm0, if_pos n2, if_pos h7]
 ·rw [if_neg h1, if_neg n1, if_pos hm0, if_pos n2, if_pos h7]
theorem text_alg (r B Vq b : Int) (hb : 0 < b) : (r + B * b * Vq) % b = r % b ∧ (r + B * b * Vq) / b = r / b + B * Vq := by
 have e : r + B * b * Vq = r + b * (B * Vq) := by grind
 rw [e]
 exact ⟨Int.add_mul_emod_self_left _ _ _, Int.add_mul_ediv_left _ _ (by omega)⟩
theorem text_l1 {b n c : Int} {e L : Nat} (hb : 2 ≤ b) (hb' : b ≤ 36) (neg : Bool) (he : e ≤ 64) (hn : n < b ^ L) (hL : L < 100000000000) (hbe : b ^ e < 18446744073709551616) (q : List Int) (mq : Int) (hq : Can 18446744073709551616 q mq)
  (K : ∀ ds, Inv b n ds mq → ∃ ds', Can b ds' n ∧ Ev (fun k => bIText.l0 k b neg c e (ds.map dgt) q) (outOf neg ds')) :
  ∀ (m j : Nat) (ds : List Int) (r : Int), j + m = e → 0 ≤ r → r < b ^ m → Inv b n ds (r + b ^ m * mq) → ∃ ds', Can b ds' n ∧ Ev (fun k => bIText.l1 k b neg c e (ds.map dgt) q r e j) (outOf neg ds') := by
 have hmq := Can_nonneg (by omega) hq
 intro m
 induction m with
 | zero =>
  intro j ds r hj hr0 hr hi
  have : r = 0 := by simp at hr; omega
  subst this
  rw [Int.pow_zero, Int.one_mul, Int.zero_add] at hi
  obtain ⟨ds', hc, hev⟩ := K ds hi
  refine ⟨ds', hc, Ev.succ (Ev.congr hev fun k => ?_)⟩
  rw [bIText.l1, if_neg (by omega)]
 | succ m ih =>
  intro j ds r hj hr0 hr hi
  have hr64 : r < 18446744073709551616 := Int.lt_of_lt_of_le hr (Int.le_trans (pow_le' (by omega) (show m + 1 ≤ e by omega)) (Int.le_of_lt hbe))
  by_cases hz : q = [] ∧ r = 0
  ·obtain ⟨h1, h2⟩ := hz
   subst h1
   subst h2
   have hm0 : mq = 0 := by rw [← hq.1.2]; rfl
   subst hm0
   rw [Int.mul_zero, Int.zero_add] at hi
   obtain ⟨ds', hc, hev⟩ := K ds hi
   refine ⟨ds', hc, Ev.succ (Ev.congr hev fun k => ?_)⟩
   rw [bIText.l1, if_pos (by omega), if_pos (show ((([] : List Int).length : Nat) : Int) = 0 from rfl), if_pos rfl]
  ·have hbm := pow_pos' (show 0 < b by omega) (m + 1)
   have hM : 0 < r + b ^ (m + 1) * mq := by
    by_cases h1 : q = []
    ·have : r ≠ 0 := fun h => hz ⟨h1, h⟩
     have := Int.mul_nonneg (Int.le_of_lt hbm) hmq
     omega
    ·have h2 := Can_pos (by omega) hq h1
     have := Int.mul_pos hbm h2
     omega
   have hlen := hi.len hb hn hM
   have hpush := hi.push hb hM
   rw [Int.pow_succ] at hpush
   obtain ⟨a1, a2⟩ := text_alg r (b ^ m) mq b (by omega)
   rw [a1, a2] at hpush
   obtain ⟨ds', hc, hev⟩ := ih (j + 1) (ds ++ [r % b]) (r / b) (by omega) (Int.ediv_nonneg hr0 (by omega)) (by rw [Int.ediv_lt_iff_lt_mul (by omega), ← Int.pow_succ]; exact hr) hpush
   refine ⟨ds', hc, Ev.succ (Ev.congr hev fun k => ?_)⟩
   rw [l1_push k b neg c e (ds.map dgt) q r j hb hb' hr0 hr64 (by omega) (by omega) (by rw [List.length_map]; omega) hz, List.map_append]
   rfl
theorem text_l0 {b n : Int} {e L : Nat} (hb : 2 ≤ b) (hb' : b ≤ 36) (neg : Bool) (he1 : 1 ≤ e) (he : e ≤ 64) (hn : n < b ^ L) (hL : L < 100000000000) (hbe : b ^ e < 18446744073709551616) :
  ∀ (f : Nat) (q : List Int) (mq : Int), mq.toNat ≤ f → q.length < 100000000 → Can 18446744073709551616 q mq → ∀ ds, Inv b n ds mq → ∃ ds', Can b ds' n ∧ Ev (fun k => bIText.l0 k b neg (b ^ e) e (ds.map dgt) q) (outOf neg ds') := by
 have hfin : ∀ ds, Inv b n ds 0 → ∃ ds', Can b ds' n ∧ Ev (fun k => bIText.l0 k b neg (b ^ e) e (ds.map dgt) []) (outOf neg ds') := by
  intro ds hi
  have hc := hi.can
  have hlen := Can_len (by omega) hc hn
  refine ⟨ds, hc, ?_⟩
  cases neg
  ·have hrev := rev_ev (ds.map dgt) (by rw [List.length_map]; omega)
   refine Ev.succ (Late.step (g := fun _ => some (outOf false ds)) hrev.late (fun k hk => ?_) (Ev.pure _))
   have hk' : sRev.f k (ds.map dgt) = some (ds.map dgt).reverse := hk
   rw [bIText.l0, if_neg (by simp), if_neg (by decide), hk', Option.bind_some]
   unfold outOf
   rw [if_neg (by decide), List.append_nil]
  ·have hrev := rev_ev (ds.map dgt ++ [45]) (by simp; omega)
   refine Ev.succ (Late.step (g := fun _ => some (outOf true ds)) hrev.late (fun k hk => ?_) (Ev.pure _))
   have hk' : sRev.f k (ds.map dgt ++ [45]) = some (ds.map dgt ++ [45]).reverse := hk
   rw [bIText.l0, if_neg (by simp), if_pos rfl, if_pos (by rw [List.length_map]; omega), hk', Option.bind_some]
   unfold outOf
   rw [if_pos rfl]
 have hc2 : 2 ≤ b ^ e := by
  have := pow_le' (show 1 ≤ b by omega) he1
  rw [Int.pow_one] at this
  omega
 intro f
 induction f with
 | zero =>
  intro q mq hf hql hq ds hi
  have h0 := Can_nonneg (by omega) hq
  have : mq = 0 := by omega
  subst this
  rw [Can_zero (by omega) hq]
  exact hfin ds hi
 | succ f ih =>
  intro q mq hf hql hq ds hi
  by_cases h1 : q = []
  ·subst h1
   have : mq = 0 := by rw [← hq.1.2]; rfl
   subst this
   exact hfin ds hi
  ·have hpos := Can_pos (by omega) hq h1
   obtain ⟨t, ht, hct⟩ := short_ev hq hql (show 0 < b ^ e by omega) hbe
   have hdiv : mq / b ^ e < mq := by
    rw [Int.ediv_lt_iff_lt_mul (by omega)]
    have := Int.mul_le_mul_of_nonneg_left hc2 (show 0 ≤ mq by omega)
    omega
   have hdiv0 : 0 ≤ mq / b ^ e := Int.ediv_nonneg (by omega) (by omega)
   have htl : t.length ≤ q.length := by
    refine Can_len (by omega) hct ?_
    have h2 := V_lt (show (0 : Int) < 18446744073709551616 by omega) hq.1.1
    rw [hq.1.2] at h2
    omega
   have hmod0 := Int.emod_nonneg mq (show b ^ e ≠ 0 by omega)
   have hmod := Int.emod_lt_of_pos mq (show 0 < b ^ e by omega)
   have hed : mq % b ^ e + b ^ e * (mq / b ^ e) = mq := Int.emod_add_mul_ediv mq (b ^ e)
   obtain ⟨ds', hc, hev⟩ := text_l1 (c := b ^ e) hb hb' neg he hn hL hbe t (mq / b ^ e) hct (ih t (mq / b ^ e) (by omega) (by omega) hct) e 0 ds (mq % b ^ e) (by omega) hmod0 hmod (by rw [hed]; exact hi)
   refine ⟨ds', hc, Ev.succ (Late.step ht.late (fun k hk => ?_) hev)⟩
   have hk' : big_short.f k q (b ^ e) = some (t, mq % b ^ e) := hk
   have hlp : (q.length : Int) > 0 := by have := List.length_pos_iff.2 h1; omega
   rw [bIText.l0, if_pos hlp, hk', Option.bind_some]
   rfl
theorem text_ev {l : List Int} {n b : Int} (h : Can 18446744073709551616 l n) (hl : l.length < 100000000) (hne : l ≠ []) (hb : 2 ≤ b) (hb' : b ≤ 36) (neg : Bool) :
  ∃ ds, Can b ds n ∧ Ev (fun k => bIText.f k l b neg) (outOf neg ds) := by
 obtain ⟨e, h1, h2, h3, _, h5⟩ := chunk_ev b hb hb'
 have hn : n < b ^ (64 * l.length) := by
  have h6 := V_lt (show (0 : Int) < 18446744073709551616 by omega) h.1.1
  rw [h.1.2] at h6
  have h7 : (18446744073709551616 : Int) ≤ b ^ 64 := pow_mono (a := 2) (by omega) hb 64
  have h8 := pow_mono (show (0 : Int) ≤ 18446744073709551616 by omega) h7 l.length
  rw [← Int.pow_mul] at h8
  exact Int.lt_of_lt_of_le h6 h8
 obtain ⟨ds, hc, hev⟩ := text_l0 (n := n) hb hb' neg h1 h2 hn (by omega) h3 n.toNat l n (Nat.le_refl _) hl h [] ⟨Dig_nil _, by simp [V], fun _ h => absurd rfl h, Can_nonneg (by omega) h⟩
 refine ⟨ds, hc, Late.step (h5.late) (fun k hk => ?_) hev⟩
 have hk' : big_chunk.f k b = some (b ^ e, (e : Int)) := hk
 have hlp : ¬ (l.length : Int) = 0 := by have := List.length_pos_iff.2 hne; omega
 unfold bIText.f
 rw [if_neg hlp, hk', Option.bind_some]
 rfl
def textOf (neg : Bool) (ds : List Int) : ByteArray := if ds = [] then (⟨#[48]⟩ : ByteArray) else outOf neg ds
theorem right_can {l : List Int} {n : Int} (h : Can 18446744073709551616 l n) (hl : l.length ≤ 4096) (neg : Bool) : limb_Right.f neg l = some (!(neg && decide (l = []))) := by
 unfold limb_Right.f
 by_cases h0 : l = []
 ·subst h0
  cases neg <;> simp
 ·have hp := List.length_pos_iff.2 h0
  have ht := h.2 h0
  rw [getLast_rd] at ht
  have e : wrap64 ((l.length : Int) - 1) = (l.length : Int) - 1 := w64 (by omega) (by omega)
  have c1 : ¬ (l.length : Int) = 0 := by clear e; omega
  have c2 : (l.length : Int) > 0 := by clear e; omega
  have c3 : (l.length : Int) ≤ 4096 := by clear e; omega
  have c4 : 0 ≤ (l.length : Int) - 1 := by clear e; omega
  have c5 : (l.length : Int) - 1 < (l.length : Int) := by clear e; omega
  rw [if_neg c1, if_pos c2, if_pos c3, e, if_pos c4, if_pos c5, decide_eq_false h0]
  simp [ht]
theorem print_ev {l : List Int} {n b : Int} (h : Can 18446744073709551616 l n) (hl : l.length ≤ 4096) (hb : 2 ≤ b) (hb' : b ≤ 36) (neg : Bool) (hneg : l = [] → neg = false) :
  ∃ ds, Can b ds n ∧ Ev (fun k => base_Print.f k neg l b) (textOf neg ds, 0) := by
 have hright := right_can h hl neg
 have hr : (!(neg && decide (l = []))) = true := by
  by_cases h0 : l = []
  ·rw [hneg h0]; rfl
  ·simp [h0]
 rw [hr] at hright
 have hmay : base_may.f b = some true := may_true hb hb'
 have hint := exactInt_ev h (by omega) neg
 by_cases h0 : l = []
 ·subst h0
  have hn : n = 0 := by rw [← h.1.2]; rfl
  subst hn
  refine ⟨[], Can_nil b, Late.step (g := fun _ => some (textOf neg [], 0)) hint.late (fun k hk => ?_) (Ev.pure _)⟩
  have hk' : exact_Int.f k neg [] = some (neg && decide (0 < ([] : List Int).length), []) := hk
  unfold base_Print.f
  rw [hright, Option.bind_some, if_pos rfl, hmay, Option.bind_some, if_pos rfl, hk', Option.bind_some]
  rfl
 ·have hp := List.length_pos_iff.2 h0
  have hsg : (neg && decide (0 < l.length)) = neg := by simp [hp]
  rw [hsg] at hint
  obtain ⟨ds, hc, hev⟩ := text_ev h (by omega) h0 hb hb' neg
  have hne : ds ≠ [] := by
   intro hd
   subst hd
   have : n = 0 := by rw [← hc.1.2]; rfl
   have := Can_pos (by omega) h h0
   omega
  refine ⟨ds, hc, Late.step (g := fun _ => some (textOf neg ds, 0)) (hint.late.and hev.late) (fun k hk => ?_) (Ev.pure _)⟩
  have k1 : exact_Int.f k neg l = some (neg, l) := hk.1
  have k2 : bIText.f k l b neg = some (outOf neg ds) := hk.2
  unfold base_Print.f
  rw [hright, Option.bind_some, if_pos rfl, hmay, Option.bind_some, if_pos rfl, k1, Option.bind_some]
  show (bIText.f k l b neg).bind _ = _
  rw [k2, Option.bind_some]
  unfold textOf
  rw [if_neg hne]
end Go.Proofs.Ytbmddlldadbfnaa.BM
end
section
namespace Go.Proofs.Ytbmddlldadbfnaa.BM
open Go.RowKit Go.Proofs.YtbmddlldadbfnaaW.PrintWords Go.Proofs.YtbmddlldadbfnaaW.PrintLast Go.Proofs.YtbmddlldadbfnaaW.PrintMore
open Go.Proofs.Ytbmddlldadbfnaa.BA
theorem dgt_range {d : Int} (h0 : 0 ≤ d) (h1 : d < 36) : 48 ≤ dgt d ∧ dgt d < 128 := by unfold dgt; split <;> omega
theorem bt_nums (xs : List Int) (h : ∀ x ∈ xs, 0 ≤ x ∧ x < 256) (i : Nat) (hi : i < xs.length) : bt (strOfNums xs) (i : Int) = rd xs (i : Int) := by
 have hsz : (strOfNums xs).size = xs.length := by simp [strOfNums, ByteArray.size]
 unfold bt
 have e : ((i : Nat) : Int).toNat = i := by omega
 simp only [e]
 rw [dif_pos (by omega), rd_nat xs hi]
 have hx := h _ (List.getElem_mem hi)
 have : (strOfNums xs)[i]'(by omega) = UInt8.ofNat (xs[i]'hi).toNat := by simp [strOfNums, ByteArray.getElem_eq_getElem_data]
 rw [this, UInt8.toNat_ofNat']
 omega
theorem nums_size (xs : List Int) : (strOfNums xs).size = xs.length := by simp [strOfNums, ByteArray.size]
end Go.Proofs.Ytbmddlldadbfnaa.BM
end
section
namespace Go.Proofs.Ytbmddlldadbfnaa.BM
open Go.RowKit Go.Proofs.YtbmddlldadbfnaaW.PrintWords Go.Proofs.YtbmddlldadbfnaaW.PrintLast Go.Proofs.YtbmddlldadbfnaaW.PrintMore
open Go.Proofs.Ytbmddlldadbfnaa.BA
structure Good (b : Int) (neg : Bool) (ds : List Int) : Prop where
 dig : Dig b ds
 ne : ds ≠ []
 top : 2 ≤ ds.length → Top ds
 sign : neg = true → Top ds
theorem out_size (neg : Bool) (ds : List Int) : (outOf neg ds).size = ds.length + (if neg = true then 1 else 0) := by
 unfold outOf
 rw [nums_size]
 cases neg <;> simp
theorem out_bt {b : Int} (hb' : b ≤ 36) {neg : Bool} {ds : List Int} (hd : Dig b ds) (j : Nat) (hj : j < ds.length) :
  bt (outOf neg ds) (((if neg = true then 1 else 0) + j : Nat) : Int) = dgt (rd ds ((ds.length - 1 - j : Nat) : Int)) := by
 have hall : ∀ x ∈ (ds.map dgt ++ (if neg = true then [45] else [])).reverse, 0 ≤ x ∧ x < 256 := by
  intro x hx
  rw [List.mem_reverse, List.mem_append] at hx
  rcases hx with hx | hx
  ·obtain ⟨d, hd', rfl⟩ := List.mem_map.1 hx
   have := hd d hd'
   have := dgt_range this.1 (by omega)
   omega
  ·cases neg
   ·simp at hx
   ·simp at hx; omega
 unfold outOf
 rw [bt_nums _ hall _ (by cases neg <;> simp <;> omega)]
 cases neg
 ·simp only [Bool.false_eq_true, if_false, List.append_nil, Nat.zero_add]
  rw [rd_nat _ (by simp; exact hj), List.getElem_reverse, rd_nat _ (by omega)]
  simp
 ·simp only [if_true, List.reverse_append, List.reverse_singleton]
  rw [rd_nat _ (by simp; omega), List.getElem_append_right (by simp), List.getElem_reverse, rd_nat _ (by omega)]
  simp
theorem out_sign {b : Int} (hb' : b ≤ 36) {neg : Bool} {ds : List Int} (hd : Dig b ds) (hne : ds ≠ []) : (bt (outOf neg ds) 0 == 45) = neg ∧ startOf (outOf neg ds) = (if neg = true then 1 else 0) := by
 have hp := List.length_pos_iff.2 hne
 cases neg
 ·have h := out_bt (neg := false) hb' hd 0 hp
  have hr := rd_dig hd (i := ((ds.length - 1 - 0 : Nat) : Int)) (by omega) (by omega)
  have h2 := dgt_range hr.1 (by omega)
  have h3 : bt (outOf false ds) 0 = dgt (rd ds ((ds.length - 1 - 0 : Nat) : Int)) := h
  refine ⟨beq_false_of_ne (by omega), ?_⟩
  unfold startOf
  rw [if_neg (by omega)]
  rfl
 ·have h : bt (outOf true ds) 0 = 45 := by
   unfold outOf
   simp only [if_true, List.reverse_append, List.reverse_singleton]
   have := bt_nums ([45] ++ (ds.map dgt).reverse) (by
    intro x hx
    rcases List.mem_append.1 hx with hx | hx
    ·simp at hx; omega
    ·rw [List.mem_reverse] at hx
     obtain ⟨d, hd', rfl⟩ := List.mem_map.1 hx
     have := hd d hd'
     have := dgt_range this.1 (by omega)
     omega) 0 (by simp)
   exact this
  refine ⟨by rw [h]; rfl, ?_⟩
  unfold startOf
  rw [if_pos h]
  rfl
end Go.Proofs.Ytbmddlldadbfnaa.BM
end
section
namespace Go.Proofs.Ytbmddlldadbfnaa.BM
open Go.RowKit Go.Proofs.YtbmddlldadbfnaaW.PrintWords Go.Proofs.YtbmddlldadbfnaaW.PrintLast Go.Proofs.YtbmddlldadbfnaaW.PrintMore
open Go.Proofs.Ytbmddlldadbfnaa.BA
theorem Good.zero {b : Int} {neg : Bool} {ds : List Int} (g : Good b neg ds) (hb : 2 ≤ b) (hv : V b ds = 0) : ds = [0] ∧ neg = false := by
 have ht : ¬ Top ds := fun ht => by
  have hc : Can b ds 0 := ⟨⟨g.dig, hv⟩, ht⟩
  exact g.ne (Can_zero (by omega) hc)
 have hl : ds.length < 2 := by
  rcases Nat.lt_or_ge ds.length 2 with h | h
  ·exact h
  ·exact absurd (g.top h) ht
 refine ⟨?_, ?_⟩
 ·match ds, g.ne, hl, hv with
  | [d], _, _, hv =>
   simp [V] at hv
   rw [hv]
 ·cases neg
  ·rfl
  ·exact absurd (g.sign rfl) ht
end Go.Proofs.Ytbmddlldadbfnaa.BM
end
section
namespace Go.Proofs.Ytbmddlldadbfnaa.BD
open Go.RowKit Go.Proofs.Ytbmddlldadbfnaa.BA Go.Proofs.Ytbmddlldadbfnaa.BB Go.Proofs.YtbmddlldadbfnaaW.PrintWords Go.Proofs.YtbmddlldadbfnaaW.PrintLast Go.Proofs.YtbmddlldadbfnaaW.PrintMore
attribute [local go_sem] ZU ZS max_two min_two ZP ZO ZT ZR
set_option linter.unusedVariables false
set_option linter.unusedSimpArgs false
def errW : Option Int → Value
 | none => .nilIface
 | some c => .iface 0 (.int .i64 c)
theorem errW_none : errW none = .nilIface := rfl
theorem errW_some (c : Int) : errW (some c) = .iface 0 (.int .i64 c) := rfl
theorem info46 : (Try.prog.info? 46).map (fun i => (i.zero, i.size, i.bytes)) = some (some (.int .u64 0), 1, 8) := by kernel_rfl
end Go.Proofs.Ytbmddlldadbfnaa.BD
end
section
namespace Go.Proofs.Ytbmddlldadbfnaa.BD
open Go.RowKit Go.Proofs.Ytbmddlldadbfnaa.BA Go.Proofs.Ytbmddlldadbfnaa.BB Go.Proofs.YtbmddlldadbfnaaW.PrintWords Go.Proofs.YtbmddlldadbfnaaW.PrintLast Go.Proofs.YtbmddlldadbfnaaW.PrintMore
attribute [local go_sem] ZU ZS max_two min_two ZP ZO ZT ZR
set_option linter.unusedVariables false
set_option linter.unusedSimpArgs false
theorem eqA35 (d : Nat) (w : World) (x0 y0 : Int) (x1 y1 : Int) :
  (Op.equalIn (d + 2) 35 (.agg #[.int .i64 x0, .int .i64 x1]) (.agg #[.int .i64 y0, .int .i64 y1])).run Try.prog w = .ok (x0 == y0 && (x1 == y1)) w := by
 refine eqA_of Try.underlying35 (by kernel_rfl) ?_
 refine eqf_cons (by rfl) (by go_simp; rfl) (by go_simp; rfl) (by go_simp) ?_
 exact eqf_last (by rfl) (by go_simp; rfl) (by go_simp; rfl) (by go_simp)
end Go.Proofs.Ytbmddlldadbfnaa.BD
end
section
namespace Go.Proofs.Ytbmddlldadbfnaa.BP
open Go.RowKit Go.Proofs.Ytbmddlldadbfnaa.BA Go.Proofs.Ytbmddlldadbfnaa.BB Go.Proofs.YtbmddlldadbfnaaW.PrintWords Go.Proofs.YtbmddlldadbfnaaW.PrintLast Go.Proofs.YtbmddlldadbfnaaW.PrintMore
attribute [local go_sem] ZU ZS max_two min_two ZP ZO ZT ZR
set_option linter.unusedVariables false
set_option linter.unusedSimpArgs false
def errW : Option Int → Value
 | none => .nilIface
 | some c => .iface 0 (.int .i64 c)
theorem errW_none : errW none = .nilIface := rfl
theorem errW_some (c : Int) : errW (some c) = .iface 0 (.int .i64 c) := rfl
theorem info5 : (Try.prog.info? 5).map (fun i => (i.zero, i.size, i.bytes)) = some (some (.int .u8 0), 1, 1) := by kernel_rfl
theorem info46 : (Try.prog.info? 46).map (fun i => (i.zero, i.size, i.bytes)) = some (some (.int .u64 0), 1, 8) := by kernel_rfl
end Go.Proofs.Ytbmddlldadbfnaa.BP
end
section
namespace Go.Proofs.Ytbmddlldadbfnaa.BP
open Go.RowKit Go.Proofs.Ytbmddlldadbfnaa.BA Go.Proofs.Ytbmddlldadbfnaa.BB Go.Proofs.YtbmddlldadbfnaaW.PrintWords Go.Proofs.YtbmddlldadbfnaaW.PrintLast Go.Proofs.YtbmddlldadbfnaaW.PrintMore
attribute [local go_sem] ZU ZS max_two min_two ZP ZO ZT ZR
set_option linter.unusedVariables false
set_option linter.unusedSimpArgs false
def r00Int.f (k : Nat) (a0_0 : Bool) (l0_1 : List Int) : Option (Bool × List Int × Int) := (r00NatTrim.f k l0_1).bind fun t103 => (some (a0_0, t103, 0))
set_option maxHeartbeats 8000000 in
set_option maxRecDepth 100000 in
theorem r00Int.calls (k : Nat) (a0_0 : Bool) (A0_1 : Option Addr) (c0_1 : Nat) (l0_1 : List Int) (r1 : Bool) (r2 : List Int) (r3 : Int) (w : World) (hr0_1 : Kd.C (Kd.int .u64) w A0_1 l0_1.length l0_1) (hc0_1 : l0_1.length ≤ c0_1) (h : r00Int.f k a0_0 l0_1 = some (r1, r2, r3)) :
  Calls Try.prog 26 #[.agg #[.bool a0_0, .slice A0_1 l0_1.length c0_1]] w fun e w' => ∃ v1_ : Value, e = .returned (.agg #[.bool r1, v1_, .int .i64 r3]) ∧ Kd.R (Kd.int .u64) 46 w' w.heap.size (fun _ => True) v1_ r2 ∧ Below w.heap.size w w' := by
 have hu24 := Try.underlying24
 have hu48 := Try.underlying48
 have HR0_1 := Zb.mk hr0_1
 have HC0_1 := Zb.mk hc0_1
 clear hr0_1 hc0_1
 have HB := Zb.mk (Below.refl w.heap.size w)
 have H : ((r00NatTrim.f k l0_1).bind fun t103 => (some (a0_0, t103, 0))) = some (r1, r2, r3) := h
 clear h
 replace H := Option.bind_eq_some_iff.mp H
 obtain ⟨t103, A20, H⟩ := H
 replace H : (some (a0_0, t103, 0)) = some (r1, r2, r3) := H
 have A2 := Zb.mk A20
 clear A20
 simp only [Option.some.injEq, Prod.mk.injEq] at H
 obtain ⟨rfl, rfl, rfl⟩ := H
 go_enter Try.func26, Try.ntmps26
 try go_wp2_with (first | ((with_reducible refine Zt (N := 1) rfl ?_); refine Zs ?hg (N := 1) ?hd (cs := #[.bool a0_0, .slice A0_1 l0_1.length c0_1]) (t := 24) ?hr ?_; (case hd => rfl); (case hg => rfl); (case hr => first | (go_simp; done) | (go_simp; rfl)); intro gb101 hg w3 hbox hb; have n0_ := Zb.mk (Zl (by repeat (with_reducible first | exact HB.out | apply Zc | apply Za | apply Zd)) hb); have n1_ := Zb.mk (hbox); have n2_ := Zb.mk ((by rw [hg]; exact (Zi (by repeat (with_reducible first | exact HB.out | apply Zc | apply Za | apply Zd))) : w.heap.size ≤ gb101)); have n3_ := Zb.mk ((by rw [hg]; exact (Zi (by repeat (with_reducible first | exact HB.out | apply Zc | apply Za | apply Zd))) : w.heap.size ≤ gb101)); clear HB; have HB := n0_; have BK101 := n1_; have GW101 := n2_; have GE101 := n3_; clear n0_ n1_ n2_ n3_; clear hb hbox hg) | ((with_reducible refine Zt (N := 2) rfl ?_); refine Zs ?hg (N := 2) ?hd (cs := #[.bool false, .slice none 0 0, .int .i64 0]) (t := 48) ?hr ?_; (case hd => rfl); (case hg => rfl); (case hr => first | (go_simp; done) | (go_simp; rfl)); intro gb102 hg w4 hbox hb; have n0_ := Zb.mk (Zn (g := gb101) (o := .cells #[.bool a0_0, .slice A0_1 l0_1.length c0_1] 24 (0, 0)) (by (with_reducible repeat first | refine Ze ?_ _ | refine Zg ?_ | refine Zf ?_ _); exact BK101.out) hb); have n1_ := Zb.mk (Zl (by repeat (with_reducible first | exact HB.out | apply Zc | apply Za | apply Zd | refine Zh ?_ GE101.out)) hb); have n2_ := Zb.mk (hbox); have n3_ := Zb.mk ((by rw [hg]; exact (Zi (by repeat (with_reducible first | exact HB.out | apply Zc | apply Za | apply Zd | refine Zh ?_ GE101.out))) : w.heap.size ≤ gb102)); have n4_ := Zb.mk ((by rw [hg]; exact (Zi (by repeat (with_reducible first | exact HB.out | apply Zc | apply Za | apply Zd | refine Zh ?_ GE101.out))) : w.heap.size ≤ gb102)); have n5_ := Zb.mk ((by rw [hg]; exact Nat.ne_of_lt (Zw (g := gb101) (o := .cells #[.bool a0_0, .slice A0_1 l0_1.length c0_1] 24 (0, 0)) (by (with_reducible repeat first | refine Ze ?_ _ | refine Zg ?_ | refine Zf ?_ _); exact BK101.out)) : gb101 ≠ gb102)); have n6_ := Zb.mk ((by rw [hg]; exact Nat.ne_of_gt (Zw (g := gb101) (o := .cells #[.bool a0_0, .slice A0_1 l0_1.length c0_1] 24 (0, 0)) (by (with_reducible repeat first | refine Ze ?_ _ | refine Zg ?_ | refine Zf ?_ _); exact BK101.out)) : gb102 ≠ gb101)); clear BK101; clear HB; have BK101 := n0_; have HB := n1_; have BK102 := n2_; have GW102 := n3_; have GE102 := n4_; have NB101_102 := n5_; have NB102_101 := n6_; clear n0_ n1_ n2_ n3_ n4_ n5_ n6_; clear hb hbox hg))
 have n0_ := Zb.mk (Zg BK101.out)
 have n1_ := Zb.mk (Zg BK102.out)
 have n2_ := Zb.mk (Zd HB.out)
 clear BK101
 clear BK102
 clear HB
 have BK101 := n0_
 have BK102 := n1_
 have HB := n2_
 clear n0_ n1_ n2_
 refine start_ (n := 7) (S := fun w' => w'.cell? ⟨gb101, 0, none⟩ = some (.bool a0_0) ∧ w'.cell? ⟨gb101, 1, none⟩ = some (.slice A0_1 l0_1.length c0_1)) (ds := []) #[false, false, false, false, false, false, false] (by kernel_rfl) rfl rfl ⟨(Zk BK101.out 0).trans rfl, (Zk BK101.out 1).trans rfl⟩ (fun hHeld => ?_)
 generalize w4.drew = w5 at BK101 BK102 HB hHeld ⊢
 refine ZM (i := 0) (N := some 3) (v := ?_) (a' := ?_) #[true, false, false, false, false, false, false] rfl rfl (by kernel_rfl) (fun _ _ _ h => h) (Or.inl ⟨by rfl, ?_⟩) ?_ ?_
 rotate_left
 ·intro w'
  go_simp
  with_reducible rfl
 rotate_left
 ·simp only [Act.put, List.setIfInBounds_toArray, List.set_cons_zero, List.set_cons_succ, Zx, ZA]
  rfl
 refine ZM (i := 2) (N := some 5) (v := ?_) (a' := ?_) #[true, false, true, false, false, false, false] rfl rfl (by kernel_rfl) (fun _ _ _ h => h) (Or.inl ⟨by rfl, ?_⟩) ?_ ?_
 rotate_left
 ·intro w'
  go_simp
  with_reducible rfl
 rotate_left
 ·simp only [Act.put, List.setIfInBounds_toArray, List.set_cons_zero, List.set_cons_succ, Zx, ZA]
  rfl
 refine take_ (i := 1) (N := some 4) (v := ?_) (a' := ?_) #[true, true, true, false, false, false, false] rfl rfl (by kernel_rfl) (fun _ _ _ h => h) (Or.inl ⟨by rfl, ?_⟩) hHeld ?_ ?_
 rotate_left
 ·rintro w' ⟨s0, s1⟩
  go_simp
  with_reducible rfl
 rotate_left
 ·simp only [Act.put, List.setIfInBounds_toArray, List.set_cons_zero, List.set_cons_succ, Zx, ZA]
  rfl
 refine take_ (i := 3) (N := some 6) (v := ?_) (a' := ?_) #[true, true, true, true, false, false, false] rfl rfl (by kernel_rfl) (fun _ _ _ h => h) (Or.inl ⟨by rfl, ?_⟩) hHeld ?_ ?_
 rotate_left
 ·rintro w' ⟨s0, s1⟩
  go_simp
  with_reducible rfl
 rotate_left
 ·simp only [Act.put, List.setIfInBounds_toArray, List.set_cons_zero, List.set_cons_succ, Zx, ZA]
  rfl
 refine one_ (i := 4) (N := some 7) #[true, true, true, true, true, false, false] rfl rfl (by kernel_rfl) (by decide) (fun K hK => ?_)
 refine goes_ Try.func53 (by kernel_rfl) rfl #[.slice A0_1 l0_1.length c0_1] (by rfl) rfl rfl (by (try simp only [List.map_toArray, List.map_cons, List.map_nil]); first | done | rfl | (simp only [List.length_drop, List.length_take]; rfl)) ?_
 with_reducible refine (r00NatTrim.calls k _ _ l0_1 t103 _ ?side1 ?side2 A2.out).mono ?_
 (case side1 => repeat (first | exact (Kd.C_below HR0_1.out HB.out) | (with_reducible refine Kd.ZC ?_ _) | (with_reducible refine Kd.ZF ?_ _) | (with_reducible refine Kd.ZN ?_)))
 (case side2 => exact HC0_1.out)
 rintro e w6 ⟨v104, rfl, ho0, hb⟩
 refine ⟨_, rfl, ?_⟩
 have n0_ := Zb.mk (Kd.ZG ho0 (Zi (by repeat (with_reducible first | exact HB.out | apply Zc | apply Za | apply Zd | refine Zh ?_ GE101.out | refine Zh ?_ GE102.out))))
 have n1_ := Zb.mk (Zn (g := gb101) (o := .cells #[.bool a0_0, .slice A0_1 l0_1.length c0_1] 24 (0, 0)) (by (with_reducible repeat first | refine Ze ?_ _ | refine Zg ?_ | refine Zf ?_ _); exact BK101.out) hb)
 have n2_ := Zb.mk (Zn (g := gb102) (o := .cells #[.bool false, .slice none 0 0, .int .i64 0] 48 (0, 0)) (by (with_reducible repeat first | refine Ze ?_ _ | refine Zg ?_ | refine Zf ?_ _); exact BK102.out) hb)
 have n3_ := Zb.mk (Zl (by repeat (with_reducible first | exact HB.out | apply Zc | apply Za | apply Zd | refine Zh ?_ GE101.out | refine Zh ?_ GE102.out)) hb)
 clear BK101
 clear BK102
 clear HB
 have HO105 := n0_
 have BK101 := n1_
 have BK102 := n2_
 have HB := n3_
 clear n0_ n1_ n2_ n3_
 (try clear hb)
 (try clear hb2)
 (try clear hk)
 (try clear hi)
 (try clear ho0)
 obtain ⟨Ao7, co7, eo7⟩ := Kd.Zy HO105.out
 (first | subst eo7 | (injection eo7 with f1_ f2_ f3_; have f4_ := f1_.symm; have f5_ := f3_.symm; clear f1_ f2_ f3_; subst f4_; subst f5_))
 refine hK.out _ _ ⟨(Zk BK101.out 0).trans rfl, (Zk BK101.out 1).trans rfl⟩ (fun hHeld => ?_)
 clear hK K
 refine norm_ (a' := ?_) ?_ ?_
 rotate_left
 ·show Act.put _ (some 7) _ = _
  simp only [Act.put, List.setIfInBounds_toArray, List.set_cons_zero, List.set_cons_succ, Zx, ZA]
  rfl
 refine ZM (i := 5) (N := some 8) (v := ?_) (a' := ?_) #[true, true, true, true, true, true, false] rfl rfl (by kernel_rfl) (fun _ _ _ h => h) (Or.inl ⟨by rfl, ?_⟩) ?_ ?_
 rotate_left
 ·intro w'
  go_simp
  with_reducible rfl
 rotate_left
 ·simp only [Act.put, List.setIfInBounds_toArray, List.set_cons_zero, List.set_cons_succ, Zx, ZA]
  rfl
 refine one_ (i := 6) (N := none) #[true, true, true, true, true, true, true] rfl rfl (by kernel_rfl) (by decide) (fun K hK => ?_)
 have hs8 : w6.cell? ⟨gb102, 0, none⟩ = some (.bool false) := (Zk BK102.out 0).trans rfl
 have hfs8 := Zj BK102.out 0
 have hns8_0 := NB101_102.out
 have hms8_0 := NB102_101.out
 have hs9 : w6.cell? ⟨gb102, 1, none⟩ = some (.slice none 0 0) := (Zk BK102.out 1).trans rfl
 have hfs9 := Zj BK102.out 1
 have hns9_0 := NB101_102.out
 have hms9_0 := NB102_101.out
 have hs10 : w6.cell? ⟨gb102, 2, none⟩ = some (.int .i64 0) := (Zk BK102.out 2).trans rfl
 have hfs10 := Zj BK102.out 2
 have hns10_0 := NB101_102.out
 have hms10_0 := NB102_101.out
 refine skip_ (w1 := ?_) (by rfl) rfl ?_ ?_
 rotate_left
 ·go_simp
  rfl
 refine hK.out _ _ ⟨((cell_far (p := ⟨gb102, _, none⟩) NB101_102.out _).trans (((cell_far (p := ⟨gb102, _, none⟩) NB101_102.out _).trans (((cell_far (p := ⟨gb102, _, none⟩) NB101_102.out _).trans (hHeld.1)))))), ((cell_far (p := ⟨gb102, _, none⟩) NB101_102.out _).trans (((cell_far (p := ⟨gb102, _, none⟩) NB101_102.out _).trans (((cell_far (p := ⟨gb102, _, none⟩) NB101_102.out _).trans (hHeld.2))))))⟩ (fun hHeld => ?_)
 clear hK K
 refine done_ (by kernel_rfl) ?_
 try go_wp2
 refine bodyPost_ret (results_cell_row rfl _ _ gb102 48 #[.bool a0_0, .slice Ao7 t103.length co7, .int .i64 0] (0, 0) _ rfl (by (with_reducible repeat first | refine Ze ?_ _ | refine Zg ?_ | refine Zf ?_ _); refine Zu (cs := #[.bool a0_0, .slice Ao7 t103.length co7, .int .i64 0]) ?_ 2 _ rfl; (with_reducible repeat first | refine Ze ?_ _ | refine Zg ?_ | refine Zf ?_ _); refine Zu (cs := #[.bool a0_0, .slice none 0 0, .int .i64 0]) ?_ 1 _ rfl; (with_reducible repeat first | refine Ze ?_ _ | refine Zg ?_ | refine Zf ?_ _); refine Zu (cs := #[.bool false, .slice none 0 0, .int .i64 0]) ?_ 0 _ rfl; (with_reducible repeat first | refine Ze ?_ _ | refine Zg ?_ | refine Zf ?_ _); exact BK102.out) Try.underlying48 rfl (by kernel_rfl)) rfl ?_
 exact ⟨_, by first | rfl | (simp [errW_none, errW_some] <;> rfl) | (simp [*, errW_none, errW_some] <;> rfl), by (with_reducible repeat first | apply Kd.Zm | apply Kd.Zo); exact Kd.ZE (Kd.ZH (p := ⟨gb102, 2, none⟩) (Kd.ZH (p := ⟨gb102, 1, none⟩) (Kd.ZH (p := ⟨gb102, 0, none⟩) (Kd.ZI HO105.out BK102.out (by decide)) (fun _ hk => hk.2) (.bool a0_0)) (fun _ hk => hk.2) (.slice Ao7 t103.length co7)) (fun _ hk => hk.2) (.int .i64 0)) (fun _ hk => trivial), by repeat (with_reducible first | exact HB.out | apply Zc | apply Za | apply Zd | refine Zh ?_ GE101.out | refine Zh ?_ GE102.out)⟩
def r00RightInt.f (a0_0 : Bool) (l0_1 : List Int) : Option (Bool) := if (l0_1.length : Int) = 0 then (some (!a0_0)) else (if (l0_1.length : Int) ≤ 4096 then (if 0 ≤ (wrap64 ((l0_1.length : Int) - 1)) then (if (wrap64 ((l0_1.length : Int) - 1)) < (l0_1.length : Int) then (some ((rd l0_1 (wrap64 ((l0_1.length : Int) - 1))) != 0)) else (none)) else (none)) else (some false))
set_option maxHeartbeats 8000000 in
set_option maxRecDepth 100000 in
theorem r00RightInt.calls (a0_0 : Bool) (A0_1 : Option Addr) (c0_1 : Nat) (l0_1 : List Int) (r : Bool) (w : World) (hr0_1 : Kd.C (Kd.int .u64) w A0_1 l0_1.length l0_1) (hc0_1 : l0_1.length ≤ c0_1) (h : r00RightInt.f a0_0 l0_1 = some r) :
  Calls Try.prog 41 #[.agg #[.bool a0_0, .slice A0_1 l0_1.length c0_1]] w fun e w' => e = .returned (.bool r) ∧ Below w.heap.size w w' := by
 have hu24 := Try.underlying24
 have HR0_1 := Zb.mk hr0_1
 have HC0_1 := Zb.mk hc0_1
 clear hr0_1 hc0_1
 have HB := Zb.mk (Below.refl w.heap.size w)
 have H : (if (l0_1.length : Int) = 0 then (some (!a0_0)) else (if (l0_1.length : Int) ≤ 4096 then (if 0 ≤ (wrap64 ((l0_1.length : Int) - 1)) then (if (wrap64 ((l0_1.length : Int) - 1)) < (l0_1.length : Int) then (some ((rd l0_1 (wrap64 ((l0_1.length : Int) - 1))) != 0)) else (none)) else (none)) else (some false))) = some r := h
 clear h
 by_cases c2 : (l0_1.length : Int) = 0
 ·rw [if_pos c2] at H
  have c2b0 : ((l0_1.length : Int) == 0) = true := beq_iff_eq.mpr c2
  have c2b1 : ((l0_1.length : Int) != 0) = false := bne_eq_false_iff_eq.mpr c2
  clear c2
  obtain rfl := Option.some.inj H
  go_enter Try.func41, Try.ntmps41
  go_wp2_with (first | ((with_reducible refine Zt (N := 1) rfl ?_); (try (refine gate_guard (by rfl) ?_; dsimp only)); refine Zs ?hg (N := 1) ?hd (cs := #[.bool a0_0, .slice A0_1 l0_1.length c0_1]) (t := 24) ?hr ?_; (case hd => rfl); (case hg => rfl); (case hr => first | (go_simp; done) | (go_simp; rfl)); intro gb106 hg w3 hbox hb; have n0_ := Zb.mk (Zl (by repeat (with_reducible first | exact HB.out | apply Zc | apply Za | apply Zd)) hb); have n1_ := Zb.mk (hbox); have n2_ := Zb.mk ((by rw [hg]; exact (Zi (by repeat (with_reducible first | exact HB.out | apply Zc | apply Za | apply Zd))) : w.heap.size ≤ gb106)); have n3_ := Zb.mk ((by rw [hg]; exact (Zi (by repeat (with_reducible first | exact HB.out | apply Zc | apply Za | apply Zd))) : w.heap.size ≤ gb106)); clear HB; have HB := n0_; have BK106 := n1_; have GW106 := n2_; have GE106 := n3_; clear n0_ n1_ n2_ n3_; clear hb hbox hg; have hcz4_0 : w3.cell? ⟨gb106, 0, none⟩ = some (.bool a0_0) := (Zk BK106.out 0).trans rfl; have hcz4_1 : w3.cell? ⟨gb106, 1, none⟩ = some (.slice A0_1 l0_1.length c0_1) := (Zk BK106.out 1).trans rfl; have hfz4_0 := Zj BK106.out 0; have hfz4_1 := Zj BK106.out 1))
  go_ret
  exact ⟨by first | rfl | (simp [errW_none, errW_some] <;> rfl) | (simp [*, errW_none, errW_some] <;> rfl), by repeat (with_reducible first | exact HB.out | apply Zc | apply Za | apply Zd | refine Zh ?_ GE106.out)⟩
 ·rw [if_neg c2] at H
  have c2b0 : ((l0_1.length : Int) == 0) = false := beq_eq_false_iff_ne.mpr c2
  have c2b1 : ((l0_1.length : Int) != 0) = true := bne_iff_ne.mpr c2
  have c2b2 : ¬ (l0_1 = []) := fun h_ => c2 (by rw [h_]; rfl)
  by_cases c5 : (l0_1.length : Int) ≤ 4096
  ·rw [if_pos c5] at H
   have c5b0 : decide ((l0_1.length : Int) ≤ 4096) = true := decide_eq_true c5
   have c5b1 : decide (l0_1.length ≤ 4096) = true := decide_eq_true (by omega)
   clear c5
   obtain ⟨ji6, hji6⟩ : ∃ j_ : Int, (wrap64 ((l0_1.length : Int) - 1)) = j_ := ⟨_, rfl⟩
   replace H : (if 0 ≤ (ji6) then (if (ji6) < (l0_1.length : Int) then (some ((rd l0_1 (ji6)) != 0)) else (none)) else (none)) = some r := by first | (rw [hji6] at H; exact H) | (simp only [hji6] at H ⊢; exact H)
   have hji6w : (IntKind.i64.wrap ((l0_1.length : Int) - 1)) = ji6 := (Zx _).trans hji6
   by_cases c7 : 0 ≤ (ji6)
   ·rw [if_pos c7] at H
    have c7b0 : decide (0 ≤ (ji6)) = true := decide_eq_true c7
    clear c7
    by_cases c8 : (ji6) < (l0_1.length : Int)
    ·rw [if_pos c8] at H
     have c8b0 : decide ((ji6) < (l0_1.length : Int)) = true := decide_eq_true c8
     clear c8
     obtain rfl := Option.some.inj H
     go_enter Try.func41, Try.ntmps41
     go_wp2_with (first | ((with_reducible refine Zt (N := 1) rfl ?_); (try (refine gate_guard (by rfl) ?_; dsimp only)); refine Zs ?hg (N := 1) ?hd (cs := #[.bool a0_0, .slice A0_1 l0_1.length c0_1]) (t := 24) ?hr ?_; (case hd => rfl); (case hg => rfl); (case hr => first | (go_simp; done) | (go_simp; rfl)); intro gb106 hg w9 hbox hb; have n0_ := Zb.mk (Zl (by repeat (with_reducible first | exact HB.out | apply Zc | apply Za | apply Zd)) hb); have n1_ := Zb.mk (hbox); have n2_ := Zb.mk ((by rw [hg]; exact (Zi (by repeat (with_reducible first | exact HB.out | apply Zc | apply Za | apply Zd))) : w.heap.size ≤ gb106)); have n3_ := Zb.mk ((by rw [hg]; exact (Zi (by repeat (with_reducible first | exact HB.out | apply Zc | apply Za | apply Zd))) : w.heap.size ≤ gb106)); clear HB; have HB := n0_; have BK106 := n1_; have GW106 := n2_; have GE106 := n3_; clear n0_ n1_ n2_ n3_; clear hb hbox hg; have hcz10_0 : w9.cell? ⟨gb106, 0, none⟩ = some (.bool a0_0) := (Zk BK106.out 0).trans rfl; have hcz10_1 : w9.cell? ⟨gb106, 1, none⟩ = some (.slice A0_1 l0_1.length c0_1) := (Zk BK106.out 1).trans rfl; have hfz10_0 := Zj BK106.out 0; have hfz10_1 := Zj BK106.out 1; have p107 : 0 ≤ ((ji6) : Int) := of_decide_eq_true (by first | (with_reducible assumption) | assumption); have q107 : (ji6) < (l0_1.length : Int) := of_decide_eq_true (by first | (with_reducible assumption) | assumption); obtain ⟨ad107, e107, hx107_0⟩ := Kd.at_int HR0_1.out (ji6) p107 q107; cases e107; replace hx107_0 := (HB.out.cell (World.block_lt_of_cell? w _ hx107_0)).trans hx107_0; replace p107 := eq_true p107; replace q107 := eq_true q107))
     go_ret
     exact ⟨by first | rfl | (simp [errW_none, errW_some] <;> rfl) | (simp only [← hji6]; first | rfl | (simp [errW_none, errW_some] <;> rfl)) | (simp [*, errW_none, errW_some] <;> rfl), by repeat (with_reducible first | exact HB.out | apply Zc | apply Za | apply Zd | refine Zh ?_ GE106.out)⟩
    ·rw [if_neg c8] at H
     exact absurd H (by simp)
   ·rw [if_neg c7] at H
    exact absurd H (by simp)
  ·rw [if_neg c5] at H
   have c5b0 : decide ((l0_1.length : Int) ≤ 4096) = false := decide_eq_false c5
   have c5b1 : decide (l0_1.length ≤ 4096) = false := decide_eq_false (by omega)
   clear c5
   obtain rfl := Option.some.inj H
   go_enter Try.func41, Try.ntmps41
   go_wp2_with (first | ((with_reducible refine Zt (N := 1) rfl ?_); (try (refine gate_guard (by rfl) ?_; dsimp only)); refine Zs ?hg (N := 1) ?hd (cs := #[.bool a0_0, .slice A0_1 l0_1.length c0_1]) (t := 24) ?hr ?_; (case hd => rfl); (case hg => rfl); (case hr => first | (go_simp; done) | (go_simp; rfl)); intro gb106 hg w11 hbox hb; have n0_ := Zb.mk (Zl (by repeat (with_reducible first | exact HB.out | apply Zc | apply Za | apply Zd)) hb); have n1_ := Zb.mk (hbox); have n2_ := Zb.mk ((by rw [hg]; exact (Zi (by repeat (with_reducible first | exact HB.out | apply Zc | apply Za | apply Zd))) : w.heap.size ≤ gb106)); have n3_ := Zb.mk ((by rw [hg]; exact (Zi (by repeat (with_reducible first | exact HB.out | apply Zc | apply Za | apply Zd))) : w.heap.size ≤ gb106)); clear HB; have HB := n0_; have BK106 := n1_; have GW106 := n2_; have GE106 := n3_; clear n0_ n1_ n2_ n3_; clear hb hbox hg; have hcz12_0 : w11.cell? ⟨gb106, 0, none⟩ = some (.bool a0_0) := (Zk BK106.out 0).trans rfl; have hcz12_1 : w11.cell? ⟨gb106, 1, none⟩ = some (.slice A0_1 l0_1.length c0_1) := (Zk BK106.out 1).trans rfl; have hfz12_0 := Zj BK106.out 0; have hfz12_1 := Zj BK106.out 1))
   go_ret
   exact ⟨by first | rfl | (simp [errW_none, errW_some] <;> rfl) | (simp [*, errW_none, errW_some] <;> rfl), by repeat (with_reducible first | exact HB.out | apply Zc | apply Za | apply Zd | refine Zh ?_ GE106.out)⟩
def r00low.l0 : Nat → List Int → Int → Option (List Int)
 | 0, _, _ => none
 | k + 1, x0, x3 => if x3 > 0 then (if 0 ≤ (wrap64 (x3 - 1)) then (if (wrap64 (x3 - 1)) < (x0.length : Int) then (if (rd x0 (wrap64 (x3 - 1))) = 0 then (r00low.l0 k x0 (wrap64 (x3 - 1))) else (if 0 ≤ x3 then (if x3 ≤ (x0.length : Int) then (some (x0.take (x3 : Int).toNat)) else (none)) else (none))) else (none)) else (none)) else (if 0 ≤ x3 then (if x3 ≤ (x0.length : Int) then (some (x0.take (x3 : Int).toNat)) else (none)) else (none))
def r00low.f (k : Nat) (l0 : List Int) : Option (List Int) := r00low.l0 k l0 (l0.length : Int)
set_option maxHeartbeats 8000000 in
set_option maxRecDepth 100000 in
theorem r00low.calls (k : Nat) (P0_ : Nat → Prop) (u9000_ : Value) (l0 : List Int) (r : List Int) (w0 w : World) (hB : Below w0.heap.size w0 w) (ho0 : Kd.R (Kd.int .u64) 46 w w0.heap.size P0_ u9000_ l0) (h : r00low.f k l0 = some r) :
  Calls Try.prog 122 #[u9000_] w fun e w' => ∃ v0_ : Value, e = .returned (v0_) ∧ Kd.R (Kd.int .u64) 46 w' w0.heap.size (fun k_ => (P0_ k_ ∨ w.heap.size ≤ k_)) v0_ r ∧ Below w0.heap.size w0 w' ∧ Kept w w' (fun k_ => P0_ k_) := by
 have HO0 := Zb.mk (show Kd.R (Kd.int .u64) 46 w w0.heap.size (fun k_ => (P0_ k_ ∨ w.heap.size ≤ k_)) u9000_ l0 from Kd.ZE ho0 (fun k_ hk => (.inl hk)))
 have HK := Zb.mk (Kept.refl w (fun k_ => P0_ k_))
 have HW0 := Zb.mk hB.size
 have HB := Zb.mk hB
 clear hB
 have H : (r00low.l0 k l0 (l0.length : Int)) = some r := h
 clear h
 have H' := Zb.mk H
 clear H
 obtain ⟨Ao2, co2, eo2⟩ := Kd.Zy HO0.out
 subst eo2
 go_enter Try.func122, Try.ntmps122
 go_wp2
 go_loopg [3] k (fun kq v3 w' => ∃ (x3_1 : Int), v3 = .int .i64 x3_1 ∧ Zb (r00low.l0 kq l0 x3_1 = some r) ∧ Zb (kq ≤ k) ∧ Zb (Kd.R (Kd.int .u64) 46 w' w0.heap.size (fun k_ => (P0_ k_ ∨ w.heap.size ≤ k_)) (.slice Ao2 l0.length co2) l0) ∧ Zb (Kept w w' (fun k_ => P0_ k_)) ∧ Zb (Below w0.heap.size w0 w'))
 case atStart => exact ⟨((l0.length : Int)), (by first | rfl | (simp; done) | (simp [*]; done)), H', ⟨Nat.le_refl _⟩, ⟨by (with_reducible repeat first | apply Kd.Zm | apply Kd.Zo); exact HO0.out⟩, ⟨by repeat (with_reducible first | exact HK.out | apply Kept.alloc | apply Kept.drewN | apply Kept.drew)⟩, ⟨by repeat (with_reducible first | exact HB.out | apply Zc | apply Za | apply Zd)⟩⟩
 case round =>
  clear H'
  try clear c1
  try clear p2
  obtain ⟨x3_1, rfl, HA, HK1, HO_0, HK, HB⟩ := hrel
  cases gk with
  | zero => exact absurd HA.out (by simp [r00low.l0])
  | succ k1 =>
   have H := HA.out
   clear HA
   simp only [r00low.l0] at H
   by_cases c3 : x3_1 > 0
   ·rw [if_pos c3] at H
    have c3b0 : decide (0 < x3_1) = true := decide_eq_true c3
    clear c3
    obtain ⟨ji4, hji4⟩ : ∃ j_ : Int, (wrap64 (x3_1 - 1)) = j_ := ⟨_, rfl⟩
    replace H : (if 0 ≤ (ji4) then (if (ji4) < (l0.length : Int) then (if (rd l0 (ji4)) = 0 then (r00low.l0 k1 l0 ji4) else (if 0 ≤ x3_1 then (if x3_1 ≤ (l0.length : Int) then (some (l0.take (x3_1 : Int).toNat)) else (none)) else (none))) else (none)) else (none)) = some r := by first | (rw [hji4] at H; exact H) | (simp only [hji4] at H ⊢; exact H)
    have hji4w : (IntKind.i64.wrap (x3_1 - 1)) = ji4 := (Zx _).trans hji4
    by_cases c5 : 0 ≤ (ji4)
    ·rw [if_pos c5] at H
     have c5b0 : decide (0 ≤ (ji4)) = true := decide_eq_true c5
     clear c5
     by_cases c6 : (ji4) < (l0.length : Int)
     ·rw [if_pos c6] at H
      have c6b0 : decide ((ji4) < (l0.length : Int)) = true := decide_eq_true c6
      clear c6
      by_cases c7 : (rd l0 (ji4)) = 0
      ·rw [if_pos c7] at H
       have c7b0 : ((rd l0 (ji4)) == 0) = true := beq_iff_eq.mpr c7
       have c7b1 : ((rd l0 (ji4)) != 0) = false := bne_eq_false_iff_eq.mpr c7
       clear c7
       have H' := Zb.mk H
       clear H
       have p108 : 0 ≤ ((ji4) : Int) := of_decide_eq_true (by first | (with_reducible assumption) | assumption)
       have q108 : (ji4) < (l0.length : Int) := of_decide_eq_true (by first | (with_reducible assumption) | assumption)
       obtain ⟨ad108, e108, hx108_0⟩ := Kd.at_int (Kd.Zv HO_0.out).2.2 (ji4) p108 q108
       cases e108
       replace p108 := eq_true p108
       replace q108 := eq_true q108
       go_wp2
       go_roundg k1
       case measure => have := HK1.out; omega
       case rel => exact ⟨(ji4), (by first | rfl | (simp; done) | (simp only [← hji4] <;> (first | rfl | simp)) | (simp [*]; done)), H', ⟨by have := HK1.out; omega⟩, ⟨by (with_reducible repeat first | apply Kd.Zm | apply Kd.Zo); exact HO_0.out⟩, ⟨by repeat (with_reducible first | exact HK.out | apply Kept.alloc | apply Kept.drewN | apply Kept.drew)⟩, ⟨by repeat (with_reducible first | exact HB.out | apply Zc | apply Za | apply Zd)⟩⟩
      ·rw [if_neg c7] at H
       have c7b0 : ((rd l0 (ji4)) == 0) = false := beq_eq_false_iff_ne.mpr c7
       have c7b1 : ((rd l0 (ji4)) != 0) = true := bne_iff_ne.mpr c7
       by_cases c8 : 0 ≤ x3_1
       ·rw [if_pos c8] at H
        have c8b0 := eq_true c8
        have c8b1 : decide (0 ≤ x3_1) = true := decide_eq_true c8
        clear c8
        by_cases c9 : x3_1 ≤ (l0.length : Int)
        ·rw [if_pos c9] at H
         have c9b0 := eq_true c9
         have c9b1 : decide (x3_1 ≤ (l0.length : Int)) = true := decide_eq_true c9
         clear c9
         obtain ⟨y109, hy109⟩ : ∃ y_ : List Int, y_ = (l0.take (x3_1 : Int).toNat) := ⟨_, rfl⟩
         replace H : (some y109) = some r := by first | (rw [hy109]; with_reducible exact H) | (have H2_ := (Option.bind_some _ _).symm.trans H; rw [hy109]; with_reducible exact H2_) | (have H2_ := (Option.bind_some _ _).symm.trans H; with_reducible exact H2_) | with_reducible exact H | (rw [hy109]; exact H) | exact H
         have Ny109 := Zb.mk hy109
         clear hy109
         obtain rfl := Option.some.inj H
         have p108 : 0 ≤ ((ji4) : Int) := of_decide_eq_true (by first | (with_reducible assumption) | assumption)
         have q108 : (ji4) < (l0.length : Int) := of_decide_eq_true (by first | (with_reducible assumption) | assumption)
         obtain ⟨ad108, e108, hx108_0⟩ := Kd.at_int (Kd.Zv HO_0.out).2.2 (ji4) p108 q108
         cases e108
         replace p108 := eq_true p108
         replace q108 := eq_true q108
         have q10 : (x3_1 : Int) ≤ ((l0.length : Int) : Int) := of_decide_eq_true (by first | (with_reducible assumption) | assumption)
         obtain ⟨i010, hi010, _, hsz10, _⟩ := info_parts info46
         have hcut10 := cut_to (P := Try.prog) 22 46 .i64 Try.underlying22 hi010 (some ad108) l0.length co2 x3_1 (of_decide_eq_true (by first | (with_reducible assumption) | assumption)) q10 (Kd.Zv HO_0.out).2.1
         have hr10 := Kd.R_take (m := (x3_1 : Int).toNat) HO_0.out (by omega)
         have hy10 : y109.length = (x3_1 : Int).toNat := (by rw [Ny109.out, List.length_take]; omega)
         rw [← Ny109.out] at hr10
         rw [← hy10] at hr10 hcut10
         clear hy10 hi010 hsz10 HO_0
         have HO111 := Zb.mk hr10
         clear hr10
         replace q10 := eq_true q10
         go_wp2
         go_ret
         exact ⟨_, by first | rfl | (simp [errW_none, errW_some] <;> rfl) | (simp only [← hji4]; first | rfl | (simp [errW_none, errW_some] <;> rfl)) | (simp [*, errW_none, errW_some] <;> rfl), by (with_reducible repeat first | apply Kd.Zm | apply Kd.Zo); exact HO111.out, by repeat (with_reducible first | exact HB.out | apply Zc | apply Za | apply Zd), by repeat (with_reducible first | exact HK.out | apply Kept.alloc | apply Kept.drewN | apply Kept.drew)⟩
        ·rw [if_neg c9] at H
         exact absurd H (by simp)
       ·rw [if_neg c8] at H
        exact absurd H (by simp)
     ·rw [if_neg c6] at H
      exact absurd H (by simp)
    ·rw [if_neg c5] at H
     exact absurd H (by simp)
   ·rw [if_neg c3] at H
    have c3b0 : decide (0 < x3_1) = false := decide_eq_false c3
    clear c3
    by_cases c11 : 0 ≤ x3_1
    ·rw [if_pos c11] at H
     have c11b0 := eq_true c11
     have c11b1 : decide (0 ≤ x3_1) = true := decide_eq_true c11
     clear c11
     by_cases c12 : x3_1 ≤ (l0.length : Int)
     ·rw [if_pos c12] at H
      have c12b0 := eq_true c12
      have c12b1 : decide (x3_1 ≤ (l0.length : Int)) = true := decide_eq_true c12
      clear c12
      obtain ⟨y112, hy112⟩ : ∃ y_ : List Int, y_ = (l0.take (x3_1 : Int).toNat) := ⟨_, rfl⟩
      replace H : (some y112) = some r := by first | (rw [hy112]; with_reducible exact H) | (have H2_ := (Option.bind_some _ _).symm.trans H; rw [hy112]; with_reducible exact H2_) | (have H2_ := (Option.bind_some _ _).symm.trans H; with_reducible exact H2_) | with_reducible exact H | (rw [hy112]; exact H) | exact H
      have Ny112 := Zb.mk hy112
      clear hy112
      obtain rfl := Option.some.inj H
      have q13 : (x3_1 : Int) ≤ ((l0.length : Int) : Int) := of_decide_eq_true (by first | (with_reducible assumption) | assumption)
      obtain ⟨i013, hi013, _, hsz13, _⟩ := info_parts info46
      have hcut13 := cut_to (P := Try.prog) 22 46 .i64 Try.underlying22 hi013 Ao2 l0.length co2 x3_1 (of_decide_eq_true (by first | (with_reducible assumption) | assumption)) q13 (Kd.Zv HO_0.out).2.1
      have hr13 := Kd.R_take (m := (x3_1 : Int).toNat) HO_0.out (by omega)
      have hy13 : y112.length = (x3_1 : Int).toNat := (by rw [Ny112.out, List.length_take]; omega)
      rw [← Ny112.out] at hr13
      rw [← hy13] at hr13 hcut13
      clear hy13 hi013 hsz13 HO_0
      have HO114 := Zb.mk hr13
      clear hr13
      replace q13 := eq_true q13
      go_wp2
      go_ret
      exact ⟨_, by first | rfl | (simp [errW_none, errW_some] <;> rfl) | (simp [*, errW_none, errW_some] <;> rfl), by (with_reducible repeat first | apply Kd.Zm | apply Kd.Zo); exact HO114.out, by repeat (with_reducible first | exact HB.out | apply Zc | apply Za | apply Zd), by repeat (with_reducible first | exact HK.out | apply Kept.alloc | apply Kept.drewN | apply Kept.drew)⟩
     ·rw [if_neg c12] at H
      exact absurd H (by simp)
    ·rw [if_neg c11] at H
     exact absurd H (by simp)
def r00short.l0 : Nat → List Int → Int → List Int → Int → Int → Option (List Int × Int)
 | 0, _, _, _, _, _ => none
 | k + 1, x0, x1, x6, x7, x8 => if x8 ≥ 0 then (if 0 ≤ x8 then (if x8 < (x0.length : Int) then (if x1 = 0 then (none) else (if x8 < (x6.length : Int) then (r00short.l0 k x0 x1 (x6.set (x8 : Int).toNat (IntKind.u64.wrap (Int.tdiv (IntKind.u64.wrap ((IntKind.u64.wrap (x7 * 4294967296)) + (rd x0 x8))) x1))) (Int.tmod (IntKind.u64.wrap ((IntKind.u64.wrap (x7 * 4294967296)) + (rd x0 x8))) x1) (wrap64 (x8 - 1))) else (none))) else (none)) else (none)) else ((r00low.f k x6).bind fun t120 => (some (t120, x7)))
def r00short.f (k : Nat) (l0 : List Int) (a1 : Int) : Option (List Int × Int) := if 0 ≤ (l0.length : Int) then (if ((l0.length : Int) : Int).toNat ≤ 35184372088832 then (r00short.l0 k l0 a1 (List.replicate ((l0.length : Int) : Int).toNat 0) 0 (wrap64 ((l0.length : Int) - 1))) else (none)) else (none)
set_option maxHeartbeats 8000000 in
set_option maxRecDepth 100000 in
theorem r00short.calls (k : Nat) (A0 : Option Addr) (c0 : Nat) (l0 : List Int) (a1 : Int) (r1 : List Int) (r2 : Int) (w : World) (hr0 : Kd.C (Kd.int .u64) w A0 l0.length l0) (hc0 : l0.length ≤ c0) (h : r00short.f k l0 a1 = some (r1, r2)) :
  Calls Try.prog 117 #[.slice A0 l0.length c0, .int .u64 a1] w fun e w' => ∃ v0_ : Value, e = .returned (.tuple #[v0_, .int .u64 r2]) ∧ Kd.R (Kd.int .u64) 46 w' w.heap.size (fun _ => True) v0_ r1 ∧ Below w.heap.size w w' := by
 have HR0 := Zb.mk hr0
 have HC0 := Zb.mk hc0
 clear hr0 hc0
 have HB := Zb.mk (Below.refl w.heap.size w)
 have H : (if 0 ≤ (l0.length : Int) then (if ((l0.length : Int) : Int).toNat ≤ 35184372088832 then (r00short.l0 k l0 a1 (List.replicate ((l0.length : Int) : Int).toNat 0) 0 (wrap64 ((l0.length : Int) - 1))) else (none)) else (none)) = some (r1, r2) := h
 clear h
 by_cases c3 : 0 ≤ (l0.length : Int)
 ·rw [if_pos c3] at H
  have c3b0 := eq_true c3
  have c3b1 : decide (0 ≤ (l0.length : Int)) = true := decide_eq_true c3
  clear c3
  by_cases c4 : ((l0.length : Int) : Int).toNat ≤ 35184372088832
  ·rw [if_pos c4] at H
   have c4b0 := eq_true c4
   have c4b1 : decide (((l0.length : Int) : Int).toNat ≤ 35184372088832) = true := decide_eq_true c4
   clear c4
   obtain ⟨y115, hy115⟩ : ∃ y_ : List Int, y_ = (List.replicate ((l0.length : Int) : Int).toNat 0) := ⟨_, rfl⟩
   replace H : (r00short.l0 k l0 a1 y115 0 (wrap64 ((l0.length : Int) - 1))) = some (r1, r2) := by first | (rw [hy115]; with_reducible exact H) | (have H2_ := (Option.bind_some _ _).symm.trans H; rw [hy115]; with_reducible exact H2_) | (have H2_ := (Option.bind_some _ _).symm.trans H; with_reducible exact H2_) | with_reducible exact H | (rw [hy115]; exact H) | exact H
   have Ny115 := Zb.mk hy115
   clear hy115
   have H' := Zb.mk H
   clear H
   go_enter Try.func117, Try.ntmps117
   go_wp2_with (first | ((with_reducible refine Zt (N := 12) rfl ?_); refine Kd.R_make (Kd.int .u64) _ 46 rfl (N := 12) rfl 22 _ _ rfl (l0.length : Int) rfl rfl Try.underlying22 (.int .u64 0) 8 info46 rfl (by decide) (by omega) 0 (ok := fun _ => True) (okp := fun _ => True) rfl (fun _ hk => hk) trivial (of_decide_eq_true (by first | (with_reducible assumption) | assumption)) (Nat.le_trans (Nat.mul_le_mul_right _ (of_decide_eq_true (by first | (with_reducible assumption) | assumption) : (l0.length : Int).toNat ≤ 35184372088832)) (by omega)) (Below.refl _ _) (Nat.le_refl _) ?_; intro v116 w5 ho6 hb hg_ hnew_; clear hg_ hnew_; (first | rw [← Ny115.out] at ho6 | (simp only [Int.reduceToNat] at ho6; rw [← Ny115.out] at ho6)); have n0_ := Zb.mk (Kd.ZG ho6 (Zi (by repeat (with_reducible first | exact HB.out | apply Zc | apply Za | apply Zd)))); have n1_ := Zb.mk (Zl (by repeat (with_reducible first | exact HB.out | apply Zc | apply Za | apply Zd)) hb); clear HB; have HO117 := n0_; have HB := n1_; clear n0_ n1_; clear hb ho6))
   go_loopg [7, 8] k (fun kq v7 v8 w' => ∃ (x6_1 : List Int) (x7_1 : Int) (x8_1 : Int), v7 = .int .u64 x7_1 ∧ v8 = .int .i64 x8_1 ∧ Zb (r00short.l0 kq l0 a1 x6_1 x7_1 x8_1 = some (r1, r2)) ∧ Zb (kq ≤ k) ∧ Zb (Kd.R (Kd.int .u64) 46 w' w.heap.size (fun _ => True) v116 x6_1) ∧ Zb (Below w.heap.size w w'))
   case atStart => exact ⟨(y115), (0), (wrap64 ((l0.length : Int) - 1)), (by first | rfl | (simp; done) | (simp [*]; done)), (by first | rfl | (simp; done) | (simp [*]; done)), H', ⟨Nat.le_refl _⟩, ⟨by (with_reducible repeat first | apply Kd.Zm | apply Kd.Zo); exact HO117.out⟩, ⟨by repeat (with_reducible first | exact HB.out | apply Zc | apply Za | apply Zd)⟩⟩
   case round =>
    clear H'
    try clear c1
    try clear p2
    try clear c3
    try clear c3b0
    try clear c3b1
    try clear c4
    try clear c4b0
    try clear c4b1
    try clear p6
    obtain ⟨x6_1, x7_1, x8_1, rfl, rfl, HA, HK1, HO_6, HB⟩ := hrel
    cases gk with
    | zero => exact absurd HA.out (by simp [r00short.l0])
    | succ k1 =>
     have H := HA.out
     clear HA
     simp only [r00short.l0] at H
     by_cases c7 : x8_1 ≥ 0
     ·rw [if_pos c7] at H
      have c7b0 : decide (0 ≤ x8_1) = true := decide_eq_true c7
      clear c7
      by_cases c8 : 0 ≤ x8_1
      ·rw [if_pos c8] at H
       have c8b0 : decide (0 ≤ x8_1) = true := decide_eq_true c8
       clear c8
       by_cases c9 : x8_1 < (l0.length : Int)
       ·rw [if_pos c9] at H
        have c9b0 : decide (x8_1 < (l0.length : Int)) = true := decide_eq_true c9
        clear c9
        by_cases c10 : a1 = 0
        ·rw [if_pos c10] at H
         exact absurd H (by simp)
        ·rw [if_neg c10] at H
         have c10b0 : (a1 == 0) = false := beq_eq_false_iff_ne.mpr c10
         have c10b1 : (a1 != 0) = true := bne_iff_ne.mpr c10
         by_cases c11 : x8_1 < (x6_1.length : Int)
         ·rw [if_pos c11] at H
          have c11b0 : decide (x8_1 < (x6_1.length : Int)) = true := decide_eq_true c11
          clear c11
          obtain ⟨y119, hy119⟩ : ∃ y_ : List Int, y_ = (x6_1.set (x8_1 : Int).toNat (IntKind.u64.wrap (Int.tdiv (IntKind.u64.wrap ((IntKind.u64.wrap (x7_1 * 4294967296)) + (rd l0 x8_1))) a1))) := ⟨_, rfl⟩
          replace H : (r00short.l0 k1 l0 a1 y119 (Int.tmod (IntKind.u64.wrap ((IntKind.u64.wrap (x7_1 * 4294967296)) + (rd l0 x8_1))) a1) (wrap64 (x8_1 - 1))) = some (r1, r2) := by first | (rw [hy119]; with_reducible exact H) | (have H2_ := (Option.bind_some _ _).symm.trans H; rw [hy119]; with_reducible exact H2_) | (have H2_ := (Option.bind_some _ _).symm.trans H; with_reducible exact H2_) | with_reducible exact H | (rw [hy119]; exact H) | exact H
          have Ny119 := Zb.mk hy119
          clear hy119
          have H' := Zb.mk H
          clear H
          have p118 : 0 ≤ (x8_1 : Int) := of_decide_eq_true (by first | (with_reducible assumption) | assumption)
          have q118 : x8_1 < (l0.length : Int) := of_decide_eq_true (by first | (with_reducible assumption) | assumption)
          obtain ⟨ad118, e118, hx118_0⟩ := Kd.at_int HR0.out x8_1 p118 q118
          cases e118
          replace hx118_0 := (HB.out.cell (World.block_lt_of_cell? w _ hx118_0)).trans hx118_0
          replace p118 := eq_true p118
          replace q118 := eq_true q118
          have p12 : 0 ≤ (x8_1 : Int) := of_decide_eq_true (by first | (with_reducible assumption) | assumption)
          have q12 : (x8_1 : Int) < ((x6_1.length : Int) : Int) := of_decide_eq_true (by first | (with_reducible assumption) | assumption)
          obtain ⟨go12, co12, eo12, gb12, gl12, cl12, HG12⟩ := Kd.R_form HO_6.out (by omega)
          (first | cases eo12 | (injection eo12 with ea_ en_ ec_; (first | subst ea_ | (injection ea_ with ea_; subst ea_)); subst ec_; clear en_))
          have GB12 := Zb.mk gb12
          have GG12 := Zb.mk HG12
          clear gb12 gl12 HG12
          obtain ⟨hx12_0, hf12_0⟩ := Kd.R_celln 0 HO_6.out (x8_1 : Int) p12 q12
          replace p12 := eq_true p12
          replace q12 := eq_true q12
          have HP13 := Kd.R_putg HO_6.out (x8_1 : Int) (IntKind.u64.wrap (Int.tdiv (IntKind.u64.wrap ((IntKind.u64.wrap (x7_1 * 4294967296)) + (rd l0 x8_1))) a1))
          go_wp2_with (first | ((with_reducible refine gate_store (t := 46) (p := 32) rfl ?_); refine ZQ (t := 46) (p := 32) (v := ?vo_w14) (w1 := (wr.setCell ⟨go12, (x8_1 : Int).toNat, none⟩ (.int .u64 (IntKind.u64.wrap (Int.tdiv (IntKind.u64.wrap ((IntKind.u64.wrap (x7_1 * 4294967296)) + (rd l0 x8_1))) a1))))) ?hg ?ho ?hn ?hr ?_; (case ho => rfl); (case hg => rfl); (case hn => rfl); (case hr => first | (go_simp; done) | (go_simp; rfl)); intro w14 hw; have hg : wr.grownBy w14 (some go12) := (by rw [hw]; exact HP13.2); have hp_ : Kd.R (Kd.int .u64) 46 w14 w.heap.size (fun _ => True) (.slice (some ⟨go12, 0, none⟩) x6_1.length co12) y119 := (by rw [hw, Ny119.out]; exact HP13.1); clear HP13; have n0_ := Zb.mk (hp_); have n1_ := Zb.mk ((by rw [hw]; exact Zh (HB.out) GB12.out : Below w.heap.size w w14)); clear HO_6; clear HB; have HO_6 := n0_; have HB := n1_; clear n0_ n1_; clear hg hw hp_))
          go_roundg k1
          case measure => have := HK1.out; omega
          case rel => exact ⟨(y119), (Int.tmod (IntKind.u64.wrap ((IntKind.u64.wrap (x7_1 * 4294967296)) + (rd l0 x8_1))) a1), (wrap64 (x8_1 - 1)), (by first | rfl | (simp; done) | (simp [*]; done)), (by first | rfl | (simp; done) | (simp [*]; done)), H', ⟨by have := HK1.out; omega⟩, ⟨by (with_reducible repeat first | apply Kd.Zm | apply Kd.Zo); exact HO_6.out⟩, ⟨by repeat (with_reducible first | exact HB.out | apply Zc | apply Za | apply Zd)⟩⟩
         ·rw [if_neg c11] at H
          exact absurd H (by simp)
       ·rw [if_neg c9] at H
        exact absurd H (by simp)
      ·rw [if_neg c8] at H
       exact absurd H (by simp)
     ·rw [if_neg c7] at H
      have c7b0 : decide (0 ≤ x8_1) = false := decide_eq_false c7
      clear c7
      replace H := Option.bind_eq_some_iff.mp H
      obtain ⟨t120, A150, H⟩ := H
      replace H : (some (t120, x7_1)) = some (r1, r2) := H
      have A15 := Zb.mk A150
      clear A150
      simp only [Option.some.injEq, Prod.mk.injEq] at H
      obtain ⟨rfl, rfl⟩ := H
      obtain ⟨Ao16, co16, eo16⟩ := Kd.Zy HO_6.out
      subst eo16
      go_wp2_with (first | ((with_reducible refine Zp (f := 122) rfl ?_); refine ZB (some 37) rfl rfl Try.func122 (by kernel_rfl) rfl #[.slice Ao16 x6_1.length co16] rfl (by (try simp only [List.map_toArray, List.map_cons, List.map_nil]); first | done | rfl | (simp only [List.length_drop, List.length_take]; rfl)) ?_; (with_reducible refine (r00low.calls k1 (fun k_ => some k_ = (.slice Ao16 x6_1.length co16 : Value).ownBlock) (.slice Ao16 x6_1.length co16) x6_1 t120 w _ ?side1 ?side2 A15.out).mono ?_); (case side1 => repeat (with_reducible first | exact HB.out | apply Zc | apply Za | apply Zd)); (case side2 => exact Kd.R_tight rfl HO_6.out); rintro e w17 ⟨v121, rfl, ho0, hb, hkp⟩; refine ⟨_, rfl, ?_⟩; have n0_ := Zb.mk (Kd.ZE (ok' := fun k_ => True) ho0 (fun k_ hk_ => trivial)); have n1_ := Zb.mk (hb); clear HB; clear HO_6; have HO122 := n0_; have HB := n1_; clear n0_ n1_; (try clear hb); (try clear hkp); (try clear ho0)))
      go_ret2
      exact ⟨_, by first | rfl | (simp [errW_none, errW_some] <;> rfl) | (simp [*, errW_none, errW_some] <;> rfl), by (with_reducible repeat first | apply Kd.Zm | apply Kd.Zo); exact HO122.out, by repeat (with_reducible first | exact HB.out | apply Zc | apply Za | apply Zd)⟩
  ·rw [if_neg c4] at H
   exact absurd H (by simp)
 ·rw [if_neg c3] at H
  exact absurd H (by simp)
def r00NatDiv.f (k : Nat) (l0 : List Int) (l1 : List Int) : Option (List Int × List Int) := (r00halves.f k l0).bind fun t123 => ((r00halves.f k l1).bind fun t126 => (if (t123.length : Int) < (t126.length : Int) then (none) else (if (t126.length : Int) = 1 then (if 0 < (t126.length : Int) then ((r00short.f k t123 (rd t126 0)).bind fun bt130 => ((r00limbs.f k bt130.1).bind fun t134 => ((r00NatOf.f k bt130.2).bind fun t137 => (some (t134, t137))))) else (none)) else (none))))
set_option maxHeartbeats 8000000 in
set_option maxRecDepth 100000 in
theorem r00NatDiv.calls (k : Nat) (A0 : Option Addr) (c0 : Nat) (l0 : List Int) (A1 : Option Addr) (c1 : Nat) (l1 : List Int) (r1 : List Int) (r2 : List Int) (w : World) (hr0 : Kd.C (Kd.int .u64) w A0 l0.length l0) (hc0 : l0.length ≤ c0) (hr1 : Kd.C (Kd.int .u64) w A1 l1.length l1) (hc1 : l1.length ≤ c1) (h : r00NatDiv.f k l0 l1 = some (r1, r2)) :
  Calls Try.prog 81 #[.slice A0 l0.length c0, .slice A1 l1.length c1] w fun e w' => ∃ v0_ v1_ : Value, e = .returned (.tuple #[v0_, v1_]) ∧ Kd.R (Kd.int .u64) 46 w' w.heap.size (fun k_ => some k_ ≠ (v1_ : Value).ownBlock) v0_ r1 ∧ Kd.R (Kd.int .u64) 46 w' w.heap.size (fun k_ => some k_ ≠ (v0_ : Value).ownBlock) v1_ r2 ∧ Below w.heap.size w w' := by
 have HR0 := Zb.mk hr0
 have HC0 := Zb.mk hc0
 clear hr0 hc0
 have HR1 := Zb.mk hr1
 have HC1 := Zb.mk hc1
 clear hr1 hc1
 have HB := Zb.mk (Below.refl w.heap.size w)
 have H : ((r00halves.f k l0).bind fun t123 => ((r00halves.f k l1).bind fun t126 => (if (t123.length : Int) < (t126.length : Int) then (none) else (if (t126.length : Int) = 1 then (if 0 < (t126.length : Int) then ((r00short.f k t123 (rd t126 0)).bind fun bt130 => ((r00limbs.f k bt130.1).bind fun t134 => ((r00NatOf.f k bt130.2).bind fun t137 => (some (t134, t137))))) else (none)) else (none))))) = some (r1, r2) := h
 clear h
 replace H := Option.bind_eq_some_iff.mp H
 obtain ⟨t123, A30, H⟩ := H
 replace H : ((r00halves.f k l1).bind fun t126 => (if (t123.length : Int) < (t126.length : Int) then (none) else (if (t126.length : Int) = 1 then (if 0 < (t126.length : Int) then ((r00short.f k t123 (rd t126 0)).bind fun bt130 => ((r00limbs.f k bt130.1).bind fun t134 => ((r00NatOf.f k bt130.2).bind fun t137 => (some (t134, t137))))) else (none)) else (none)))) = some (r1, r2) := H
 have A3 := Zb.mk A30
 clear A30
 replace H := Option.bind_eq_some_iff.mp H
 obtain ⟨t126, A40, H⟩ := H
 replace H : (if (t123.length : Int) < (t126.length : Int) then (none) else (if (t126.length : Int) = 1 then (if 0 < (t126.length : Int) then ((r00short.f k t123 (rd t126 0)).bind fun bt130 => ((r00limbs.f k bt130.1).bind fun t134 => ((r00NatOf.f k bt130.2).bind fun t137 => (some (t134, t137))))) else (none)) else (none))) = some (r1, r2) := H
 have A4 := Zb.mk A40
 clear A40
 by_cases c5 : (t123.length : Int) < (t126.length : Int)
 ·rw [if_pos c5] at H
  exact absurd H (by simp)
 ·rw [if_neg c5] at H
  have c5b0 : decide ((t123.length : Int) < (t126.length : Int)) = false := decide_eq_false c5
  have c5b1 : decide (t123.length < t126.length) = false := decide_eq_false (fun h => c5 (Int.ofNat_lt.mpr h))
  clear c5
  by_cases c6 : (t126.length : Int) = 1
  ·rw [if_pos c6] at H
   have c6b0 : ((t126.length : Int) == 1) = true := beq_iff_eq.mpr c6
   have c6b1 : ((t126.length : Int) != 1) = false := bne_eq_false_iff_eq.mpr c6
   clear c6
   by_cases c7 : 0 < (t126.length : Int)
   ·rw [if_pos c7] at H
    have c7b0 : decide (0 < (t126.length : Int)) = true := decide_eq_true c7
    have c7b1 : decide (0 < t126.length) = true := decide_eq_true (by omega)
    clear c7
    replace H := Option.bind_eq_some_iff.mp H
    obtain ⟨⟨t130, t131⟩, A80, H⟩ := H
    replace H : ((r00limbs.f k t130).bind fun t134 => ((r00NatOf.f k t131).bind fun t137 => (some (t134, t137)))) = some (r1, r2) := H
    have A8 := Zb.mk A80
    clear A80
    replace H := Option.bind_eq_some_iff.mp H
    obtain ⟨t134, A90, H⟩ := H
    replace H : ((r00NatOf.f k t131).bind fun t137 => (some (t134, t137))) = some (r1, r2) := H
    have A9 := Zb.mk A90
    clear A90
    replace H := Option.bind_eq_some_iff.mp H
    obtain ⟨t137, A100, H⟩ := H
    replace H : (some (t134, t137)) = some (r1, r2) := H
    have A10 := Zb.mk A100
    clear A100
    simp only [Option.some.injEq, Prod.mk.injEq] at H
    obtain ⟨rfl, rfl⟩ := H
    go_enter Try.func81, Try.ntmps81
    go_wp2_with (first | ((with_reducible refine Zp (f := 91) rfl ?_); refine ZB (some 13) rfl rfl Try.func91 (by kernel_rfl) rfl #[.slice A0 l0.length c0] rfl (by (try simp only [List.map_toArray, List.map_cons, List.map_nil]); first | done | rfl | (simp only [List.length_drop, List.length_take]; rfl)) ?_; (with_reducible refine (r00halves.calls k _ _ l0 t123 _ ?side1 ?side2 A3.out).mono ?_); (case side1 => repeat (first | exact HR0.out | (with_reducible refine Kd.ZC ?_ _) | (with_reducible refine Kd.ZF ?_ _) | (with_reducible refine Kd.ZN ?_))); (case side2 => exact HC0.out); rintro e w11 ⟨v124, rfl, ho0, hb⟩; refine ⟨_, rfl, ?_⟩; have n0_ := Zb.mk (Kd.ZG ho0 (Zi (by repeat (with_reducible first | exact HB.out | apply Zc | apply Za | apply Zd)))); have n1_ := Zb.mk (Zl (by repeat (with_reducible first | exact HB.out | apply Zc | apply Za | apply Zd)) hb); clear HB; have HO125 := n0_; have HB := n1_; clear n0_ n1_; (try clear hb); (try clear hb2); (try clear hk); (try clear hi); (try clear ho0)) | ((with_reducible refine Zp (f := 91) rfl ?_); refine ZB (some 15) rfl rfl Try.func91 (by kernel_rfl) rfl #[.slice A1 l1.length c1] rfl (by (try simp only [List.map_toArray, List.map_cons, List.map_nil]); first | done | rfl | (simp only [List.length_drop, List.length_take]; rfl)) ?_; (with_reducible refine (r00halves.calls k _ _ l1 t126 _ ?side1 ?side2 A4.out).mono ?_); (case side1 => repeat (first | exact (Kd.C_below HR1.out HB.out) | (with_reducible refine Kd.ZC ?_ _) | (with_reducible refine Kd.ZF ?_ _) | (with_reducible refine Kd.ZN ?_))); (case side2 => exact HC1.out); rintro e w12 ⟨v127, rfl, ho0, hb⟩; refine ⟨_, rfl, ?_⟩; have n0_ := Zb.mk (Kd.ZJ (by (with_reducible repeat first | apply Kd.Zm | apply Kd.Zo); exact HO125.out) (Kd.ZV ho0) hb); have n1_ := Zb.mk (Kd.ZG (Kd.R_new' ho0 (Kd.R_lt (by (with_reducible repeat first | apply Kd.Zm | apply Kd.Zo); exact HO125.out))) (Zi (by repeat (with_reducible first | exact HB.out | apply Zc | apply Za | apply Zd)))); have n2_ := Zb.mk (Zl (by repeat (with_reducible first | exact HB.out | apply Zc | apply Za | apply Zd)) hb); clear HO125; clear HB; have HO125 := n0_; have HO128 := n1_; have HB := n2_; clear n0_ n1_ n2_; (try clear hb); (try clear hb2); (try clear hk); (try clear hi); (try clear ho0); obtain ⟨Ao13, co13, eo13⟩ := Kd.Zy HO125.out; subst eo13; obtain ⟨Ao14, co14, eo14⟩ := Kd.Zy HO128.out; subst eo14; have p129 : 0 ≤ (0 : Int) := (by omega); have q129 : 0 < (t126.length : Int) := of_decide_eq_true (by first | (with_reducible assumption) | assumption); obtain ⟨ad129, e129, hx129_0⟩ := Kd.at_int (Kd.Zv HO128.out).2.2 0 p129 q129; cases e129; have qi129 : (0 < t126.length) = True := eq_true (by omega); (try rw [show ((0 : Int)).toNat = 0 from rfl] at hx129_0); (try rw [Addr.add_zero'] at hx129_0); replace p129 := eq_true p129; replace q129 := eq_true q129) | ((with_reducible refine Zp (f := 117) rfl ?_); refine ZB (some 31) rfl rfl Try.func117 (by kernel_rfl) rfl #[.slice Ao13 t123.length co13, .int .u64 (rd t126 0)] rfl (by (try simp only [List.map_toArray, List.map_cons, List.map_nil]); first | done | rfl | (simp only [List.length_drop, List.length_take]; rfl)) ?_; (with_reducible refine (r00short.calls k _ _ t123 (rd t126 0) t130 t131 _ ?side1 ?side2 A8.out).mono ?_); (case side1 => repeat (first | exact (Kd.Zv HO125.out).2.2 | (with_reducible refine Kd.ZC ?_ _) | (with_reducible refine Kd.ZF ?_ _) | (with_reducible refine Kd.ZN ?_))); (case side2 => exact (Kd.Zv HO125.out).2.1); rintro e w15 ⟨v132, rfl, ho0, hb⟩; refine ⟨_, rfl, ?_⟩; have n0_ := Zb.mk (Kd.ZJ (by (with_reducible repeat first | apply Kd.Zm | apply Kd.Zo); exact HO125.out) (Kd.ZV ho0) hb); have n1_ := Zb.mk (Kd.ZJ (by (with_reducible repeat first | apply Kd.Zm | apply Kd.Zo); exact HO128.out) (Kd.ZV ho0) hb); have n2_ := Zb.mk (Kd.ZG (Kd.R_new' (Kd.R_new' ho0 (Kd.R_lt (by (with_reducible repeat first | apply Kd.Zm | apply Kd.Zo); exact HO125.out))) (Kd.R_lt (by (with_reducible repeat first | apply Kd.Zm | apply Kd.Zo); exact HO128.out))) (Zi (by repeat (with_reducible first | exact HB.out | apply Zc | apply Za | apply Zd)))); have n3_ := Zb.mk (Zl (by repeat (with_reducible first | exact HB.out | apply Zc | apply Za | apply Zd)) hb); clear HO125; clear HO128; clear HB; have HO125 := n0_; have HO128 := n1_; have HO133 := n2_; have HB := n3_; clear n0_ n1_ n2_ n3_; (try clear hb); (try clear hb2); (try clear hk); (try clear hi); (try clear ho0); obtain ⟨Ao16, co16, eo16⟩ := Kd.Zy HO133.out; subst eo16) | ((with_reducible refine Zp (f := 92) rfl ?_); refine ZB (some 35) rfl rfl Try.func92 (by kernel_rfl) rfl #[.slice Ao16 t130.length co16] rfl (by (try simp only [List.map_toArray, List.map_cons, List.map_nil]); first | done | rfl | (simp only [List.length_drop, List.length_take]; rfl)) ?_; (with_reducible refine (r00limbs.calls k _ _ t130 t134 _ ?side1 ?side2 A9.out).mono ?_); (case side1 => repeat (first | exact (Kd.Zv HO133.out).2.2 | (with_reducible refine Kd.ZC ?_ _) | (with_reducible refine Kd.ZF ?_ _) | (with_reducible refine Kd.ZN ?_))); (case side2 => exact (Kd.Zv HO133.out).2.1); rintro e w17 ⟨v135, rfl, ho0, hb⟩; refine ⟨_, rfl, ?_⟩; have n0_ := Zb.mk (Kd.ZJ (by (with_reducible repeat first | apply Kd.Zm | apply Kd.Zo); exact HO125.out) (Kd.ZV ho0) hb); have n1_ := Zb.mk (Kd.ZJ (by (with_reducible repeat first | apply Kd.Zm | apply Kd.Zo); exact HO128.out) (Kd.ZV ho0) hb); have n2_ := Zb.mk (Kd.ZJ (by (with_reducible repeat first | apply Kd.Zm | apply Kd.Zo); exact HO133.out) (Kd.ZV ho0) hb); have n3_ := Zb.mk (Kd.ZG (Kd.R_new' (Kd.R_new' (Kd.R_new' ho0 (Kd.R_lt (by (with_reducible repeat first | apply Kd.Zm | apply Kd.Zo); exact HO125.out))) (Kd.R_lt (by (with_reducible repeat first | apply Kd.Zm | apply Kd.Zo); exact HO128.out))) (Kd.R_lt (by (with_reducible repeat first | apply Kd.Zm | apply Kd.Zo); exact HO133.out))) (Zi (by repeat (with_reducible first | exact HB.out | apply Zc | apply Za | apply Zd)))); have n4_ := Zb.mk (Zl (by repeat (with_reducible first | exact HB.out | apply Zc | apply Za | apply Zd)) hb); clear HO125; clear HO128; clear HO133; clear HB; have HO125 := n0_; have HO128 := n1_; have HO133 := n2_; have HO136 := n3_; have HB := n4_; clear n0_ n1_ n2_ n3_ n4_; (try clear hb); (try clear hb2); (try clear hk); (try clear hi); (try clear ho0)) | ((with_reducible refine Zp (f := 23) rfl ?_); refine ZB (some 37) rfl rfl Try.func23 (by kernel_rfl) rfl #[.int .u64 t131] rfl (by (try simp only [List.map_toArray, List.map_cons, List.map_nil]); first | done | rfl | (simp only [List.length_drop, List.length_take]; rfl)) ?_; (with_reducible refine (r00NatOf.calls k t131 t137 _ A10.out).mono ?_); rintro e w18 ⟨v138, rfl, ho0, hb⟩; refine ⟨_, rfl, ?_⟩; have n0_ := Zb.mk (Kd.ZJ (by (with_reducible repeat first | apply Kd.Zm | apply Kd.Zo); exact HO125.out) (Kd.ZV ho0) hb); have n1_ := Zb.mk (Kd.ZJ (by (with_reducible repeat first | apply Kd.Zm | apply Kd.Zo); exact HO128.out) (Kd.ZV ho0) hb); have n2_ := Zb.mk (Kd.ZJ (by (with_reducible repeat first | apply Kd.Zm | apply Kd.Zo); exact HO133.out) (Kd.ZV ho0) hb); have n3_ := Zb.mk (Kd.ZJ (by (with_reducible repeat first | apply Kd.Zm | apply Kd.Zo); exact HO136.out) (Kd.ZV ho0) hb); have n4_ := Zb.mk (Kd.ZG (Kd.R_new' (Kd.R_new' (Kd.R_new' (Kd.R_new' ho0 (Kd.R_lt (by (with_reducible repeat first | apply Kd.Zm | apply Kd.Zo); exact HO125.out))) (Kd.R_lt (by (with_reducible repeat first | apply Kd.Zm | apply Kd.Zo); exact HO128.out))) (Kd.R_lt (by (with_reducible repeat first | apply Kd.Zm | apply Kd.Zo); exact HO133.out))) (Kd.R_lt (by (with_reducible repeat first | apply Kd.Zm | apply Kd.Zo); exact HO136.out))) (Zi (by repeat (with_reducible first | exact HB.out | apply Zc | apply Za | apply Zd)))); have n5_ := Zb.mk (Zl (by repeat (with_reducible first | exact HB.out | apply Zc | apply Za | apply Zd)) hb); clear HO125; clear HO128; clear HO133; clear HO136; clear HB; have HO125 := n0_; have HO128 := n1_; have HO133 := n2_; have HO136 := n3_; have HO139 := n4_; have HB := n5_; clear n0_ n1_ n2_ n3_ n4_ n5_; (try clear hb); (try clear hb2); (try clear hk); (try clear hi); (try clear ho0)))
    go_ret2
    exact ⟨_, _, by first | rfl | (simp [errW_none, errW_some] <;> rfl) | (simp [*, errW_none, errW_some] <;> rfl), by (with_reducible repeat first | apply Kd.Zm | apply Kd.Zo); exact Kd.ZE HO136.out (fun _ hk => hk.2), by (with_reducible repeat first | apply Kd.Zm | apply Kd.Zo); exact Kd.ZE HO139.out (fun _ hk => hk.2), by repeat (with_reducible first | exact HB.out | apply Zc | apply Za | apply Zd)⟩
   ·rw [if_neg c7] at H
    exact absurd H (by simp)
  ·rw [if_neg c6] at H
   exact absurd H (by simp)
end Go.Proofs.Ytbmddlldadbfnaa.BP
end
section
namespace Go.Proofs.Ytbmddlldadbfnaa.BP
open Go.RowKit Go.Proofs.Ytbmddlldadbfnaa.BA Go.Proofs.Ytbmddlldadbfnaa.BB Go.Proofs.YtbmddlldadbfnaaW.PrintWords Go.Proofs.YtbmddlldadbfnaaW.PrintLast Go.Proofs.YtbmddlldadbfnaaW.PrintMore
attribute [local go_sem] ZU ZS max_two min_two ZP ZO ZT ZR
set_option linter.unusedVariables false
set_option linter.unusedSimpArgs false
mutual
def r19Text.l0 : Nat → List Int → List Int → List Int → Bool → List Int → Int → Option (ByteArray)
 | 0, _, _, _, _, _, _ => none
 | k + 1, x5, x6, x7, x141000, x141001, x141002 => (r00NatBits.f k x7).bind fun t145 => (if t145 > 0 then ((r00NatDiv.f k x7 x5).bind fun bt146 => (if (bt146.2.length : Int) > 0 then (if 0 < (bt146.2.length : Int) then ((r19digit.f (wrap64 (rd bt146.2 0))).bind fun t153 => (if x6.length < 140737488355328 then (r19Text.l0 k x5 (x6 ++ [t153]) bt146.1 x141000 x141001 x141002) else (none))) else (none)) else ((r19digit.f 0).bind fun t157 => (if x6.length < 140737488355328 then (r19Text.l0 k x5 (x6 ++ [t157]) bt146.1 x141000 x141001 x141002) else (none))))) else (if x141000 = true then (if x6.length < 140737488355328 then (r19Text.j1 k (x6 ++ [45])) else (none)) else (r19Text.j1 k x6)))
def r19Text.j1 : Nat → List Int → Option (ByteArray)
 | 0, _ => none
 | k + 1, x6 => if 0 ≤ (x6.length : Int) then (if ((x6.length : Int) : Int).toNat ≤ 281474976710656 then (r19Text.l1 k x6 (List.replicate ((x6.length : Int) : Int).toNat 0) 0) else (none)) else (none)
def r19Text.l1 : Nat → List Int → List Int → Int → Option (ByteArray)
 | 0, _, _, _ => none
 | k + 1, x6, x11, x12 => if x12 < (x6.length : Int) then (if 0 ≤ (wrap64 ((wrap64 ((x6.length : Int) - 1)) - x12)) then (if (wrap64 ((wrap64 ((x6.length : Int) - 1)) - x12)) < (x6.length : Int) then (if 0 ≤ x12 then (if x12 < (x11.length : Int) then (r19Text.l1 k x6 (x11.set (x12 : Int).toNat (rd x6 (wrap64 ((wrap64 ((x6.length : Int) - 1)) - x12)))) (wrap64 (x12 + 1))) else (none)) else (none)) else (none)) else (none)) else (some (strOfNums x11))
end
def r19Text.f (k : Nat) (a0_0 : Bool) (l0_1 : List Int) (a0_2 : Int) (a1 : Int) : Option (ByteArray) := (r00Num_Zero.f k a0_0 l0_1 a0_2).bind fun t141 => (if t141 = true then (some (⟨#[48]⟩ : ByteArray)) else ((r00NatOf.f k (IntKind.u64.wrap (a1))).bind fun t142 => (r19Text.l0 k t142 ([] : List Int) l0_1 a0_0 l0_1 a0_2)))
set_option maxHeartbeats 8000000 in
set_option maxRecDepth 100000 in
theorem r19Text.calls (k : Nat) (a0_0 : Bool) (P0_1_ : Nat → Prop) (A0_1 : Option Addr) (c0_1 : Nat) (l0_1 : List Int) (a0_2 : Int) (a1 : Int) (r : ByteArray) (w : World) (hs0_1 : Kd.V (Kd.int .u64) 46 w w.heap.size (fun k_ => P0_1_ k_) (.slice A0_1 l0_1.length c0_1) l0_1) (h : r19Text.f k a0_0 l0_1 a0_2 a1 = some r) :
  Calls Try.prog 43 #[.agg #[.bool a0_0, .slice A0_1 l0_1.length c0_1, .int .i64 a0_2], .int .i64 a1] w fun e w' => e = .returned (.string r) ∧ Below w.heap.size w w' := by
 have hu48 := Try.underlying48
 have HO0_1 := Zb.mk (show Kd.V (Kd.int .u64) 46 w w.heap.size (fun k_ => (P0_1_ k_ ∨ w.heap.size ≤ k_)) (.slice A0_1 l0_1.length c0_1) l0_1 from Kd.V_mono hs0_1 (fun k_ hk => .inl hk))
 have HB := Zb.mk (Below.refl w.heap.size w)
 have H : ((r00Num_Zero.f k a0_0 l0_1 a0_2).bind fun t141 => (if t141 = true then (some (⟨#[48]⟩ : ByteArray)) else ((r00NatOf.f k (IntKind.u64.wrap (a1))).bind fun t142 => (r19Text.l0 k t142 ([] : List Int) l0_1 a0_0 l0_1 a0_2)))) = some r := h
 clear h
 replace H := Option.bind_eq_some_iff.mp H
 obtain ⟨t141, A30, H⟩ := H
 replace H : (if t141 = true then (some (⟨#[48]⟩ : ByteArray)) else ((r00NatOf.f k (IntKind.u64.wrap (a1))).bind fun t142 => (r19Text.l0 k t142 ([] : List Int) l0_1 a0_0 l0_1 a0_2))) = some r := H
 have A3 := Zb.mk A30
 clear A30
 by_cases c4 : t141 = true
 ·subst c4
  have H1 : (some (⟨#[48]⟩ : ByteArray)) = some r := by rw [if_pos rfl] at H; exact H
  clear H
  have H := H1
  clear H1
  obtain rfl := Option.some.inj H
  go_enter Try.func43, Try.ntmps43
  go_wp2_with (first | ((with_reducible refine Zt (N := 2) rfl ?_); refine Zs ?hg (N := 2) ?hd (cs := #[.bool a0_0, .slice A0_1 l0_1.length c0_1, .int .i64 a0_2]) (t := 48) ?hr ?_; (case hd => rfl); (case hg => rfl); (case hr => first | (go_simp; done) | (go_simp; rfl)); intro gb140 hg w5 hbox hb; have n0_ := Zb.mk (Kd.V_below (Kd.V_elderB (by (with_reducible repeat first | apply Kd.V_drewN); exact HO0_1.out) gb140 (Nat.le_of_eq hg.symm)) hb); have n1_ := Zb.mk (Zl (by repeat (with_reducible first | exact HB.out | apply Zc | apply Za | apply Zd)) hb); have n2_ := Zb.mk (hbox); have n3_ := Zb.mk ((by rw [hg]; exact (Zi (by repeat (with_reducible first | exact HB.out | apply Zc | apply Za | apply Zd))) : w.heap.size ≤ gb140)); have n4_ := Zb.mk ((by rw [hg]; exact (Zi (by repeat (with_reducible first | exact HB.out | apply Zc | apply Za | apply Zd))) : w.heap.size ≤ gb140)); clear HO0_1; clear HB; have HO0_1 := n0_; have HB := n1_; have BK140 := n2_; have GW140 := n3_; have GE140 := n4_; clear n0_ n1_ n2_ n3_ n4_; clear hb hbox hg; have hcz6_0 : w5.cell? ⟨gb140, 0, none⟩ = some (.bool a0_0) := (Zk BK140.out 0).trans rfl; have hcz6_1 : w5.cell? ⟨gb140, 1, none⟩ = some (.slice A0_1 l0_1.length c0_1) := (Zk BK140.out 1).trans rfl; have hcz6_2 : w5.cell? ⟨gb140, 2, none⟩ = some (.int .i64 a0_2) := (Zk BK140.out 2).trans rfl; have hfz6_0 := Zj BK140.out 0; have hfz6_1 := Zj BK140.out 1; have hfz6_2 := Zj BK140.out 2) | ((with_reducible refine Zp (f := 54) rfl ?_); refine ZB (some 14) rfl rfl Try.func54 (by kernel_rfl) rfl #[.agg #[.bool a0_0, .slice A0_1 l0_1.length c0_1, .int .i64 a0_2]] rfl (by (try simp only [List.map_toArray, List.map_cons, List.map_nil]); first | done | rfl | (simp only [List.length_drop, List.length_take]; rfl)) ?_; (with_reducible refine (r00Num_Zero.calls k a0_0 _ _ l0_1 a0_2 true _ ?side1 ?side2 A3.out).mono ?_); (case side1 => repeat (first | exact (Kd.V_reads' HO0_1.out).2.2 | (with_reducible refine Kd.ZC ?_ _) | (with_reducible refine Kd.ZF ?_ _) | (with_reducible refine Kd.ZN ?_))); (case side2 => exact (Kd.V_reads' HO0_1.out).2.1); rintro e w7 ⟨rfl, hb⟩; refine ⟨_, rfl, ?_⟩; have n0_ := Zb.mk (Kd.V_below (by (with_reducible repeat first | apply Kd.V_drewN); exact HO0_1.out) hb); have n1_ := Zb.mk (Zn (g := gb140) (o := .cells #[.bool a0_0, .slice A0_1 l0_1.length c0_1, .int .i64 a0_2] 48 (0, 0)) (by (with_reducible repeat first | refine Ze ?_ _ | refine Zg ?_ | refine Zf ?_ _); exact BK140.out) hb); have n2_ := Zb.mk (Zl (by repeat (with_reducible first | exact HB.out | apply Zc | apply Za | apply Zd | refine Zh ?_ GE140.out)) hb); clear HO0_1; clear BK140; clear HB; have HO0_1 := n0_; have BK140 := n1_; have HB := n2_; clear n0_ n1_ n2_; (try clear hb); (try clear hb2); (try clear hk); (try clear hi)))
  go_ret
  exact ⟨by first | rfl | (simp [errW_none, errW_some] <;> rfl) | (simp [*, errW_none, errW_some] <;> rfl), by repeat (with_reducible first | exact HB.out | apply Zc | apply Za | apply Zd | refine Zh ?_ GE140.out)⟩
 ·replace c4 := Bool.eq_false_iff.mpr c4
  subst c4
  have H1 : ((r00NatOf.f k (IntKind.u64.wrap (a1))).bind fun t142 => (r19Text.l0 k t142 ([] : List Int) l0_1 a0_0 l0_1 a0_2)) = some r := by rw [if_neg (show ¬ (false = true) by decide)] at H; exact H
  clear H
  have H := H1
  clear H1
  replace H := Option.bind_eq_some_iff.mp H
  obtain ⟨t142, A80, H⟩ := H
  replace H : (r19Text.l0 k t142 ([] : List Int) l0_1 a0_0 l0_1 a0_2) = some r := H
  have A8 := Zb.mk A80
  clear A80
  have H' := Zb.mk H
  clear H
  go_enter Try.func43, Try.ntmps43
  go_wp2_with (first | ((with_reducible refine Zt (N := 2) rfl ?_); refine Zs ?hg (N := 2) ?hd (cs := #[.bool a0_0, .slice A0_1 l0_1.length c0_1, .int .i64 a0_2]) (t := 48) ?hr ?_; (case hd => rfl); (case hg => rfl); (case hr => first | (go_simp; done) | (go_simp; rfl)); intro gb140 hg w9 hbox hb; have n0_ := Zb.mk (Kd.V_below (Kd.V_elderB (by (with_reducible repeat first | apply Kd.V_drewN); exact HO0_1.out) gb140 (Nat.le_of_eq hg.symm)) hb); have n1_ := Zb.mk (Zl (by repeat (with_reducible first | exact HB.out | apply Zc | apply Za | apply Zd)) hb); have n2_ := Zb.mk (hbox); have n3_ := Zb.mk ((by rw [hg]; exact (Zi (by repeat (with_reducible first | exact HB.out | apply Zc | apply Za | apply Zd))) : w.heap.size ≤ gb140)); have n4_ := Zb.mk ((by rw [hg]; exact (Zi (by repeat (with_reducible first | exact HB.out | apply Zc | apply Za | apply Zd))) : w.heap.size ≤ gb140)); clear HO0_1; clear HB; have HO0_1 := n0_; have HB := n1_; have BK140 := n2_; have GW140 := n3_; have GE140 := n4_; clear n0_ n1_ n2_ n3_ n4_; clear hb hbox hg; have hcz10_0 : w9.cell? ⟨gb140, 0, none⟩ = some (.bool a0_0) := (Zk BK140.out 0).trans rfl; have hcz10_1 : w9.cell? ⟨gb140, 1, none⟩ = some (.slice A0_1 l0_1.length c0_1) := (Zk BK140.out 1).trans rfl; have hcz10_2 : w9.cell? ⟨gb140, 2, none⟩ = some (.int .i64 a0_2) := (Zk BK140.out 2).trans rfl; have hfz10_0 := Zj BK140.out 0; have hfz10_1 := Zj BK140.out 1; have hfz10_2 := Zj BK140.out 2) | ((with_reducible refine Zp (f := 54) rfl ?_); refine ZB (some 14) rfl rfl Try.func54 (by kernel_rfl) rfl #[.agg #[.bool a0_0, .slice A0_1 l0_1.length c0_1, .int .i64 a0_2]] rfl (by (try simp only [List.map_toArray, List.map_cons, List.map_nil]); first | done | rfl | (simp only [List.length_drop, List.length_take]; rfl)) ?_; (with_reducible refine (r00Num_Zero.calls k a0_0 _ _ l0_1 a0_2 false _ ?side1 ?side2 A3.out).mono ?_); (case side1 => repeat (first | exact (Kd.V_reads' HO0_1.out).2.2 | (with_reducible refine Kd.ZC ?_ _) | (with_reducible refine Kd.ZF ?_ _) | (with_reducible refine Kd.ZN ?_))); (case side2 => exact (Kd.V_reads' HO0_1.out).2.1); rintro e w11 ⟨rfl, hb⟩; refine ⟨_, rfl, ?_⟩; have n0_ := Zb.mk (Kd.V_below (by (with_reducible repeat first | apply Kd.V_drewN); exact HO0_1.out) hb); have n1_ := Zb.mk (Zn (g := gb140) (o := .cells #[.bool a0_0, .slice A0_1 l0_1.length c0_1, .int .i64 a0_2] 48 (0, 0)) (by (with_reducible repeat first | refine Ze ?_ _ | refine Zg ?_ | refine Zf ?_ _); exact BK140.out) hb); have n2_ := Zb.mk (Zl (by repeat (with_reducible first | exact HB.out | apply Zc | apply Za | apply Zd | refine Zh ?_ GE140.out)) hb); clear HO0_1; clear BK140; clear HB; have HO0_1 := n0_; have BK140 := n1_; have HB := n2_; clear n0_ n1_ n2_; (try clear hb); (try clear hb2); (try clear hk); (try clear hi)) | ((with_reducible refine Zp (f := 23) rfl ?_); refine ZB (some 17) rfl rfl Try.func23 (by kernel_rfl) rfl #[.int .u64 (IntKind.u64.wrap (a1))] rfl (by (try simp only [List.map_toArray, List.map_cons, List.map_nil]); first | done | rfl | (simp only [List.length_drop, List.length_take]; rfl)) ?_; (with_reducible refine (r00NatOf.calls k (IntKind.u64.wrap (a1)) t142 _ A8.out).mono ?_); rintro e w12 ⟨v143, rfl, ho0, hb⟩; refine ⟨_, rfl, ?_⟩; have n0_ := Zb.mk (Kd.V_elder' (by (with_reducible repeat first | apply Kd.V_drewN); exact HO0_1.out) (Kd.ZV ho0) hb); have n1_ := Zb.mk (Kd.ZG (Kd.R_newM (M := fun k_ => (w.heap.size ≤ k_)) ho0 (Zi (by repeat (with_reducible first | exact HB.out | apply Zc | apply Za | apply Zd | refine Zh ?_ GE140.out))) (fun k_ h_ => h_)) (Zi (by repeat (with_reducible first | exact HB.out | apply Zc | apply Za | apply Zd | refine Zh ?_ GE140.out)))); have n2_ := Zb.mk (Zn (g := gb140) (o := .cells #[.bool a0_0, .slice A0_1 l0_1.length c0_1, .int .i64 a0_2] 48 (0, 0)) (by (with_reducible repeat first | refine Ze ?_ _ | refine Zg ?_ | refine Zf ?_ _); exact BK140.out) hb); have n3_ := Zb.mk (Zl (by repeat (with_reducible first | exact HB.out | apply Zc | apply Za | apply Zd | refine Zh ?_ GE140.out)) hb); clear HO0_1; clear BK140; clear HB; have HO0_1 := n0_; have HO144 := n1_; have BK140 := n2_; have HB := n3_; clear n0_ n1_ n2_ n3_; (try clear hb); (try clear hb2); (try clear hk); (try clear hi); (try clear ho0); have hcz13_0 : w12.cell? ⟨gb140, 0, none⟩ = some (.bool a0_0) := (Zk BK140.out 0).trans rfl; have hcz13_1 : w12.cell? ⟨gb140, 1, none⟩ = some (.slice A0_1 l0_1.length c0_1) := (Zk BK140.out 1).trans rfl; have hcz13_2 : w12.cell? ⟨gb140, 2, none⟩ = some (.int .i64 a0_2) := (Zk BK140.out 2).trans rfl; have hfz13_0 := Zj BK140.out 0; have hfz13_1 := Zj BK140.out 1; have hfz13_2 := Zj BK140.out 2))
  go_loopg [6, 7] k (fun kq v6 v7 w' => ∃ (x6_1 : List Int) (x7_1 : List Int), Zb (r19Text.l0 kq t142 x6_1 x7_1 a0_0 l0_1 a0_2 = some r) ∧ Zb (kq ≤ k) ∧ Zb (Kd.R (Kd.int .u64) 46 w' w.heap.size (fun k_ => (w.heap.size ≤ k_)) v143 t142) ∧ Zb (Kd.R (Kd.int .u8) 5 w' w.heap.size (fun k_ => (w.heap.size ≤ k_)) v6 x6_1) ∧ Zb (Kd.V (Kd.int .u64) 46 w' w.heap.size (fun k_ => (P0_1_ k_ ∨ w.heap.size ≤ k_) ∧ some k_ ≠ (v143 : Value).ownBlock ∧ some k_ ≠ (v6 : Value).ownBlock ∧ k_ ≠ gb140) v7 x7_1) ∧ Zb (Kd.V (Kd.int .u64) 46 w' w.heap.size (fun k_ => (P0_1_ k_ ∨ w.heap.size ≤ k_) ∧ some k_ ≠ (v143 : Value).ownBlock ∧ some k_ ≠ (v6 : Value).ownBlock ∧ k_ ≠ gb140) (.slice A0_1 l0_1.length c0_1) l0_1) ∧ Zb (w'.heap[gb140]? = some (.cells #[.bool a0_0, (.slice A0_1 l0_1.length c0_1), .int .i64 a0_2] 48 (0, 0))) ∧ Zb (Below w.heap.size w w'))
  case atStart => exact ⟨(([] : List Int)), (l0_1), H', ⟨Nat.le_refl _⟩, ⟨by (with_reducible repeat first | apply Kd.Zm | apply Kd.Zo); exact Kd.ZE HO144.out (fun _ hk => hk.1)⟩, ⟨by first | exact Kd.R_nil _ _ _ _ _ | exact Kd.V_nil _ _ _ _ _ | exact Kd.S_nil _ _ _ _ _⟩, ⟨by (with_reducible repeat first | apply Kd.V_drewN); exact Kd.V_mono HO0_1.out (fun _ hk => ⟨hk.1.1, ⟨hk.2, ⟨(by simp [Value.ownBlock]), hk.1.2⟩⟩⟩)⟩, ⟨by (with_reducible repeat first | apply Kd.V_drewN); exact Kd.V_mono HO0_1.out (fun _ hk => ⟨hk.1.1, ⟨hk.2, ⟨(by simp [Value.ownBlock]), hk.1.2⟩⟩⟩)⟩, ⟨by (with_reducible repeat first | refine Ze ?_ _ | refine Zg ?_ | refine Zf ?_ _); exact BK140.out⟩, ⟨by repeat (with_reducible first | exact HB.out | apply Zc | apply Za | apply Zd | refine Zh ?_ GE140.out)⟩⟩
  case round =>
   clear H'
   try clear c2
   try clear p2
   try clear c4
   try clear c5
   try clear hcz10_0
   try clear hcz10_1
   try clear hcz10_2
   try clear hcz13_0
   try clear hcz13_1
   try clear hcz13_2
   try clear hcz6_0
   try clear hcz6_1
   try clear hcz6_2
   try clear hfz10_0
   try clear hfz10_1
   try clear hfz10_2
   try clear hfz13_0
   try clear hfz13_1
   try clear hfz13_2
   try clear hfz6_0
   try clear hfz6_1
   try clear hfz6_2
   obtain ⟨x6_1, x7_1, HA, HK1, HO_5, HO_6, HO_7, HO_141001, BK140, HB⟩ := hrel
   cases gk with
   | zero => exact absurd HA.out (by simp [r19Text.l0])
   | succ k1 =>
    have H := HA.out
    clear HA
    simp only [r19Text.l0] at H
    replace H := Option.bind_eq_some_iff.mp H
    obtain ⟨t145, A140, H⟩ := H
    replace H : (if t145 > 0 then ((r00NatDiv.f k1 x7_1 t142).bind fun bt146 => (if (bt146.2.length : Int) > 0 then (if 0 < (bt146.2.length : Int) then ((r19digit.f (wrap64 (rd bt146.2 0))).bind fun t153 => (if x6_1.length < 140737488355328 then (r19Text.l0 k1 t142 (x6_1 ++ [t153]) bt146.1 a0_0 l0_1 a0_2) else (none))) else (none)) else ((r19digit.f 0).bind fun t157 => (if x6_1.length < 140737488355328 then (r19Text.l0 k1 t142 (x6_1 ++ [t157]) bt146.1 a0_0 l0_1 a0_2) else (none))))) else (if a0_0 = true then (if x6_1.length < 140737488355328 then (r19Text.j1 k1 (x6_1 ++ [45])) else (none)) else (r19Text.j1 k1 x6_1))) = some r := H
    have A14 := Zb.mk A140
    clear A140
    by_cases c15 : t145 > 0
    ·rw [if_pos c15] at H
     have c15b0 : decide (0 < t145) = true := decide_eq_true c15
     clear c15
     replace H := Option.bind_eq_some_iff.mp H
     obtain ⟨⟨t146, t147⟩, A160, H⟩ := H
     replace H : (if (t147.length : Int) > 0 then (if 0 < (t147.length : Int) then ((r19digit.f (wrap64 (rd t147 0))).bind fun t153 => (if x6_1.length < 140737488355328 then (r19Text.l0 k1 t142 (x6_1 ++ [t153]) t146 a0_0 l0_1 a0_2) else (none))) else (none)) else ((r19digit.f 0).bind fun t157 => (if x6_1.length < 140737488355328 then (r19Text.l0 k1 t142 (x6_1 ++ [t157]) t146 a0_0 l0_1 a0_2) else (none)))) = some r := H
     have A16 := Zb.mk A160
     clear A160
     by_cases c17 : (t147.length : Int) > 0
     ·rw [if_pos c17] at H
      have c17b0 : decide (0 < (t147.length : Int)) = true := decide_eq_true c17
      have c17b1 : decide (0 < t147.length) = true := decide_eq_true (by omega)
      clear c17
      by_cases c18 : 0 < (t147.length : Int)
      ·rw [if_pos c18] at H
       have c18b0 : decide (0 < (t147.length : Int)) = true := decide_eq_true c18
       have c18b1 : decide (0 < t147.length) = true := decide_eq_true (by omega)
       clear c18
       replace H := Option.bind_eq_some_iff.mp H
       obtain ⟨t153, A190, H⟩ := H
       replace H : (if x6_1.length < 140737488355328 then (r19Text.l0 k1 t142 (x6_1 ++ [t153]) t146 a0_0 l0_1 a0_2) else (none)) = some r := H
       have A19 := Zb.mk A190
       clear A190
       by_cases c20 : x6_1.length < 140737488355328
       ·rw [if_pos c20] at H
        have LMc20 := Zb.mk c20
        clear c20
        obtain ⟨y154, hy154⟩ : ∃ y_ : List Int, y_ = (x6_1 ++ [t153]) := ⟨_, rfl⟩
        replace H : (r19Text.l0 k1 t142 y154 t146 a0_0 l0_1 a0_2) = some r := by first | (rw [hy154]; with_reducible exact H) | (have H2_ := (Option.bind_some _ _).symm.trans H; rw [hy154]; with_reducible exact H2_) | (have H2_ := (Option.bind_some _ _).symm.trans H; with_reducible exact H2_) | with_reducible exact H | (rw [hy154]; exact H) | exact H
        have Ny154 := Zb.mk hy154
        clear hy154
        have H' := Zb.mk H
        clear H
        obtain ⟨Ao21, co21, eo21⟩ := Kd.V_slice HO_7.out
        subst eo21
        go_wp2_with (first | ((with_reducible refine Zp (f := 80) rfl ?_); refine ZB (some 21) rfl rfl Try.func80 (by kernel_rfl) rfl #[.slice Ao21 x7_1.length co21] rfl (by (try simp only [List.map_toArray, List.map_cons, List.map_nil]); first | done | rfl | (simp only [List.length_drop, List.length_take]; rfl)) ?_; (with_reducible refine (r00NatBits.calls k1 _ _ x7_1 t145 _ ?side1 ?side2 A14.out).mono ?_); (case side1 => repeat (first | exact (Kd.V_reads' HO_7.out).2.2 | (with_reducible refine Kd.ZC ?_ _) | (with_reducible refine Kd.ZF ?_ _) | (with_reducible refine Kd.ZN ?_))); (case side2 => exact (Kd.V_reads' HO_7.out).2.1); rintro e w22 ⟨rfl, hb⟩; refine ⟨_, rfl, ?_⟩; have n0_ := Zb.mk (Kd.Zz (by (with_reducible repeat first | apply Kd.Zm | apply Kd.Zo); exact HO_5.out) hb); have n1_ := Zb.mk (Kd.Zz (by (with_reducible repeat first | apply Kd.Zm | apply Kd.Zo); exact HO_6.out) hb); have n2_ := Zb.mk (Kd.V_below (by (with_reducible repeat first | apply Kd.V_drewN); exact HO_7.out) hb); have n3_ := Zb.mk (Kd.V_below (by (with_reducible repeat first | apply Kd.V_drewN); exact HO_141001.out) hb); have n4_ := Zb.mk (Zn (g := gb140) (o := .cells #[.bool a0_0, .slice A0_1 l0_1.length c0_1, .int .i64 a0_2] 48 (0, 0)) (by (with_reducible repeat first | refine Ze ?_ _ | refine Zg ?_ | refine Zf ?_ _); exact BK140.out) hb); have n5_ := Zb.mk (Zl (by repeat (with_reducible first | exact HB.out | apply Zc | apply Za | apply Zd | refine Zh ?_ GE140.out)) hb); clear HO_5; clear HO_6; clear HO_7; clear HO_141001; clear BK140; clear HB; have HO_5 := n0_; have HO_6 := n1_; have HO_7 := n2_; have HO_141001 := n3_; have BK140 := n4_; have HB := n5_; clear n0_ n1_ n2_ n3_ n4_ n5_; (try clear hb); (try clear hb2); (try clear hk); (try clear hi); obtain ⟨Ao23, co23, eo23⟩ := Kd.Zy HO_5.out; subst eo23) | ((with_reducible refine Zp (f := 81) rfl ?_); refine ZB (some 26) rfl rfl Try.func81 (by kernel_rfl) rfl #[.slice Ao21 x7_1.length co21, .slice Ao23 t142.length co23] rfl (by (try simp only [List.map_toArray, List.map_cons, List.map_nil]); first | done | rfl | (simp only [List.length_drop, List.length_take]; rfl)) ?_; (with_reducible refine (r00NatDiv.calls k1 _ _ x7_1 _ _ t142 t146 t147 _ ?side1 ?side2 ?side3 ?side4 A16.out).mono ?_); (case side1 => repeat (first | exact (Kd.V_reads' HO_7.out).2.2 | (with_reducible refine Kd.ZC ?_ _) | (with_reducible refine Kd.ZF ?_ _) | (with_reducible refine Kd.ZN ?_))); (case side2 => exact (Kd.V_reads' HO_7.out).2.1); (case side3 => repeat (first | exact (Kd.Zv HO_5.out).2.2 | (with_reducible refine Kd.ZC ?_ _) | (with_reducible refine Kd.ZF ?_ _) | (with_reducible refine Kd.ZN ?_))); (case side4 => exact (Kd.Zv HO_5.out).2.1); rintro e w24 ⟨v148, v150, rfl, ho0, ho1, hb⟩; refine ⟨_, rfl, ?_⟩; have n0_ := Zb.mk (Kd.ZE (Kd.R_told (Kd.R_told (Kd.R_old (by (with_reducible repeat first | apply Kd.Zm | apply Kd.Zo); exact HO_5.out) hb) (Kd.ZV ho0)) (Kd.ZV ho1)) (fun _ h_ => h_.1)); have n1_ := Zb.mk (Kd.Zz (by (with_reducible repeat first | apply Kd.Zm | apply Kd.Zo); exact HO_6.out) hb); have n2_ := Zb.mk (Kd.V_mono (Kd.V_told (Kd.V_told (Kd.V_old (by (with_reducible repeat first | apply Kd.V_drewN); exact HO_7.out) hb) (Kd.ZV ho0)) (Kd.ZV ho1)) (fun _ h_ => h_.1)); have n3_ := Zb.mk (Kd.V_mono (Kd.V_told (Kd.V_told (Kd.V_old (by (with_reducible repeat first | apply Kd.V_drewN); exact HO_141001.out) hb) (Kd.ZV ho0)) (Kd.ZV ho1)) (fun _ h_ => h_.1)); have n4_ := Zb.mk (Kd.ZG (Kd.R_new' (Kd.R_newM (M := fun k_ => (w.heap.size ≤ k_)) ho0 (Zi (by repeat (with_reducible first | exact HB.out | apply Zc | apply Za | apply Zd | refine Zh ?_ GE140.out))) (fun k_ h_ => h_)) (Kd.R_lt (by (with_reducible repeat first | apply Kd.Zm | apply Kd.Zo); exact HO_5.out))) (Zi (by repeat (with_reducible first | exact HB.out | apply Zc | apply Za | apply Zd | refine Zh ?_ GE140.out)))); have n5_ := Zb.mk (Kd.ZG (Kd.R_new' (Kd.R_newM (M := fun k_ => (w.heap.size ≤ k_)) ho1 (Zi (by repeat (with_reducible first | exact HB.out | apply Zc | apply Za | apply Zd | refine Zh ?_ GE140.out))) (fun k_ h_ => h_)) (Kd.R_lt (by (with_reducible repeat first | apply Kd.Zm | apply Kd.Zo); exact HO_5.out))) (Zi (by repeat (with_reducible first | exact HB.out | apply Zc | apply Za | apply Zd | refine Zh ?_ GE140.out)))); have n6_ := Zb.mk (Zn (g := gb140) (o := .cells #[.bool a0_0, .slice A0_1 l0_1.length c0_1, .int .i64 a0_2] 48 (0, 0)) (by (with_reducible repeat first | refine Ze ?_ _ | refine Zg ?_ | refine Zf ?_ _); exact BK140.out) hb); have n7_ := Zb.mk (Zl (by repeat (with_reducible first | exact HB.out | apply Zc | apply Za | apply Zd | refine Zh ?_ GE140.out)) hb); clear HO_5; clear HO_6; clear HO_7; clear HO_141001; clear BK140; clear HB; have HO_5 := n0_; have HO_6 := n1_; have HO_7 := n2_; have HO_141001 := n3_; have HO149 := n4_; have HO151 := n5_; have BK140 := n6_; have HB := n7_; clear n0_ n1_ n2_ n3_ n4_ n5_ n6_ n7_; (try clear hb); (try clear hb2); (try clear hk); (try clear hi); (try clear ho0); (try clear ho1); obtain ⟨Ao25, co25, eo25⟩ := Kd.Zy HO151.out; subst eo25; have p152 : 0 ≤ (0 : Int) := (by omega); have q152 : 0 < (t147.length : Int) := of_decide_eq_true (by first | (with_reducible assumption) | assumption); obtain ⟨ad152, e152, hx152_0⟩ := Kd.at_int (Kd.Zv HO151.out).2.2 0 p152 q152; cases e152; have qi152 : (0 < t147.length) = True := eq_true (by omega); (try rw [show ((0 : Int)).toNat = 0 from rfl] at hx152_0); (try rw [Addr.add_zero'] at hx152_0); replace p152 := eq_true p152; replace q152 := eq_true q152) | ((with_reducible refine Zp (f := 82) rfl ?_); refine ZB (some 38) rfl rfl Try.func82 (by kernel_rfl) rfl #[.int .i64 (wrap64 (rd t147 0))] rfl (by (try simp only [List.map_toArray, List.map_cons, List.map_nil]); first | done | rfl | (simp only [List.length_drop, List.length_take]; rfl)) ?_; (with_reducible refine (r19digit.calls (wrap64 (rd t147 0)) t153 _ A19.out).mono ?_); rintro e w' ⟨rfl, ⟨nd, rfl⟩⟩; refine ⟨_, rfl, ?_⟩) | ((with_reducible refine gate_builtin (b := .append) (xs := #[.tmp 36, .tmp 39]) rfl ?_); at_builtin; refine Kd.R_append (Kd.int .u8) (w0 := w) w.heap.size rfl (.tmp 36) (.tmp 39) 107 5 (.int .u8 0) 1 rfl Try.underlying107 info5 rfl (by decide) (by omega) u6 x6_1 t153 [.int .u8 t153] (fun k_ => (w.heap.size ≤ k_)) (fun _ => False) rfl rfl ?aP (fun _ hk => hk.elim) ?aF ?aO ?aB ?aS ?aL ?_; (case aP => exact rfl); (case aB => exact (by repeat (with_reducible first | exact HB.out | apply Zc | apply Za | apply Zd | refine Zh ?_ GE140.out))); (case aF => exact (fun k_ hk => (Nat.le_trans (Zi (by repeat (with_reducible first | exact HB.out | apply Zc | apply Za | apply Zd | refine Zh ?_ GE140.out))) hk))); (case aO => exact (by (with_reducible repeat first | apply Kd.Zm | apply Kd.Zo); exact HO_6.out)); (case aS => exact (Zi (by repeat (with_reducible first | exact HB.out | apply Zc | apply Za | apply Zd | refine Zh ?_ GE140.out)))); (case aL => have := LMc20.out; omega); intro v155 w26 ho hb hg hat; rw [← Ny154.out] at ho; have n0_ := Zb.mk (Kd.R_over' (by (with_reducible repeat first | apply Kd.Zm | apply Kd.Zo); exact HO_5.out) (Kd.R_typed (by (with_reducible repeat first | apply Kd.Zm | apply Kd.Zo); exact HO_6.out)) (by decide) hg); have n1_ := Zb.mk (Kd.V_afterv (ok := (fun k_ => (P0_1_ k_ ∨ w.heap.size ≤ k_) ∧ some k_ ≠ (.slice Ao23 t142.length co23 : Value).ownBlock ∧ some k_ ≠ (v148 : Value).ownBlock ∧ some k_ ≠ (.slice (some ad152) t147.length co25 : Value).ownBlock ∧ k_ ≠ gb140)) (by (with_reducible repeat first | apply Kd.V_drewN); exact Kd.V_mono HO_7.out (fun _ hk => ⟨⟨hk.1.1.1, ⟨hk.1.1.2.1, ⟨hk.1.2, ⟨hk.2, hk.1.1.2.2.2⟩⟩⟩⟩, hk.1.1.2.2.1⟩)) hg hat); have n2_ := Zb.mk (Kd.V_afterv (ok := (fun k_ => (P0_1_ k_ ∨ w.heap.size ≤ k_) ∧ some k_ ≠ (.slice Ao23 t142.length co23 : Value).ownBlock ∧ some k_ ≠ (v148 : Value).ownBlock ∧ some k_ ≠ (.slice (some ad152) t147.length co25 : Value).ownBlock ∧ k_ ≠ gb140)) (by (with_reducible repeat first | apply Kd.V_drewN); exact Kd.V_mono HO_141001.out (fun _ hk => ⟨⟨hk.1.1.1, ⟨hk.1.1.2.1, ⟨hk.1.2, ⟨hk.2, hk.1.1.2.2.2⟩⟩⟩⟩, hk.1.1.2.2.1⟩)) hg hat); have n3_ := Zb.mk (blk_grown (g := gb140) (o := .cells #[.bool a0_0, .slice A0_1 l0_1.length c0_1, .int .i64 a0_2] 48 (0, 0)) (by (with_reducible repeat first | refine Ze ?_ _ | refine Zg ?_ | refine Zf ?_ _); exact BK140.out) hg (Kd.R_ne HO_6.out BK140.out (by decide))); have n4_ := Zb.mk (Kd.R_over' (by (with_reducible repeat first | apply Kd.Zm | apply Kd.Zo); exact HO149.out) (Kd.R_typed (by (with_reducible repeat first | apply Kd.Zm | apply Kd.Zo); exact HO_6.out)) (by decide) hg); have n5_ := Zb.mk (Kd.R_over' (by (with_reducible repeat first | apply Kd.Zm | apply Kd.Zo); exact HO151.out) (Kd.R_typed (by (with_reducible repeat first | apply Kd.Zm | apply Kd.Zo); exact HO_6.out)) (by decide) hg); have n6_ := Zb.mk (hb); have n7_ := Zb.mk (ho); clear HO_5; clear HO_7; clear HO_141001; clear BK140; clear HO149; clear HO151; clear HB; clear HO_6; have HO_5 := n0_; have HO_7 := n1_; have HO_141001 := n2_; have BK140 := n3_; have HO149 := n4_; have HO151 := n5_; have HB := n6_; have HO156 := n7_; clear n0_ n1_ n2_ n3_ n4_ n5_ n6_ n7_; clear ho hb hg hat))
        go_roundg k1
        case measure => have := HK1.out; omega
        case rel => exact ⟨(y154), (t146), H', ⟨by have := HK1.out; omega⟩, ⟨by (with_reducible repeat first | apply Kd.Zm | apply Kd.Zo); exact Kd.ZE HO_5.out (fun _ hk => hk.1.1)⟩, ⟨by (with_reducible repeat first | apply Kd.Zm | apply Kd.Zo); exact HO156.out⟩, ⟨Kd.V_mono (Kd.R_V (base' := w.heap.size) (Kd.ZI (Kd.R_apart' HO149.out (Kd.R_typed HO156.out) (by decide)) BK140.out (by decide))) (fun k_ hk => ⟨.inr hk.1.1.1.1, ⟨hk.1.1.2, ⟨hk.1.2, hk.2⟩⟩⟩)⟩, ⟨by (with_reducible repeat first | apply Kd.V_drewN); exact Kd.V_mono HO_141001.out (fun _ hk => ⟨hk.1.1, ⟨hk.1.2.1, ⟨hk.2, hk.1.2.2.2.2⟩⟩⟩)⟩, ⟨by (with_reducible repeat first | refine Ze ?_ _ | refine Zg ?_ | refine Zf ?_ _); exact BK140.out⟩, ⟨by repeat (with_reducible first | exact HB.out | apply Zc | apply Za | apply Zd | refine Zh ?_ GE140.out)⟩⟩
       ·rw [if_neg c20] at H
        exact absurd H (by simp)
      ·rw [if_neg c18] at H
       exact absurd H (by simp)
     ·rw [if_neg c17] at H
      have c17b0 : decide (0 < (t147.length : Int)) = false := decide_eq_false c17
      have c17b1 : decide (0 < t147.length) = false := decide_eq_false (by omega)
      clear c17
      replace H := Option.bind_eq_some_iff.mp H
      obtain ⟨t157, A270, H⟩ := H
      replace H : (if x6_1.length < 140737488355328 then (r19Text.l0 k1 t142 (x6_1 ++ [t157]) t146 a0_0 l0_1 a0_2) else (none)) = some r := H
      have A27 := Zb.mk A270
      clear A270
      by_cases c28 : x6_1.length < 140737488355328
      ·rw [if_pos c28] at H
       have LMc28 := Zb.mk c28
       clear c28
       obtain ⟨y158, hy158⟩ : ∃ y_ : List Int, y_ = (x6_1 ++ [t157]) := ⟨_, rfl⟩
       replace H : (r19Text.l0 k1 t142 y158 t146 a0_0 l0_1 a0_2) = some r := by first | (rw [hy158]; with_reducible exact H) | (have H2_ := (Option.bind_some _ _).symm.trans H; rw [hy158]; with_reducible exact H2_) | (have H2_ := (Option.bind_some _ _).symm.trans H; with_reducible exact H2_) | with_reducible exact H | (rw [hy158]; exact H) | exact H
       have Ny158 := Zb.mk hy158
       clear hy158
       have H' := Zb.mk H
       clear H
       obtain ⟨Ao29, co29, eo29⟩ := Kd.V_slice HO_7.out
       subst eo29
       go_wp2_with (first | ((with_reducible refine Zp (f := 80) rfl ?_); refine ZB (some 21) rfl rfl Try.func80 (by kernel_rfl) rfl #[.slice Ao29 x7_1.length co29] rfl (by (try simp only [List.map_toArray, List.map_cons, List.map_nil]); first | done | rfl | (simp only [List.length_drop, List.length_take]; rfl)) ?_; (with_reducible refine (r00NatBits.calls k1 _ _ x7_1 t145 _ ?side1 ?side2 A14.out).mono ?_); (case side1 => repeat (first | exact (Kd.V_reads' HO_7.out).2.2 | (with_reducible refine Kd.ZC ?_ _) | (with_reducible refine Kd.ZF ?_ _) | (with_reducible refine Kd.ZN ?_))); (case side2 => exact (Kd.V_reads' HO_7.out).2.1); rintro e w30 ⟨rfl, hb⟩; refine ⟨_, rfl, ?_⟩; have n0_ := Zb.mk (Kd.Zz (by (with_reducible repeat first | apply Kd.Zm | apply Kd.Zo); exact HO_5.out) hb); have n1_ := Zb.mk (Kd.Zz (by (with_reducible repeat first | apply Kd.Zm | apply Kd.Zo); exact HO_6.out) hb); have n2_ := Zb.mk (Kd.V_below (by (with_reducible repeat first | apply Kd.V_drewN); exact HO_7.out) hb); have n3_ := Zb.mk (Kd.V_below (by (with_reducible repeat first | apply Kd.V_drewN); exact HO_141001.out) hb); have n4_ := Zb.mk (Zn (g := gb140) (o := .cells #[.bool a0_0, .slice A0_1 l0_1.length c0_1, .int .i64 a0_2] 48 (0, 0)) (by (with_reducible repeat first | refine Ze ?_ _ | refine Zg ?_ | refine Zf ?_ _); exact BK140.out) hb); have n5_ := Zb.mk (Zl (by repeat (with_reducible first | exact HB.out | apply Zc | apply Za | apply Zd | refine Zh ?_ GE140.out)) hb); clear HO_5; clear HO_6; clear HO_7; clear HO_141001; clear BK140; clear HB; have HO_5 := n0_; have HO_6 := n1_; have HO_7 := n2_; have HO_141001 := n3_; have BK140 := n4_; have HB := n5_; clear n0_ n1_ n2_ n3_ n4_ n5_; (try clear hb); (try clear hb2); (try clear hk); (try clear hi); obtain ⟨Ao31, co31, eo31⟩ := Kd.Zy HO_5.out; subst eo31) | ((with_reducible refine Zp (f := 81) rfl ?_); refine ZB (some 26) rfl rfl Try.func81 (by kernel_rfl) rfl #[.slice Ao29 x7_1.length co29, .slice Ao31 t142.length co31] rfl (by (try simp only [List.map_toArray, List.map_cons, List.map_nil]); first | done | rfl | (simp only [List.length_drop, List.length_take]; rfl)) ?_; (with_reducible refine (r00NatDiv.calls k1 _ _ x7_1 _ _ t142 t146 t147 _ ?side1 ?side2 ?side3 ?side4 A16.out).mono ?_); (case side1 => repeat (first | exact (Kd.V_reads' HO_7.out).2.2 | (with_reducible refine Kd.ZC ?_ _) | (with_reducible refine Kd.ZF ?_ _) | (with_reducible refine Kd.ZN ?_))); (case side2 => exact (Kd.V_reads' HO_7.out).2.1); (case side3 => repeat (first | exact (Kd.Zv HO_5.out).2.2 | (with_reducible refine Kd.ZC ?_ _) | (with_reducible refine Kd.ZF ?_ _) | (with_reducible refine Kd.ZN ?_))); (case side4 => exact (Kd.Zv HO_5.out).2.1); rintro e w32 ⟨v148, v150, rfl, ho0, ho1, hb⟩; refine ⟨_, rfl, ?_⟩; have n0_ := Zb.mk (Kd.ZE (Kd.R_told (Kd.R_told (Kd.R_old (by (with_reducible repeat first | apply Kd.Zm | apply Kd.Zo); exact HO_5.out) hb) (Kd.ZV ho0)) (Kd.ZV ho1)) (fun _ h_ => h_.1)); have n1_ := Zb.mk (Kd.Zz (by (with_reducible repeat first | apply Kd.Zm | apply Kd.Zo); exact HO_6.out) hb); have n2_ := Zb.mk (Kd.V_mono (Kd.V_told (Kd.V_told (Kd.V_old (by (with_reducible repeat first | apply Kd.V_drewN); exact HO_7.out) hb) (Kd.ZV ho0)) (Kd.ZV ho1)) (fun _ h_ => h_.1)); have n3_ := Zb.mk (Kd.V_mono (Kd.V_told (Kd.V_told (Kd.V_old (by (with_reducible repeat first | apply Kd.V_drewN); exact HO_141001.out) hb) (Kd.ZV ho0)) (Kd.ZV ho1)) (fun _ h_ => h_.1)); have n4_ := Zb.mk (Kd.ZG (Kd.R_new' (Kd.R_newM (M := fun k_ => (w.heap.size ≤ k_)) ho0 (Zi (by repeat (with_reducible first | exact HB.out | apply Zc | apply Za | apply Zd | refine Zh ?_ GE140.out))) (fun k_ h_ => h_)) (Kd.R_lt (by (with_reducible repeat first | apply Kd.Zm | apply Kd.Zo); exact HO_5.out))) (Zi (by repeat (with_reducible first | exact HB.out | apply Zc | apply Za | apply Zd | refine Zh ?_ GE140.out)))); have n5_ := Zb.mk (Kd.ZG (Kd.R_new' (Kd.R_newM (M := fun k_ => (w.heap.size ≤ k_)) ho1 (Zi (by repeat (with_reducible first | exact HB.out | apply Zc | apply Za | apply Zd | refine Zh ?_ GE140.out))) (fun k_ h_ => h_)) (Kd.R_lt (by (with_reducible repeat first | apply Kd.Zm | apply Kd.Zo); exact HO_5.out))) (Zi (by repeat (with_reducible first | exact HB.out | apply Zc | apply Za | apply Zd | refine Zh ?_ GE140.out)))); have n6_ := Zb.mk (Zn (g := gb140) (o := .cells #[.bool a0_0, .slice A0_1 l0_1.length c0_1, .int .i64 a0_2] 48 (0, 0)) (by (with_reducible repeat first | refine Ze ?_ _ | refine Zg ?_ | refine Zf ?_ _); exact BK140.out) hb); have n7_ := Zb.mk (Zl (by repeat (with_reducible first | exact HB.out | apply Zc | apply Za | apply Zd | refine Zh ?_ GE140.out)) hb); clear HO_5; clear HO_6; clear HO_7; clear HO_141001; clear BK140; clear HB; have HO_5 := n0_; have HO_6 := n1_; have HO_7 := n2_; have HO_141001 := n3_; have HO149 := n4_; have HO151 := n5_; have BK140 := n6_; have HB := n7_; clear n0_ n1_ n2_ n3_ n4_ n5_ n6_ n7_; (try clear hb); (try clear hb2); (try clear hk); (try clear hi); (try clear ho0); (try clear ho1); obtain ⟨Ao33, co33, eo33⟩ := Kd.Zy HO151.out; subst eo33) | ((with_reducible refine Zp (f := 82) rfl ?_); refine ZB (some 38) rfl rfl Try.func82 (by kernel_rfl) rfl #[.int .i64 0] rfl (by (try simp only [List.map_toArray, List.map_cons, List.map_nil]); first | done | rfl | (simp only [List.length_drop, List.length_take]; rfl)) ?_; (with_reducible refine (r19digit.calls 0 t157 _ A27.out).mono ?_); rintro e w' ⟨rfl, ⟨nd, rfl⟩⟩; refine ⟨_, rfl, ?_⟩) | ((with_reducible refine gate_builtin (b := .append) (xs := #[.tmp 36, .tmp 39]) rfl ?_); at_builtin; refine Kd.R_append (Kd.int .u8) (w0 := w) w.heap.size rfl (.tmp 36) (.tmp 39) 107 5 (.int .u8 0) 1 rfl Try.underlying107 info5 rfl (by decide) (by omega) u6 x6_1 t157 [.int .u8 t157] (fun k_ => (w.heap.size ≤ k_)) (fun _ => False) rfl rfl ?aP (fun _ hk => hk.elim) ?aF ?aO ?aB ?aS ?aL ?_; (case aP => exact rfl); (case aB => exact (by repeat (with_reducible first | exact HB.out | apply Zc | apply Za | apply Zd | refine Zh ?_ GE140.out))); (case aF => exact (fun k_ hk => (Nat.le_trans (Zi (by repeat (with_reducible first | exact HB.out | apply Zc | apply Za | apply Zd | refine Zh ?_ GE140.out))) hk))); (case aO => exact (by (with_reducible repeat first | apply Kd.Zm | apply Kd.Zo); exact HO_6.out)); (case aS => exact (Zi (by repeat (with_reducible first | exact HB.out | apply Zc | apply Za | apply Zd | refine Zh ?_ GE140.out)))); (case aL => have := LMc28.out; omega); intro v159 w34 ho hb hg hat; rw [← Ny158.out] at ho; have n0_ := Zb.mk (Kd.R_over' (by (with_reducible repeat first | apply Kd.Zm | apply Kd.Zo); exact HO_5.out) (Kd.R_typed (by (with_reducible repeat first | apply Kd.Zm | apply Kd.Zo); exact HO_6.out)) (by decide) hg); have n1_ := Zb.mk (Kd.V_afterv (ok := (fun k_ => (P0_1_ k_ ∨ w.heap.size ≤ k_) ∧ some k_ ≠ (.slice Ao31 t142.length co31 : Value).ownBlock ∧ some k_ ≠ (v148 : Value).ownBlock ∧ some k_ ≠ (.slice Ao33 t147.length co33 : Value).ownBlock ∧ k_ ≠ gb140)) (by (with_reducible repeat first | apply Kd.V_drewN); exact Kd.V_mono HO_7.out (fun _ hk => ⟨⟨hk.1.1.1, ⟨hk.1.1.2.1, ⟨hk.1.2, ⟨hk.2, hk.1.1.2.2.2⟩⟩⟩⟩, hk.1.1.2.2.1⟩)) hg hat); have n2_ := Zb.mk (Kd.V_afterv (ok := (fun k_ => (P0_1_ k_ ∨ w.heap.size ≤ k_) ∧ some k_ ≠ (.slice Ao31 t142.length co31 : Value).ownBlock ∧ some k_ ≠ (v148 : Value).ownBlock ∧ some k_ ≠ (.slice Ao33 t147.length co33 : Value).ownBlock ∧ k_ ≠ gb140)) (by (with_reducible repeat first | apply Kd.V_drewN); exact Kd.V_mono HO_141001.out (fun _ hk => ⟨⟨hk.1.1.1, ⟨hk.1.1.2.1, ⟨hk.1.2, ⟨hk.2, hk.1.1.2.2.2⟩⟩⟩⟩, hk.1.1.2.2.1⟩)) hg hat); have n3_ := Zb.mk (blk_grown (g := gb140) (o := .cells #[.bool a0_0, .slice A0_1 l0_1.length c0_1, .int .i64 a0_2] 48 (0, 0)) (by (with_reducible repeat first | refine Ze ?_ _ | refine Zg ?_ | refine Zf ?_ _); exact BK140.out) hg (Kd.R_ne HO_6.out BK140.out (by decide))); have n4_ := Zb.mk (Kd.R_over' (by (with_reducible repeat first | apply Kd.Zm | apply Kd.Zo); exact HO149.out) (Kd.R_typed (by (with_reducible repeat first | apply Kd.Zm | apply Kd.Zo); exact HO_6.out)) (by decide) hg); have n5_ := Zb.mk (Kd.R_over' (by (with_reducible repeat first | apply Kd.Zm | apply Kd.Zo); exact HO151.out) (Kd.R_typed (by (with_reducible repeat first | apply Kd.Zm | apply Kd.Zo); exact HO_6.out)) (by decide) hg); have n6_ := Zb.mk (hb); have n7_ := Zb.mk (ho); clear HO_5; clear HO_7; clear HO_141001; clear BK140; clear HO149; clear HO151; clear HB; clear HO_6; have HO_5 := n0_; have HO_7 := n1_; have HO_141001 := n2_; have BK140 := n3_; have HO149 := n4_; have HO151 := n5_; have HB := n6_; have HO160 := n7_; clear n0_ n1_ n2_ n3_ n4_ n5_ n6_ n7_; clear ho hb hg hat))
       go_roundg k1
       case measure => have := HK1.out; omega
       case rel => exact ⟨(y158), (t146), H', ⟨by have := HK1.out; omega⟩, ⟨by (with_reducible repeat first | apply Kd.Zm | apply Kd.Zo); exact Kd.ZE HO_5.out (fun _ hk => hk.1.1)⟩, ⟨by (with_reducible repeat first | apply Kd.Zm | apply Kd.Zo); exact HO160.out⟩, ⟨Kd.V_mono (Kd.R_V (base' := w.heap.size) (Kd.ZI (Kd.R_apart' HO149.out (Kd.R_typed HO160.out) (by decide)) BK140.out (by decide))) (fun k_ hk => ⟨.inr hk.1.1.1.1, ⟨hk.1.1.2, ⟨hk.1.2, hk.2⟩⟩⟩)⟩, ⟨by (with_reducible repeat first | apply Kd.V_drewN); exact Kd.V_mono HO_141001.out (fun _ hk => ⟨hk.1.1, ⟨hk.1.2.1, ⟨hk.2, hk.1.2.2.2.2⟩⟩⟩)⟩, ⟨by (with_reducible repeat first | refine Ze ?_ _ | refine Zg ?_ | refine Zf ?_ _); exact BK140.out⟩, ⟨by repeat (with_reducible first | exact HB.out | apply Zc | apply Za | apply Zd | refine Zh ?_ GE140.out)⟩⟩
      ·rw [if_neg c28] at H
       exact absurd H (by simp)
    ·rw [if_neg c15] at H
     have c15b0 : decide (0 < t145) = false := decide_eq_false c15
     clear c15
     have HC35 := Zb.mk H
     clear H
     obtain ⟨Ao36, co36, eo36⟩ := Kd.V_slice HO_7.out
     subst eo36
     go_upto_if 43 with (first | ((with_reducible refine Zp (f := 80) rfl ?_); refine ZB (some 21) rfl rfl Try.func80 (by kernel_rfl) rfl #[.slice Ao36 x7_1.length co36] rfl (by (try simp only [List.map_toArray, List.map_cons, List.map_nil]); first | done | rfl | (simp only [List.length_drop, List.length_take]; rfl)) ?_; (with_reducible refine (r00NatBits.calls k1 _ _ x7_1 t145 _ ?side1 ?side2 A14.out).mono ?_); (case side1 => repeat (first | exact (Kd.V_reads' HO_7.out).2.2 | (with_reducible refine Kd.ZC ?_ _) | (with_reducible refine Kd.ZF ?_ _) | (with_reducible refine Kd.ZN ?_))); (case side2 => exact (Kd.V_reads' HO_7.out).2.1); rintro e w37 ⟨rfl, hb⟩; refine ⟨_, rfl, ?_⟩; have n0_ := Zb.mk (Kd.Zz (by (with_reducible repeat first | apply Kd.Zm | apply Kd.Zo); exact HO_5.out) hb); have n1_ := Zb.mk (Kd.Zz (by (with_reducible repeat first | apply Kd.Zm | apply Kd.Zo); exact HO_6.out) hb); have n2_ := Zb.mk (Kd.V_below (by (with_reducible repeat first | apply Kd.V_drewN); exact HO_7.out) hb); have n3_ := Zb.mk (Kd.V_below (by (with_reducible repeat first | apply Kd.V_drewN); exact HO_141001.out) hb); have n4_ := Zb.mk (Zn (g := gb140) (o := .cells #[.bool a0_0, .slice A0_1 l0_1.length c0_1, .int .i64 a0_2] 48 (0, 0)) (by (with_reducible repeat first | refine Ze ?_ _ | refine Zg ?_ | refine Zf ?_ _); exact BK140.out) hb); have n5_ := Zb.mk (Zl (by repeat (with_reducible first | exact HB.out | apply Zc | apply Za | apply Zd | refine Zh ?_ GE140.out)) hb); clear HO_5; clear HO_6; clear HO_7; clear HO_141001; clear BK140; clear HB; have HO_5 := n0_; have HO_6 := n1_; have HO_7 := n2_; have HO_141001 := n3_; have BK140 := n4_; have HB := n5_; clear n0_ n1_ n2_ n3_ n4_ n5_; (try clear hb); (try clear hb2); (try clear hk); (try clear hi); have hcz38_0 : w37.cell? ⟨gb140, 0, none⟩ = some (.bool a0_0) := (Zk BK140.out 0).trans rfl; have hcz38_1 : w37.cell? ⟨gb140, 1, none⟩ = some (.slice A0_1 l0_1.length c0_1) := (Zk BK140.out 1).trans rfl; have hcz38_2 : w37.cell? ⟨gb140, 2, none⟩ = some (.int .i64 a0_2) := (Zk BK140.out 2).trans rfl; have hfz38_0 := Zj BK140.out 0; have hfz38_1 := Zj BK140.out 1; have hfz38_2 := Zj BK140.out 2))
     (try simp only [Act.put, List.setIfInBounds_toArray, List.set_cons_zero, List.set_cons_succ])
     go_cut [6] (fun v6 wc => ∃ (kq : Nat) (x6_34 : List Int), Zb (r19Text.j1 kq x6_34 = some r) ∧ Zb (kq ≤ k1) ∧ Zb (Kd.R (Kd.int .u8) 5 wc w.heap.size (fun k_ => (w.heap.size ≤ k_)) v6 x6_34) ∧ Zb (Kd.V (Kd.int .u64) 46 wc w.heap.size (fun k_ => (P0_1_ k_ ∨ w.heap.size ≤ k_) ∧ some k_ ≠ (v6 : Value).ownBlock ∧ k_ ≠ gb140) (.slice A0_1 l0_1.length c0_1) l0_1) ∧ Zb (wc.heap[gb140]? = some (.cells #[.bool a0_0, (.slice A0_1 l0_1.length c0_1), .int .i64 a0_2] 48 (0, 0))) ∧ Zb (Below w.heap.size w wc))
     case first =>
      have H := HC35.out
      clear HC35
      by_cases c39 : a0_0 = true
      ·subst c39
       have H1 : (if x6_1.length < 140737488355328 then (r19Text.j1 k1 (x6_1 ++ [45])) else (none)) = some r := by rw [if_pos rfl] at H; exact H
       clear H
       have H := H1
       clear H1
       by_cases c40 : x6_1.length < 140737488355328
       ·rw [if_pos c40] at H
        have LMc40 := Zb.mk c40
        clear c40
        obtain ⟨y161, hy161⟩ : ∃ y_ : List Int, y_ = (x6_1 ++ [45]) := ⟨_, rfl⟩
        replace H : (r19Text.j1 k1 y161) = some r := by first | (rw [hy161]; with_reducible exact H) | (have H2_ := (Option.bind_some _ _).symm.trans H; rw [hy161]; with_reducible exact H2_) | (have H2_ := (Option.bind_some _ _).symm.trans H; with_reducible exact H2_) | with_reducible exact H | (rw [hy161]; exact H) | exact H
        have Ny161 := Zb.mk hy161
        clear hy161
        have H' := Zb.mk H
        clear H
        go_wp2_with (first | ((with_reducible refine gate_builtin (b := .append) (xs := #[.tmp 44, .tmp 45]) rfl ?_); at_builtin; refine Kd.R_append (Kd.int .u8) (w0 := w) w.heap.size rfl (.tmp 44) (.tmp 45) 107 5 (.int .u8 0) 1 rfl Try.underlying107 info5 rfl (by decide) (by omega) u6 x6_1 45 [.int .u8 45] (fun k_ => (w.heap.size ≤ k_)) (fun _ => False) rfl rfl ?aP (fun _ hk => hk.elim) ?aF ?aO ?aB ?aS ?aL ?_; (case aP => exact rfl); (case aB => exact (by repeat (with_reducible first | exact HB.out | apply Zc | apply Za | apply Zd | refine Zh ?_ GE140.out))); (case aF => exact (fun k_ hk => (Nat.le_trans (Zi (by repeat (with_reducible first | exact HB.out | apply Zc | apply Za | apply Zd | refine Zh ?_ GE140.out))) hk))); (case aO => exact (by (with_reducible repeat first | apply Kd.Zm | apply Kd.Zo); exact HO_6.out)); (case aS => exact (Zi (by repeat (with_reducible first | exact HB.out | apply Zc | apply Za | apply Zd | refine Zh ?_ GE140.out)))); (case aL => have := LMc40.out; omega); intro v162 w41 ho hb hg hat; rw [← Ny161.out] at ho; have n0_ := Zb.mk (Kd.R_over' (by (with_reducible repeat first | apply Kd.Zm | apply Kd.Zo); exact HO_5.out) (Kd.R_typed (by (with_reducible repeat first | apply Kd.Zm | apply Kd.Zo); exact HO_6.out)) (by decide) hg); have n1_ := Zb.mk (Kd.V_afterv (ok := (fun k_ => (P0_1_ k_ ∨ w.heap.size ≤ k_) ∧ some k_ ≠ (v143 : Value).ownBlock ∧ k_ ≠ gb140)) (by (with_reducible repeat first | apply Kd.V_drewN); exact Kd.V_mono HO_7.out (fun _ hk => ⟨⟨hk.1, ⟨hk.2.1, hk.2.2.2⟩⟩, hk.2.2.1⟩)) hg hat); have n2_ := Zb.mk (Kd.V_afterv (ok := (fun k_ => (P0_1_ k_ ∨ w.heap.size ≤ k_) ∧ some k_ ≠ (v143 : Value).ownBlock ∧ k_ ≠ gb140)) (by (with_reducible repeat first | apply Kd.V_drewN); exact Kd.V_mono HO_141001.out (fun _ hk => ⟨⟨hk.1, ⟨hk.2.1, hk.2.2.2⟩⟩, hk.2.2.1⟩)) hg hat); have n3_ := Zb.mk (blk_grown (g := gb140) (o := .cells #[.bool true, .slice A0_1 l0_1.length c0_1, .int .i64 a0_2] 48 (0, 0)) (by (with_reducible repeat first | refine Ze ?_ _ | refine Zg ?_ | refine Zf ?_ _); exact BK140.out) hg (Kd.R_ne HO_6.out BK140.out (by decide))); have n4_ := Zb.mk (hb); have n5_ := Zb.mk (ho); clear HO_5; clear HO_7; clear HO_141001; clear BK140; clear HB; clear HO_6; have HO_5 := n0_; have HO_7 := n1_; have HO_141001 := n2_; have BK140 := n3_; have HB := n4_; have HO163 := n5_; clear n0_ n1_ n2_ n3_ n4_ n5_; clear ho hb hg hat))
        go_meet
        case rel => exact ⟨_, (y161), H', ⟨by have := HK1.out; first | omega | exact Nat.le_refl _⟩, ⟨by (with_reducible repeat first | apply Kd.Zm | apply Kd.Zo); exact HO163.out⟩, ⟨by (with_reducible repeat first | apply Kd.V_drewN); exact Kd.V_mono HO_141001.out (fun _ hk => ⟨hk.1.1, ⟨hk.2, hk.1.2.2⟩⟩)⟩, ⟨by (with_reducible repeat first | refine Ze ?_ _ | refine Zg ?_ | refine Zf ?_ _); exact BK140.out⟩, ⟨by repeat (with_reducible first | exact HB.out | apply Zc | apply Za | apply Zd | refine Zh ?_ GE140.out)⟩⟩
       ·rw [if_neg c40] at H
        exact absurd H (by simp)
      ·replace c39 := Bool.eq_false_iff.mpr c39
       subst c39
       have H1 : (r19Text.j1 k1 x6_1) = some r := by rw [if_neg (show ¬ (false = true) by decide)] at H; exact H
       clear H
       have H := H1
       clear H1
       have H' := Zb.mk H
       clear H
       go_wp2
       go_meet
       case rel => exact ⟨_, (x6_1), H', ⟨by have := HK1.out; first | omega | exact Nat.le_refl _⟩, ⟨by (with_reducible repeat first | apply Kd.Zm | apply Kd.Zo); exact HO_6.out⟩, ⟨by (with_reducible repeat first | apply Kd.V_drewN); exact Kd.V_mono HO_141001.out (fun _ hk => ⟨hk.1, ⟨hk.2.2.1, hk.2.2.2⟩⟩)⟩, ⟨by (with_reducible repeat first | refine Ze ?_ _ | refine Zg ?_ | refine Zf ?_ _); exact BK140.out⟩, ⟨by repeat (with_reducible first | exact HB.out | apply Zc | apply Za | apply Zd | refine Zh ?_ GE140.out)⟩⟩
     case rest =>
      clear HC35
      try clear c1
      try clear p1
      try clear q1
      try clear hx1
      try clear qi1
      try clear c2
      try clear p2
      try clear c3
      try clear c4
      try clear c5
      try clear p6
      try clear c8
      try clear c15
      try clear c15b0
      try clear p15
      try clear q15
      try clear hx15
      try clear qi15
      try clear c17
      try clear c17b0
      try clear c17b1
      try clear c18
      try clear c18b0
      try clear c18b1
      try clear c20
      try clear c23
      try clear c28
      try clear c39
      try clear c40
      try clear hcz10_0
      try clear hcz10_1
      try clear hcz10_2
      try clear hcz13_0
      try clear hcz13_1
      try clear hcz13_2
      try clear hcz38_0
      try clear hcz38_1
      try clear hcz38_2
      try clear hcz6_0
      try clear hcz6_1
      try clear hcz6_2
      try clear hfz10_0
      try clear hfz10_1
      try clear hfz10_2
      try clear hfz13_0
      try clear hfz13_1
      try clear hfz13_2
      try clear hfz38_0
      try clear hfz38_1
      try clear hfz38_2
      try clear hfz6_0
      try clear hfz6_1
      try clear hfz6_2
      try clear hx152_0
      try clear p152
      try clear p2
      try clear q152
      obtain ⟨kq, x6_34, HA, HJ34, HO_6, HO_141001, BK140, HB⟩ := hcut
      cases kq with
      | zero => exact absurd HA.out (by simp [r19Text.j1])
      | succ kj34 =>
       have H := HA.out
       clear HA
       simp only [r19Text.j1] at H
       by_cases c42 : 0 ≤ (x6_34.length : Int)
       ·rw [if_pos c42] at H
        have c42b0 := eq_true c42
        have c42b1 : decide (0 ≤ (x6_34.length : Int)) = true := decide_eq_true c42
        clear c42
        by_cases c43 : ((x6_34.length : Int) : Int).toNat ≤ 281474976710656
        ·rw [if_pos c43] at H
         have c43b0 := eq_true c43
         have c43b1 : decide (((x6_34.length : Int) : Int).toNat ≤ 281474976710656) = true := decide_eq_true c43
         clear c43
         obtain ⟨y164, hy164⟩ : ∃ y_ : List Int, y_ = (List.replicate ((x6_34.length : Int) : Int).toNat 0) := ⟨_, rfl⟩
         replace H : (r19Text.l1 kj34 x6_34 y164 0) = some r := by first | (rw [hy164]; with_reducible exact H) | (have H2_ := (Option.bind_some _ _).symm.trans H; rw [hy164]; with_reducible exact H2_) | (have H2_ := (Option.bind_some _ _).symm.trans H; with_reducible exact H2_) | with_reducible exact H | (rw [hy164]; exact H) | exact H
         have Ny164 := Zb.mk hy164
         clear hy164
         have H' := Zb.mk H
         clear H
         obtain ⟨Ao44, co44, eo44⟩ := Kd.Zy HO_6.out
         subst eo44
         go_wp2_with (first | ((with_reducible refine Zt (N := 49) rfl ?_); refine Kd.R_make (Kd.int .u8) _ 5 rfl (N := 49) rfl 107 _ _ rfl (x6_34.length : Int) rfl rfl Try.underlying107 (.int .u8 0) 1 info5 rfl (by decide) (by omega) 0 (ok := fun _ => True) (okp := fun _ => True) rfl (fun _ hk => hk) trivial (of_decide_eq_true (by first | (with_reducible assumption) | assumption)) (Nat.le_trans (Nat.mul_le_mul_right _ (of_decide_eq_true (by first | (with_reducible assumption) | assumption) : (x6_34.length : Int).toNat ≤ 281474976710656)) (by omega)) (Below.refl _ _) (Nat.le_refl _) ?_; intro v165 w45 ho46 hb hg_ hnew_; clear hg_ hnew_; (first | rw [← Ny164.out] at ho46 | (simp only [Int.reduceToNat] at ho46; rw [← Ny164.out] at ho46)); have n0_ := Zb.mk (Kd.ZJ (by (with_reducible repeat first | apply Kd.Zm | apply Kd.Zo); exact HO_6.out) (Kd.ZV ho46) hb); have n1_ := Zb.mk (Kd.V_elder' (by (with_reducible repeat first | apply Kd.V_drewN); exact HO_141001.out) (Kd.ZV ho46) hb); have n2_ := Zb.mk (Kd.ZG (Kd.R_new' (Kd.R_newM (M := fun k_ => (w.heap.size ≤ k_)) ho46 (Zi (by repeat (with_reducible first | exact HB.out | apply Zc | apply Za | apply Zd | refine Zh ?_ GE140.out))) (fun k_ h_ => h_)) (Kd.R_lt (by (with_reducible repeat first | apply Kd.Zm | apply Kd.Zo); exact HO_6.out))) (Zi (by repeat (with_reducible first | exact HB.out | apply Zc | apply Za | apply Zd | refine Zh ?_ GE140.out)))); have n3_ := Zb.mk (Zn (g := gb140) (o := .cells #[.bool a0_0, .slice A0_1 l0_1.length c0_1, .int .i64 a0_2] 48 (0, 0)) (by (with_reducible repeat first | refine Ze ?_ _ | refine Zg ?_ | refine Zf ?_ _); exact BK140.out) hb); have n4_ := Zb.mk (Zl (by repeat (with_reducible first | exact HB.out | apply Zc | apply Za | apply Zd | refine Zh ?_ GE140.out)) hb); clear HO_6; clear HO_141001; clear BK140; clear HB; have HO_6 := n0_; have HO_141001 := n1_; have HO166 := n2_; have BK140 := n3_; have HB := n4_; clear n0_ n1_ n2_ n3_ n4_; clear hb ho46))
         go_loopg [12] kj34 (fun kq v12 w' => ∃ (x11_3 : List Int) (x12_3 : Int), v12 = .int .i64 x12_3 ∧ Zb (r19Text.l1 kq x6_34 x11_3 x12_3 = some r) ∧ Zb (kq ≤ kj34) ∧ Zb (Kd.R (Kd.int .u8) 5 w' w.heap.size (fun k_ => (w.heap.size ≤ k_) ∧ some k_ ≠ (v165 : Value).ownBlock) (.slice Ao44 x6_34.length co44) x6_34) ∧ Zb (Kd.R (Kd.int .u8) 5 w' w.heap.size (fun k_ => (w.heap.size ≤ k_) ∧ some k_ ≠ ((.slice Ao44 x6_34.length co44) : Value).ownBlock) v165 x11_3) ∧ Zb (Kd.V (Kd.int .u64) 46 w' w.heap.size (fun k_ => (P0_1_ k_ ∨ w.heap.size ≤ k_) ∧ some k_ ≠ ((.slice Ao44 x6_34.length co44) : Value).ownBlock ∧ some k_ ≠ (v165 : Value).ownBlock ∧ k_ ≠ gb140) (.slice A0_1 l0_1.length c0_1) l0_1) ∧ Zb (w'.heap[gb140]? = some (.cells #[.bool a0_0, (.slice A0_1 l0_1.length c0_1), .int .i64 a0_2] 48 (0, 0))) ∧ Zb (Below w.heap.size w w'))
         case atStart => exact ⟨(y164), (0), (by first | rfl | (simp; done) | (simp [*]; done)), H', ⟨Nat.le_refl _⟩, ⟨by (with_reducible repeat first | apply Kd.Zm | apply Kd.Zo); exact HO_6.out⟩, ⟨by (with_reducible repeat first | apply Kd.Zm | apply Kd.Zo); exact Kd.ZE HO166.out (fun _ hk => ⟨hk.1.1, hk.2⟩)⟩, ⟨by (with_reducible repeat first | apply Kd.V_drewN); exact Kd.V_mono HO_141001.out (fun _ hk => ⟨hk.1.1, ⟨hk.1.2.1, ⟨hk.2, hk.1.2.2⟩⟩⟩)⟩, ⟨by (with_reducible repeat first | refine Ze ?_ _ | refine Zg ?_ | refine Zf ?_ _); exact BK140.out⟩, ⟨by repeat (with_reducible first | exact HB.out | apply Zc | apply Za | apply Zd | refine Zh ?_ GE140.out)⟩⟩
         case round =>
          clear H'
          try clear c1
          try clear p1
          try clear q1
          try clear hx1
          try clear qi1
          try clear c2
          try clear p2
          try clear c3
          try clear c4
          try clear c5
          try clear p6
          try clear c8
          try clear c15
          try clear c15b0
          try clear p15
          try clear q15
          try clear hx15
          try clear qi15
          try clear c17
          try clear c17b0
          try clear c17b1
          try clear c18
          try clear c18b0
          try clear c18b1
          try clear c20
          try clear c23
          try clear c28
          try clear c39
          try clear c40
          try clear c42
          try clear c42b0
          try clear c42b1
          try clear c43
          try clear c43b0
          try clear c43b1
          try clear hcz10_0
          try clear hcz10_1
          try clear hcz10_2
          try clear hcz13_0
          try clear hcz13_1
          try clear hcz13_2
          try clear hcz38_0
          try clear hcz38_1
          try clear hcz38_2
          try clear hcz6_0
          try clear hcz6_1
          try clear hcz6_2
          try clear hfz10_0
          try clear hfz10_1
          try clear hfz10_2
          try clear hfz13_0
          try clear hfz13_1
          try clear hfz13_2
          try clear hfz38_0
          try clear hfz38_1
          try clear hfz38_2
          try clear hfz6_0
          try clear hfz6_1
          try clear hfz6_2
          try clear hx152_0
          try clear p1
          try clear p15
          try clear p152
          try clear p2
          try clear p6
          try clear q1
          try clear q15
          try clear q152
          obtain ⟨x11_3, x12_3, rfl, HA, HK3, HO_6, HO_11, HO_141001, BK140, HB⟩ := hrel
          cases gk with
          | zero => exact absurd HA.out (by simp [r19Text.l1])
          | succ k3 =>
           have H := HA.out
           clear HA
           simp only [r19Text.l1] at H
           by_cases c47 : x12_3 < (x6_34.length : Int)
           ·rw [if_pos c47] at H
            have c47b0 : decide (x12_3 < (x6_34.length : Int)) = true := decide_eq_true c47
            clear c47
            obtain ⟨ji48, hji48⟩ : ∃ j_ : Int, (wrap64 ((wrap64 ((x6_34.length : Int) - 1)) - x12_3)) = j_ := ⟨_, rfl⟩
            replace H : (if 0 ≤ (ji48) then (if (ji48) < (x6_34.length : Int) then (if 0 ≤ x12_3 then (if x12_3 < (x11_3.length : Int) then (r19Text.l1 k3 x6_34 (x11_3.set (x12_3 : Int).toNat (rd x6_34 (ji48))) (wrap64 (x12_3 + 1))) else (none)) else (none)) else (none)) else (none)) = some r := by first | (rw [hji48] at H; exact H) | (simp only [hji48] at H ⊢; exact H)
            have hji48w : (IntKind.i64.wrap ((wrap64 ((x6_34.length : Int) - 1)) - x12_3)) = ji48 := (Zx _).trans hji48
            by_cases c49 : 0 ≤ (ji48)
            ·rw [if_pos c49] at H
             have c49b0 : decide (0 ≤ (ji48)) = true := decide_eq_true c49
             clear c49
             by_cases c50 : (ji48) < (x6_34.length : Int)
             ·rw [if_pos c50] at H
              have c50b0 : decide ((ji48) < (x6_34.length : Int)) = true := decide_eq_true c50
              clear c50
              by_cases c51 : 0 ≤ x12_3
              ·rw [if_pos c51] at H
               have c51b0 : decide (0 ≤ x12_3) = true := decide_eq_true c51
               clear c51
               by_cases c52 : x12_3 < (x11_3.length : Int)
               ·rw [if_pos c52] at H
                have c52b0 : decide (x12_3 < (x11_3.length : Int)) = true := decide_eq_true c52
                clear c52
                obtain ⟨y168, hy168⟩ : ∃ y_ : List Int, y_ = (x11_3.set (x12_3 : Int).toNat (rd x6_34 (ji48))) := ⟨_, rfl⟩
                replace H : (r19Text.l1 k3 x6_34 y168 (wrap64 (x12_3 + 1))) = some r := by first | (rw [hy168]; with_reducible exact H) | (have H2_ := (Option.bind_some _ _).symm.trans H; rw [hy168]; with_reducible exact H2_) | (have H2_ := (Option.bind_some _ _).symm.trans H; with_reducible exact H2_) | with_reducible exact H | (rw [hy168]; exact H) | exact H
                have Ny168 := Zb.mk hy168
                clear hy168
                have H' := Zb.mk H
                clear H
                have p167 : 0 ≤ ((ji48) : Int) := of_decide_eq_true (by first | (with_reducible assumption) | assumption)
                have q167 : (ji48) < (x6_34.length : Int) := of_decide_eq_true (by first | (with_reducible assumption) | assumption)
                obtain ⟨ad167, e167, hx167_0⟩ := Kd.at_int (Kd.Zv HO_6.out).2.2 (ji48) p167 q167
                cases e167
                replace p167 := eq_true p167
                replace q167 := eq_true q167
                have p53 : 0 ≤ (x12_3 : Int) := of_decide_eq_true (by first | (with_reducible assumption) | assumption)
                have q53 : (x12_3 : Int) < ((x11_3.length : Int) : Int) := of_decide_eq_true (by first | (with_reducible assumption) | assumption)
                obtain ⟨go53, co53, eo53, gb53, gl53, cl53, HG53⟩ := Kd.R_form HO_11.out (by omega)
                (first | cases eo53 | (injection eo53 with ea_ en_ ec_; (first | subst ea_ | (injection ea_ with ea_; subst ea_)); subst ec_; clear en_))
                have GB53 := Zb.mk gb53
                have GG53 := Zb.mk HG53
                clear gb53 gl53 HG53
                obtain ⟨hx53_0, hf53_0⟩ := Kd.R_celln 0 HO_11.out (x12_3 : Int) p53 q53
                replace p53 := eq_true p53
                replace q53 := eq_true q53
                have HP54 := Kd.R_putg HO_11.out (x12_3 : Int) (rd x6_34 (ji48))
                go_wp2_with (first | ((with_reducible refine gate_store (t := 5) (p := 66) rfl ?_); refine ZQ (t := 5) (p := 66) (v := ?vo_w55) (w1 := (wr.setCell ⟨go53, (x12_3 : Int).toNat, none⟩ (.int .u8 (rd x6_34 (ji48))))) ?hg ?ho ?hn ?hr ?_; (case ho => rfl); (case hg => rfl); (case hn => rfl); (case hr => first | (go_simp; done) | (go_simp; rfl)); intro w55 hw; have hg : wr.grownBy w55 (some go53) := (by rw [hw]; exact HP54.2); have hp_ : Kd.R (Kd.int .u8) 5 w55 w.heap.size (fun k_ => (w.heap.size ≤ k_) ∧ some k_ ≠ (.slice (some ad167) x6_34.length co44 : Value).ownBlock) (.slice (some ⟨go53, 0, none⟩) x11_3.length co53) y168 := (by rw [hw, Ny168.out]; exact HP54.1); clear HP54; have n0_ := Zb.mk (Kd.R_after (v := (.slice (some ⟨go53, 0, none⟩) x11_3.length co53)) (v1 := (.slice (some ⟨go53, 0, none⟩) x11_3.length co53)) (ok := (fun k_ => (w.heap.size ≤ k_))) (by (with_reducible repeat first | apply Kd.Zm | apply Kd.Zo); exact HO_6.out) hg (.inl rfl)); have n1_ := Zb.mk (hp_); have n2_ := Zb.mk (Kd.V_afterv (v := (.slice (some ⟨go53, 0, none⟩) x11_3.length co53)) (v1 := (.slice (some ⟨go53, 0, none⟩) x11_3.length co53)) (ok := (fun k_ => (P0_1_ k_ ∨ w.heap.size ≤ k_) ∧ some k_ ≠ (.slice (some ad167) x6_34.length co44 : Value).ownBlock ∧ k_ ≠ gb140)) (by (with_reducible repeat first | apply Kd.V_drewN); exact Kd.V_mono HO_141001.out (fun _ hk => ⟨⟨hk.1, ⟨hk.2.1, hk.2.2.2⟩⟩, hk.2.2.1⟩)) hg (.inl rfl)); have n3_ := Zb.mk (blk_grown (g := gb140) (o := .cells #[.bool a0_0, .slice A0_1 l0_1.length c0_1, .int .i64 a0_2] 48 (0, 0)) (by (with_reducible repeat first | refine Ze ?_ _ | refine Zg ?_ | refine Zf ?_ _); exact BK140.out) hg (Kd.R_ne HO_11.out BK140.out (by decide))); have n4_ := Zb.mk ((by rw [hw]; exact Zh (HB.out) GB53.out : Below w.heap.size w w55)); clear HO_6; clear HO_11; clear HO_141001; clear BK140; clear HB; have HO_6 := n0_; have HO_11 := n1_; have HO_141001 := n2_; have BK140 := n3_; have HB := n4_; clear n0_ n1_ n2_ n3_ n4_; clear hg hw hp_))
                go_roundg k3
                case measure => have := HK1.out; have := HJ34.out; have := HK3.out; omega
                case rel => exact ⟨(y168), (wrap64 (x12_3 + 1)), (by first | rfl | (simp; done) | (simp [*]; done)), H', ⟨by have := HK1.out; have := HJ34.out; have := HK3.out; omega⟩, ⟨by (with_reducible repeat first | apply Kd.Zm | apply Kd.Zo); exact HO_6.out⟩, ⟨by (with_reducible repeat first | apply Kd.Zm | apply Kd.Zo); exact HO_11.out⟩, ⟨by (with_reducible repeat first | apply Kd.V_drewN); exact Kd.V_mono HO_141001.out (fun _ hk => ⟨hk.1.1, ⟨hk.1.2.1, ⟨hk.2, hk.1.2.2⟩⟩⟩)⟩, ⟨by (with_reducible repeat first | refine Ze ?_ _ | refine Zg ?_ | refine Zf ?_ _); exact BK140.out⟩, ⟨by repeat (with_reducible first | exact HB.out | apply Zc | apply Za | apply Zd | refine Zh ?_ GE140.out)⟩⟩
               ·rw [if_neg c52] at H
                exact absurd H (by simp)
              ·rw [if_neg c51] at H
               exact absurd H (by simp)
             ·rw [if_neg c50] at H
              exact absurd H (by simp)
            ·rw [if_neg c49] at H
             exact absurd H (by simp)
           ·rw [if_neg c47] at H
            have c47b0 : decide (x12_3 < (x6_34.length : Int)) = false := decide_eq_false c47
            clear c47
            obtain rfl := Option.some.inj H
            have hcv56 := own_string (P := Try.prog) Try.underlying107 Try.underlying5 Try.underlying9 (Kd.own_of_R HO_11.out)
            go_wp2
            go_ret
            exact ⟨by first | rfl | (simp [errW_none, errW_some] <;> rfl) | (simp [*, errW_none, errW_some] <;> rfl), by repeat (with_reducible first | exact HB.out | apply Zc | apply Za | apply Zd | refine Zh ?_ GE140.out)⟩
        ·rw [if_neg c43] at H
         exact absurd H (by simp)
       ·rw [if_neg c42] at H
        exact absurd H (by simp)
def r19Print.j0 : Nat → Int → Bool → Bool → List Int → Option (ByteArray × Int)
 | 0, _, _, _, _ => none
 | k + 1, x1, x13, x170000, x170001 => if x13 = true then (some ((⟨#[]⟩ : ByteArray), 2)) else ((r00Int.f k x170000 x170001).bind fun bt172 => ((r19Text.f k bt172.1 bt172.2.1 bt172.2.2 x1).bind fun t177 => (some (t177, 0))))
def r19Print.f (k : Nat) (a0_0 : Bool) (l0_1 : List Int) (a1 : Int) : Option (ByteArray × Int) := (r00RightInt.f a0_0 l0_1).bind fun t170 => (if t170 = true then ((r19may.f a1).bind fun t171 => (r19Print.j0 k a1 (!t171) a0_0 l0_1)) else (r19Print.j0 k a1 true a0_0 l0_1))
set_option maxHeartbeats 8000000 in
set_option maxRecDepth 100000 in
theorem r19Print.calls (k : Nat) (a0_0 : Bool) (A0_1 : Option Addr) (c0_1 : Nat) (l0_1 : List Int) (a1 : Int) (r1 : ByteArray) (r2 : Int) (w : World) (hr0_1 : Kd.C (Kd.int .u64) w A0_1 l0_1.length l0_1) (hc0_1 : l0_1.length ≤ c0_1) (h : r19Print.f k a0_0 l0_1 a1 = some (r1, r2)) :
  Calls Try.prog 13 #[.agg #[.bool a0_0, .slice A0_1 l0_1.length c0_1], .int .i64 a1] w fun e w' => e = .returned (.tuple #[.string r1, .int .i64 r2]) ∧ Below w.heap.size w w' := by
 have hu24 := Try.underlying24
 have HR0_1 := Zb.mk hr0_1
 have HC0_1 := Zb.mk hc0_1
 clear hr0_1 hc0_1
 have HB := Zb.mk (Below.refl w.heap.size w)
 have H : ((r00RightInt.f a0_0 l0_1).bind fun t170 => (if t170 = true then ((r19may.f a1).bind fun t171 => (r19Print.j0 k a1 (!t171) a0_0 l0_1)) else (r19Print.j0 k a1 true a0_0 l0_1))) = some (r1, r2) := h
 clear h
 have HC3 := Zb.mk H
 clear H
 go_enter Try.func13, Try.ntmps13
 go_upto_region 1 with (first | ((with_reducible refine Zt (N := 2) rfl ?_); refine Zs ?hg (N := 2) ?hd (cs := #[.bool a0_0, .slice A0_1 l0_1.length c0_1]) (t := 24) ?hr ?_; (case hd => rfl); (case hg => rfl); (case hr => first | (go_simp; done) | (go_simp; rfl)); intro gb169 hg w4 hbox hb; have n0_ := Zb.mk (Zl (by repeat (with_reducible first | exact HB.out | apply Zc | apply Za | apply Zd)) hb); have n1_ := Zb.mk (hbox); have n2_ := Zb.mk ((by rw [hg]; exact (Zi (by repeat (with_reducible first | exact HB.out | apply Zc | apply Za | apply Zd))) : w.heap.size ≤ gb169)); have n3_ := Zb.mk ((by rw [hg]; exact (Zi (by repeat (with_reducible first | exact HB.out | apply Zc | apply Za | apply Zd))) : w.heap.size ≤ gb169)); clear HB; have HB := n0_; have BK169 := n1_; have GW169 := n2_; have GE169 := n3_; clear n0_ n1_ n2_ n3_; clear hb hbox hg))
 (try simp only [Act.put, List.setIfInBounds_toArray, List.set_cons_zero, List.set_cons_succ])
 go_cut [13] (fun v13 wc => ∃ (kq : Nat) (x13_2 : Bool), v13 = .bool x13_2 ∧ Zb (r19Print.j0 kq a1 x13_2 a0_0 l0_1 = some (r1, r2)) ∧ Zb (kq ≤ k) ∧ Zb (wc.heap[gb169]? = some (.cells #[.bool a0_0, (.slice A0_1 l0_1.length c0_1)] 24 (0, 0))) ∧ Zb (Below w.heap.size w wc))
 case first =>
  have H := HC3.out
  clear HC3
  replace H := Option.bind_eq_some_iff.mp H
  obtain ⟨t170, A50, H⟩ := H
  replace H : (if t170 = true then ((r19may.f a1).bind fun t171 => (r19Print.j0 k a1 (!t171) a0_0 l0_1)) else (r19Print.j0 k a1 true a0_0 l0_1)) = some (r1, r2) := H
  have A5 := Zb.mk A50
  clear A50
  by_cases c6 : t170 = true
  ·subst c6
   have H1 : ((r19may.f a1).bind fun t171 => (r19Print.j0 k a1 (!t171) a0_0 l0_1)) = some (r1, r2) := by rw [if_pos rfl] at H; exact H
   clear H
   have H := H1
   clear H1
   replace H := Option.bind_eq_some_iff.mp H
   obtain ⟨t171, A70, H⟩ := H
   replace H : (r19Print.j0 k a1 (!t171) a0_0 l0_1) = some (r1, r2) := H
   have A7 := Zb.mk A70
   clear A70
   have H' := Zb.mk H
   clear H
   have hcz8_0 : w4.cell? ⟨gb169, 0, none⟩ = some (.bool a0_0) := (Zk BK169.out 0).trans rfl
   have hcz8_1 : w4.cell? ⟨gb169, 1, none⟩ = some (.slice A0_1 l0_1.length c0_1) := (Zk BK169.out 1).trans rfl
   have hfz8_0 := Zj BK169.out 0
   have hfz8_1 := Zj BK169.out 1
   go_wp2_with (first | ((with_reducible refine Zp (f := 41) rfl ?_); refine ZB (some 7) rfl rfl Try.func41 (by kernel_rfl) rfl #[.agg #[.bool a0_0, .slice A0_1 l0_1.length c0_1]] rfl (by (try simp only [List.map_toArray, List.map_cons, List.map_nil]); first | done | rfl | (simp only [List.length_drop, List.length_take]; rfl)) ?_; (with_reducible refine (r00RightInt.calls a0_0 _ _ l0_1 true _ ?side1 ?side2 A5.out).mono ?_); (case side1 => repeat (first | exact (Kd.C_below HR0_1.out HB.out) | (with_reducible refine Kd.ZC ?_ _) | (with_reducible refine Kd.ZF ?_ _) | (with_reducible refine Kd.ZN ?_))); (case side2 => exact HC0_1.out); rintro e w9 ⟨rfl, hb⟩; refine ⟨_, rfl, ?_⟩; have n0_ := Zb.mk (Zn (g := gb169) (o := .cells #[.bool a0_0, .slice A0_1 l0_1.length c0_1] 24 (0, 0)) (by (with_reducible repeat first | refine Ze ?_ _ | refine Zg ?_ | refine Zf ?_ _); exact BK169.out) hb); have n1_ := Zb.mk (Zl (by repeat (with_reducible first | exact HB.out | apply Zc | apply Za | apply Zd | refine Zh ?_ GE169.out)) hb); clear BK169; clear HB; have BK169 := n0_; have HB := n1_; clear n0_ n1_; (try clear hb); (try clear hb2); (try clear hk); (try clear hi)) | (go_at_call 42; (with_reducible refine (r19may.calls a1 t171 _ A7.out).mono ?_); rintro e w' ⟨rfl, ⟨nd, rfl⟩⟩))
   go_meet
   case rel => exact ⟨_, (!t171), (by first | rfl | (simp; done) | (simp [*]; done)), H', ⟨by first | omega | exact Nat.le_refl _⟩, ⟨by (with_reducible repeat first | refine Ze ?_ _ | refine Zg ?_ | refine Zf ?_ _); exact BK169.out⟩, ⟨by repeat (with_reducible first | exact HB.out | apply Zc | apply Za | apply Zd | refine Zh ?_ GE169.out)⟩⟩
  ·replace c6 := Bool.eq_false_iff.mpr c6
   subst c6
   have H1 : (r19Print.j0 k a1 true a0_0 l0_1) = some (r1, r2) := by rw [if_neg (show ¬ (false = true) by decide)] at H; exact H
   clear H
   have H := H1
   clear H1
   have H' := Zb.mk H
   clear H
   have hcz10_0 : w4.cell? ⟨gb169, 0, none⟩ = some (.bool a0_0) := (Zk BK169.out 0).trans rfl
   have hcz10_1 : w4.cell? ⟨gb169, 1, none⟩ = some (.slice A0_1 l0_1.length c0_1) := (Zk BK169.out 1).trans rfl
   have hfz10_0 := Zj BK169.out 0
   have hfz10_1 := Zj BK169.out 1
   go_wp2_with (first | ((with_reducible refine Zp (f := 41) rfl ?_); refine ZB (some 7) rfl rfl Try.func41 (by kernel_rfl) rfl #[.agg #[.bool a0_0, .slice A0_1 l0_1.length c0_1]] rfl (by (try simp only [List.map_toArray, List.map_cons, List.map_nil]); first | done | rfl | (simp only [List.length_drop, List.length_take]; rfl)) ?_; (with_reducible refine (r00RightInt.calls a0_0 _ _ l0_1 false _ ?side1 ?side2 A5.out).mono ?_); (case side1 => repeat (first | exact (Kd.C_below HR0_1.out HB.out) | (with_reducible refine Kd.ZC ?_ _) | (with_reducible refine Kd.ZF ?_ _) | (with_reducible refine Kd.ZN ?_))); (case side2 => exact HC0_1.out); rintro e w11 ⟨rfl, hb⟩; refine ⟨_, rfl, ?_⟩; have n0_ := Zb.mk (Zn (g := gb169) (o := .cells #[.bool a0_0, .slice A0_1 l0_1.length c0_1] 24 (0, 0)) (by (with_reducible repeat first | refine Ze ?_ _ | refine Zg ?_ | refine Zf ?_ _); exact BK169.out) hb); have n1_ := Zb.mk (Zl (by repeat (with_reducible first | exact HB.out | apply Zc | apply Za | apply Zd | refine Zh ?_ GE169.out)) hb); clear BK169; clear HB; have BK169 := n0_; have HB := n1_; clear n0_ n1_; (try clear hb); (try clear hb2); (try clear hk); (try clear hi)))
   go_meet
   case rel => exact ⟨_, (true), (by first | rfl | (simp; done) | (simp [*]; done)), H', ⟨by first | omega | exact Nat.le_refl _⟩, ⟨by (with_reducible repeat first | refine Ze ?_ _ | refine Zg ?_ | refine Zf ?_ _); exact BK169.out⟩, ⟨by repeat (with_reducible first | exact HB.out | apply Zc | apply Za | apply Zd | refine Zh ?_ GE169.out)⟩⟩
 case rest =>
  clear HC3
  try clear c1
  try clear p2
  try clear c4
  try clear c6
  try clear hcz10_0
  try clear hcz10_1
  try clear hcz8_0
  try clear hcz8_1
  try clear hfz10_0
  try clear hfz10_1
  try clear hfz8_0
  try clear hfz8_1
  obtain ⟨kq, x13_2, rfl, HA, HJ2, BK169, HB⟩ := hcut
  cases kq with
  | zero => exact absurd HA.out (by simp [r19Print.j0])
  | succ kj2 =>
   have H := HA.out
   clear HA
   simp only [r19Print.j0] at H
   by_cases c12 : x13_2 = true
   ·subst c12
    have H1 : (some ((⟨#[]⟩ : ByteArray), 2)) = some (r1, r2) := by rw [if_pos rfl] at H; exact H
    clear H
    have H := H1
    clear H1
    simp only [Option.some.injEq, Prod.mk.injEq] at H
    obtain ⟨rfl, rfl⟩ := H
    go_wp2
    go_ret2
    exact ⟨by first | rfl | (simp [errW_none, errW_some] <;> rfl) | (simp [*, errW_none, errW_some] <;> rfl), by repeat (with_reducible first | exact HB.out | apply Zc | apply Za | apply Zd | refine Zh ?_ GE169.out)⟩
   ·replace c12 := Bool.eq_false_iff.mpr c12
    subst c12
    have H1 : ((r00Int.f kj2 a0_0 l0_1).bind fun bt172 => ((r19Text.f kj2 bt172.1 bt172.2.1 bt172.2.2 a1).bind fun t177 => (some (t177, 0)))) = some (r1, r2) := by rw [if_neg (show ¬ (false = true) by decide)] at H; exact H
    clear H
    have H := H1
    clear H1
    replace H := Option.bind_eq_some_iff.mp H
    obtain ⟨⟨t172, t173, t176⟩, A130, H⟩ := H
    replace H : ((r19Text.f kj2 t172 t173 t176 a1).bind fun t177 => (some (t177, 0))) = some (r1, r2) := H
    have A13 := Zb.mk A130
    clear A130
    replace H := Option.bind_eq_some_iff.mp H
    obtain ⟨t177, A140, H⟩ := H
    replace H : (some (t177, 0)) = some (r1, r2) := H
    have A14 := Zb.mk A140
    clear A140
    simp only [Option.some.injEq, Prod.mk.injEq] at H
    obtain ⟨rfl, rfl⟩ := H
    have hcz15_0 : wc.cell? ⟨gb169, 0, none⟩ = some (.bool a0_0) := (Zk BK169.out 0).trans rfl
    have hcz15_1 : wc.cell? ⟨gb169, 1, none⟩ = some (.slice A0_1 l0_1.length c0_1) := (Zk BK169.out 1).trans rfl
    have hfz15_0 := Zj BK169.out 0
    have hfz15_1 := Zj BK169.out 1
    go_wp2_with (first | ((with_reducible refine Zp (f := 26) rfl ?_); refine ZB (some 15) rfl rfl Try.func26 (by kernel_rfl) rfl #[.agg #[.bool a0_0, .slice A0_1 l0_1.length c0_1]] rfl (by (try simp only [List.map_toArray, List.map_cons, List.map_nil]); first | done | rfl | (simp only [List.length_drop, List.length_take]; rfl)) ?_; (with_reducible refine (r00Int.calls kj2 a0_0 _ _ l0_1 t172 t173 t176 _ ?side1 ?side2 A13.out).mono ?_); (case side1 => repeat (first | exact (Kd.C_below HR0_1.out HB.out) | (with_reducible refine Kd.ZC ?_ _) | (with_reducible refine Kd.ZF ?_ _) | (with_reducible refine Kd.ZN ?_))); (case side2 => exact HC0_1.out); rintro e w16 ⟨v174, rfl, ho0, hb⟩; refine ⟨_, rfl, ?_⟩; have n0_ := Zb.mk (Kd.ZG ho0 (Zi (by repeat (with_reducible first | exact HB.out | apply Zc | apply Za | apply Zd | refine Zh ?_ GE169.out)))); have n1_ := Zb.mk (Zn (g := gb169) (o := .cells #[.bool a0_0, .slice A0_1 l0_1.length c0_1] 24 (0, 0)) (by (with_reducible repeat first | refine Ze ?_ _ | refine Zg ?_ | refine Zf ?_ _); exact BK169.out) hb); have n2_ := Zb.mk (Zl (by repeat (with_reducible first | exact HB.out | apply Zc | apply Za | apply Zd | refine Zh ?_ GE169.out)) hb); clear BK169; clear HB; have HO175 := n0_; have BK169 := n1_; have HB := n2_; clear n0_ n1_ n2_; (try clear hb); (try clear hb2); (try clear hk); (try clear hi); (try clear ho0); obtain ⟨Ao17, co17, eo17⟩ := Kd.Zy HO175.out; subst eo17) | ((with_reducible refine Zp (f := 43) rfl ?_); refine ZB (some 17) rfl rfl Try.func43 (by kernel_rfl) rfl #[.agg #[.bool t172, .slice Ao17 t173.length co17, .int .i64 t176], .int .i64 a1] rfl (by (try simp only [List.map_toArray, List.map_cons, List.map_nil]); first | done | rfl | (simp only [List.length_drop, List.length_take]; rfl)) ?_; (with_reducible refine (r19Text.calls kj2 t172 (fun k_ => some k_ = (.slice Ao17 t173.length co17 : Value).ownBlock) _ _ t173 t176 a1 t177 _ ?side1 A14.out).mono ?_); (case side1 => exact Kd.R_V (Kd.R_tight rfl (Kd.ZI (HO175.out) BK169.out (by decide)))); rintro e w18 ⟨rfl, hb⟩; refine ⟨_, rfl, ?_⟩; have n0_ := Zb.mk (Kd.Zz (by (with_reducible repeat first | apply Kd.Zm | apply Kd.Zo); exact HO175.out) hb); have n1_ := Zb.mk (Zn (g := gb169) (o := .cells #[.bool a0_0, .slice A0_1 l0_1.length c0_1] 24 (0, 0)) (by (with_reducible repeat first | refine Ze ?_ _ | refine Zg ?_ | refine Zf ?_ _); exact BK169.out) hb); have n2_ := Zb.mk (Zl (by repeat (with_reducible first | exact HB.out | apply Zc | apply Za | apply Zd | refine Zh ?_ GE169.out)) hb); clear HO175; clear BK169; clear HB; have HO175 := n0_; have BK169 := n1_; have HB := n2_; clear n0_ n1_ n2_; (try clear hb); (try clear hb2); (try clear hk); (try clear hi)))
    go_ret2
    exact ⟨by first | rfl | (simp [errW_none, errW_some] <;> rfl) | (simp [*, errW_none, errW_some] <;> rfl), by repeat (with_reducible first | exact HB.out | apply Zc | apply Za | apply Zd | refine Zh ?_ GE169.out)⟩
def r19Count.f (k : Nat) (a0_0 : Bool) (l0_1 : List Int) (a1 : Int) : Option (Int × Int) := (r19Print.f k a0_0 l0_1 a1).bind fun bt179 => (if bt179.2 = 0 then (if 0 < (bt179.1.size : Int) then (if (bt bt179.1 0) = 45 then (some (wrap64 ((bt179.1.size : Int) - 1), 0)) else (some ((bt179.1.size : Int), 0))) else (none)) else (some (0, bt179.2)))
set_option maxHeartbeats 8000000 in
set_option maxRecDepth 100000 in
theorem r19Count.calls (k : Nat) (a0_0 : Bool) (A0_1 : Option Addr) (c0_1 : Nat) (l0_1 : List Int) (a1 : Int) (r1 : Int) (r2 : Int) (w : World) (hr0_1 : Kd.C (Kd.int .u64) w A0_1 l0_1.length l0_1) (hc0_1 : l0_1.length ≤ c0_1) (h : r19Count.f k a0_0 l0_1 a1 = some (r1, r2)) :
  Calls Try.prog 15 #[.agg #[.bool a0_0, .slice A0_1 l0_1.length c0_1], .int .i64 a1] w fun e w' => e = .returned (.tuple #[.int .i64 r1, .int .i64 r2]) ∧ Below w.heap.size w w' := by
 have hu24 := Try.underlying24
 have HR0_1 := Zb.mk hr0_1
 have HC0_1 := Zb.mk hc0_1
 clear hr0_1 hc0_1
 have HB := Zb.mk (Below.refl w.heap.size w)
 have H : ((r19Print.f k a0_0 l0_1 a1).bind fun bt179 => (if bt179.2 = 0 then (if 0 < (bt179.1.size : Int) then (if (bt bt179.1 0) = 45 then (some (wrap64 ((bt179.1.size : Int) - 1), 0)) else (some ((bt179.1.size : Int), 0))) else (none)) else (some (0, bt179.2)))) = some (r1, r2) := h
 clear h
 replace H := Option.bind_eq_some_iff.mp H
 obtain ⟨⟨t179, t180⟩, A30, H⟩ := H
 replace H : (if t180 = 0 then (if 0 < (t179.size : Int) then (if (bt t179 0) = 45 then (some (wrap64 ((t179.size : Int) - 1), 0)) else (some ((t179.size : Int), 0))) else (none)) else (some (0, t180))) = some (r1, r2) := H
 have A3 := Zb.mk A30
 clear A30
 by_cases c4 : t180 = 0
 ·rw [if_pos c4] at H
  have c4b0 : (t180 == 0) = true := beq_iff_eq.mpr c4
  have c4b1 : (t180 != 0) = false := bne_eq_false_iff_eq.mpr c4
  clear c4
  by_cases c5 : 0 < (t179.size : Int)
  ·rw [if_pos c5] at H
   have c5b0 : decide (0 < (t179.size : Int)) = true := decide_eq_true c5
   have c5b1 : decide (0 < t179.size) = true := decide_eq_true (by omega)
   clear c5
   by_cases c7 : (bt t179 0) = 45
   ·rw [if_pos c7] at H
    have c7b0 : ((bt t179 0) == 45) = true := beq_iff_eq.mpr c7
    have c7b1 : ((bt t179 0) != 45) = false := bne_eq_false_iff_eq.mpr c7
    clear c7
    simp only [Option.some.injEq, Prod.mk.injEq] at H
    obtain ⟨rfl, rfl⟩ := H
    go_enter Try.func15, Try.ntmps15
    go_wp2_with (first | ((with_reducible refine Zt (N := 2) rfl ?_); refine Zs ?hg (N := 2) ?hd (cs := #[.bool a0_0, .slice A0_1 l0_1.length c0_1]) (t := 24) ?hr ?_; (case hd => rfl); (case hg => rfl); (case hr => first | (go_simp; done) | (go_simp; rfl)); intro gb178 hg w8 hbox hb; have n0_ := Zb.mk (Zl (by repeat (with_reducible first | exact HB.out | apply Zc | apply Za | apply Zd)) hb); have n1_ := Zb.mk (hbox); have n2_ := Zb.mk ((by rw [hg]; exact (Zi (by repeat (with_reducible first | exact HB.out | apply Zc | apply Za | apply Zd))) : w.heap.size ≤ gb178)); have n3_ := Zb.mk ((by rw [hg]; exact (Zi (by repeat (with_reducible first | exact HB.out | apply Zc | apply Za | apply Zd))) : w.heap.size ≤ gb178)); clear HB; have HB := n0_; have BK178 := n1_; have GW178 := n2_; have GE178 := n3_; clear n0_ n1_ n2_ n3_; clear hb hbox hg; have hcz9_0 : w8.cell? ⟨gb178, 0, none⟩ = some (.bool a0_0) := (Zk BK178.out 0).trans rfl; have hcz9_1 : w8.cell? ⟨gb178, 1, none⟩ = some (.slice A0_1 l0_1.length c0_1) := (Zk BK178.out 1).trans rfl; have hfz9_0 := Zj BK178.out 0; have hfz9_1 := Zj BK178.out 1) | ((with_reducible refine Zp (f := 13) rfl ?_); refine ZB (some 11) rfl rfl Try.func13 (by kernel_rfl) rfl #[.agg #[.bool a0_0, .slice A0_1 l0_1.length c0_1], .int .i64 a1] rfl (by (try simp only [List.map_toArray, List.map_cons, List.map_nil]); first | done | rfl | (simp only [List.length_drop, List.length_take]; rfl)) ?_; (with_reducible refine (r19Print.calls k a0_0 _ _ l0_1 a1 t179 t180 _ ?side1 ?side2 A3.out).mono ?_); (case side1 => repeat (first | exact (Kd.C_below HR0_1.out HB.out) | (with_reducible refine Kd.ZC ?_ _) | (with_reducible refine Kd.ZF ?_ _) | (with_reducible refine Kd.ZN ?_))); (case side2 => exact HC0_1.out); rintro e w10 ⟨rfl, hb⟩; refine ⟨_, rfl, ?_⟩; have n0_ := Zb.mk (Zn (g := gb178) (o := .cells #[.bool a0_0, .slice A0_1 l0_1.length c0_1] 24 (0, 0)) (by (with_reducible repeat first | refine Ze ?_ _ | refine Zg ?_ | refine Zf ?_ _); exact BK178.out) hb); have n1_ := Zb.mk (Zl (by repeat (with_reducible first | exact HB.out | apply Zc | apply Za | apply Zd | refine Zh ?_ GE178.out)) hb); clear BK178; clear HB; have BK178 := n0_; have HB := n1_; clear n0_ n1_; (try clear hb); (try clear hb2); (try clear hk); (try clear hi); have p6 : 0 ≤ (0 : Int) := (by omega); have q6 : 0 < t179.size := (by have : (0 : Int) < (t179.size : Int) := of_decide_eq_true (by first | (with_reducible assumption) | assumption); omega); have hx6 : ∀ h : 0 < t179.size, ((t179[0]'h).toNat : Int) = bt t179 0 := bt_at t179 0; clear p6; have qi6 : (0 < (t179.size : Int)) = True := eq_true (of_decide_eq_true (by first | (with_reducible assumption) | assumption)); replace q6 := eq_true q6))
    go_ret2
    exact ⟨by first | rfl | (simp [errW_none, errW_some] <;> rfl) | (simp [*, errW_none, errW_some] <;> rfl), by repeat (with_reducible first | exact HB.out | apply Zc | apply Za | apply Zd | refine Zh ?_ GE178.out)⟩
   ·rw [if_neg c7] at H
    have c7b0 : ((bt t179 0) == 45) = false := beq_eq_false_iff_ne.mpr c7
    have c7b1 : ((bt t179 0) != 45) = true := bne_iff_ne.mpr c7
    simp only [Option.some.injEq, Prod.mk.injEq] at H
    obtain ⟨rfl, rfl⟩ := H
    go_enter Try.func15, Try.ntmps15
    go_wp2_with (first | ((with_reducible refine Zt (N := 2) rfl ?_); refine Zs ?hg (N := 2) ?hd (cs := #[.bool a0_0, .slice A0_1 l0_1.length c0_1]) (t := 24) ?hr ?_; (case hd => rfl); (case hg => rfl); (case hr => first | (go_simp; done) | (go_simp; rfl)); intro gb178 hg w11 hbox hb; have n0_ := Zb.mk (Zl (by repeat (with_reducible first | exact HB.out | apply Zc | apply Za | apply Zd)) hb); have n1_ := Zb.mk (hbox); have n2_ := Zb.mk ((by rw [hg]; exact (Zi (by repeat (with_reducible first | exact HB.out | apply Zc | apply Za | apply Zd))) : w.heap.size ≤ gb178)); have n3_ := Zb.mk ((by rw [hg]; exact (Zi (by repeat (with_reducible first | exact HB.out | apply Zc | apply Za | apply Zd))) : w.heap.size ≤ gb178)); clear HB; have HB := n0_; have BK178 := n1_; have GW178 := n2_; have GE178 := n3_; clear n0_ n1_ n2_ n3_; clear hb hbox hg; have hcz12_0 : w11.cell? ⟨gb178, 0, none⟩ = some (.bool a0_0) := (Zk BK178.out 0).trans rfl; have hcz12_1 : w11.cell? ⟨gb178, 1, none⟩ = some (.slice A0_1 l0_1.length c0_1) := (Zk BK178.out 1).trans rfl; have hfz12_0 := Zj BK178.out 0; have hfz12_1 := Zj BK178.out 1) | ((with_reducible refine Zp (f := 13) rfl ?_); refine ZB (some 11) rfl rfl Try.func13 (by kernel_rfl) rfl #[.agg #[.bool a0_0, .slice A0_1 l0_1.length c0_1], .int .i64 a1] rfl (by (try simp only [List.map_toArray, List.map_cons, List.map_nil]); first | done | rfl | (simp only [List.length_drop, List.length_take]; rfl)) ?_; (with_reducible refine (r19Print.calls k a0_0 _ _ l0_1 a1 t179 t180 _ ?side1 ?side2 A3.out).mono ?_); (case side1 => repeat (first | exact (Kd.C_below HR0_1.out HB.out) | (with_reducible refine Kd.ZC ?_ _) | (with_reducible refine Kd.ZF ?_ _) | (with_reducible refine Kd.ZN ?_))); (case side2 => exact HC0_1.out); rintro e w13 ⟨rfl, hb⟩; refine ⟨_, rfl, ?_⟩; have n0_ := Zb.mk (Zn (g := gb178) (o := .cells #[.bool a0_0, .slice A0_1 l0_1.length c0_1] 24 (0, 0)) (by (with_reducible repeat first | refine Ze ?_ _ | refine Zg ?_ | refine Zf ?_ _); exact BK178.out) hb); have n1_ := Zb.mk (Zl (by repeat (with_reducible first | exact HB.out | apply Zc | apply Za | apply Zd | refine Zh ?_ GE178.out)) hb); clear BK178; clear HB; have BK178 := n0_; have HB := n1_; clear n0_ n1_; (try clear hb); (try clear hb2); (try clear hk); (try clear hi); have p6 : 0 ≤ (0 : Int) := (by omega); have q6 : 0 < t179.size := (by have : (0 : Int) < (t179.size : Int) := of_decide_eq_true (by first | (with_reducible assumption) | assumption); omega); have hx6 : ∀ h : 0 < t179.size, ((t179[0]'h).toNat : Int) = bt t179 0 := bt_at t179 0; clear p6; have qi6 : (0 < (t179.size : Int)) = True := eq_true (of_decide_eq_true (by first | (with_reducible assumption) | assumption)); replace q6 := eq_true q6))
    go_ret2
    exact ⟨by first | rfl | (simp [errW_none, errW_some] <;> rfl) | (simp [*, errW_none, errW_some] <;> rfl), by repeat (with_reducible first | exact HB.out | apply Zc | apply Za | apply Zd | refine Zh ?_ GE178.out)⟩
  ·rw [if_neg c5] at H
   exact absurd H (by simp)
 ·rw [if_neg c4] at H
  have c4b0 : (t180 == 0) = false := beq_eq_false_iff_ne.mpr c4
  have c4b1 : (t180 != 0) = true := bne_iff_ne.mpr c4
  simp only [Option.some.injEq, Prod.mk.injEq] at H
  obtain ⟨rfl, rfl⟩ := H
  go_enter Try.func15, Try.ntmps15
  go_wp2_with (first | ((with_reducible refine Zt (N := 2) rfl ?_); refine Zs ?hg (N := 2) ?hd (cs := #[.bool a0_0, .slice A0_1 l0_1.length c0_1]) (t := 24) ?hr ?_; (case hd => rfl); (case hg => rfl); (case hr => first | (go_simp; done) | (go_simp; rfl)); intro gb178 hg w14 hbox hb; have n0_ := Zb.mk (Zl (by repeat (with_reducible first | exact HB.out | apply Zc | apply Za | apply Zd)) hb); have n1_ := Zb.mk (hbox); have n2_ := Zb.mk ((by rw [hg]; exact (Zi (by repeat (with_reducible first | exact HB.out | apply Zc | apply Za | apply Zd))) : w.heap.size ≤ gb178)); have n3_ := Zb.mk ((by rw [hg]; exact (Zi (by repeat (with_reducible first | exact HB.out | apply Zc | apply Za | apply Zd))) : w.heap.size ≤ gb178)); clear HB; have HB := n0_; have BK178 := n1_; have GW178 := n2_; have GE178 := n3_; clear n0_ n1_ n2_ n3_; clear hb hbox hg; have hcz15_0 : w14.cell? ⟨gb178, 0, none⟩ = some (.bool a0_0) := (Zk BK178.out 0).trans rfl; have hcz15_1 : w14.cell? ⟨gb178, 1, none⟩ = some (.slice A0_1 l0_1.length c0_1) := (Zk BK178.out 1).trans rfl; have hfz15_0 := Zj BK178.out 0; have hfz15_1 := Zj BK178.out 1) | ((with_reducible refine Zp (f := 13) rfl ?_); refine ZB (some 11) rfl rfl Try.func13 (by kernel_rfl) rfl #[.agg #[.bool a0_0, .slice A0_1 l0_1.length c0_1], .int .i64 a1] rfl (by (try simp only [List.map_toArray, List.map_cons, List.map_nil]); first | done | rfl | (simp only [List.length_drop, List.length_take]; rfl)) ?_; (with_reducible refine (r19Print.calls k a0_0 _ _ l0_1 a1 t179 t180 _ ?side1 ?side2 A3.out).mono ?_); (case side1 => repeat (first | exact (Kd.C_below HR0_1.out HB.out) | (with_reducible refine Kd.ZC ?_ _) | (with_reducible refine Kd.ZF ?_ _) | (with_reducible refine Kd.ZN ?_))); (case side2 => exact HC0_1.out); rintro e w16 ⟨rfl, hb⟩; refine ⟨_, rfl, ?_⟩; have n0_ := Zb.mk (Zn (g := gb178) (o := .cells #[.bool a0_0, .slice A0_1 l0_1.length c0_1] 24 (0, 0)) (by (with_reducible repeat first | refine Ze ?_ _ | refine Zg ?_ | refine Zf ?_ _); exact BK178.out) hb); have n1_ := Zb.mk (Zl (by repeat (with_reducible first | exact HB.out | apply Zc | apply Za | apply Zd | refine Zh ?_ GE178.out)) hb); clear BK178; clear HB; have BK178 := n0_; have HB := n1_; clear n0_ n1_; (try clear hb); (try clear hb2); (try clear hk); (try clear hi)))
  go_ret2
  exact ⟨by first | rfl | (simp [errW_none, errW_some] <;> rfl) | (simp [*, errW_none, errW_some] <;> rfl), by repeat (with_reducible first | exact HB.out | apply Zc | apply Za | apply Zd | refine Zh ?_ GE178.out)⟩
def rkmark.f (a0 : Int) (a1 : Int) : Option (Int) := some (wrap64 ((wrap64 (1000003 * (wrap64 (a0 + 7)))) + a1))
set_option maxHeartbeats 8000000 in
set_option maxRecDepth 100000 in
theorem rkmark.calls (a0 : Int) (a1 : Int) (r : Int) (w : World) (h : rkmark.f a0 a1 = some r) :
  Calls Try.prog 74 #[.int .i64 a0, .int .i64 a1] w fun e w' => e = .returned (.int .i64 r) ∧ Zq w w' := by
 have H : (some (wrap64 ((wrap64 (1000003 * (wrap64 (a0 + 7)))) + a1))) = some r := h
 clear h
 obtain rfl := Option.some.inj H
 go_enter Try.func74, Try.ntmps74
 go_wp2
 go_ret
 exact ⟨by first | rfl | (simp; done) | (simp [*]; done), by repeat (first | exact Zq.refl _ | apply Zq.step)⟩
end Go.Proofs.Ytbmddlldadbfnaa.BP
end
section
namespace Go.Proofs.Ytbmddlldadbfnaa.BP
open Go.Proofs.Ytbmddlldadbfnaa.BM (w64 u64)
open Go.RowKit Go.Proofs.Ytbmddlldadbfnaa.BA Go.Proofs.Ytbmddlldadbfnaa.BB Go.Proofs.YtbmddlldadbfnaaW.PrintWords Go.Proofs.YtbmddlldadbfnaaW.PrintLast Go.Proofs.YtbmddlldadbfnaaW.PrintMore
attribute [local go_sem] ZU ZS max_two min_two ZP ZO ZT ZR
set_option linter.unusedVariables false
set_option linter.unusedSimpArgs false
theorem run_append_none {P : Program} (w : World) (t ty e : TypeId) (i : TypeInfo) (ht : P.underlying t = some (.slice e)) (hi : P.info? e = some i) (g n cap c : Nat) (h : n ≤ cap) :
  (Builtin.append_ #[t, t] ty #[.slice (some ⟨g, 0, none⟩) n cap, .slice none 0 c]).run P w = .ok (.slice (some ⟨g, 0, none⟩) n cap) w := by
 simp [Builtin.append_, run_underlying ht, sizeOf, typeInfo, hi, Builtin.lenOf, Builtin.firstCells, h, storeCells]
def marks (i : Nat) : List Int := (List.range i).map fun (j : Nat) => 8000024 + (j : Int)
theorem marks_succ (i : Nat) : marks (i + 1) = marks i ++ [8000024 + (i : Int)] := by unfold marks; rw [List.range_succ, List.map_append]; rfl
theorem marks_len (i : Nat) : (marks i).length = i := by simp [marks]
def nums (l : List Int) : List Value := l.map (fun x => .int .u64 x)
theorem nums_append (a b : List Int) : nums (a ++ b) = nums a ++ nums b := by simp [nums]
theorem own_C {w : World} {base g n cap : Nat} {xs : List Int} (h : w.ownsRow base 46 1 (.slice (some ⟨g, 0, none⟩) n cap) n (nums xs)) (hn : xs.length = n) (hm : n ≤ 9223372036854775807) : Kd.C (Kd.int .u64) w (some ⟨g, 0, none⟩) n xs := by
 refine Kd.C_of_reads (d := (0 : Int)) (h1 := fun _ => rfl) ⟨hn, hm, fun _ => ⟨_, rfl, fun j hj => ?_⟩⟩
 refine h.cells rfl j _ ?_
 simp [nums, List.getD_eq_getElem?_getD, show j < xs.length by omega]
theorem run_append_spare {P : Program} (w : World) (base : Nat) (t ty : TypeId) (i : TypeInfo) (ht : P.underlying t = some (.slice 46)) (hi : P.info? 46 = some i) (hsize : i.size = 1)
  (g n cap : Nat) (xs : List Int) (hown : w.ownsRow base 46 1 (.slice (some ⟨g, 0, none⟩) n cap) n (nums xs))
  (A : Option Addr) (c : Nat) (l : List Int) (hC : Kd.C (Kd.int .u64) w A l.length l) (hroom : n + l.length ≤ cap) :
  ∃ w', (Builtin.append_ #[t, t] ty #[.slice (some ⟨g, 0, none⟩) n cap, .slice A l.length c]).run P w = .ok (.slice (some ⟨g, 0, none⟩) (n + l.length) cap) w' ∧
   w'.ownsRow base 46 1 (.slice (some ⟨g, 0, none⟩) (n + l.length) cap) (n + l.length) (nums (xs ++ l)) ∧ w.grownBy w' (some g) := by
 by_cases hl : l = []
 ·subst hl
  rw [List.append_nil]
  cases A with
  | none => exact ⟨w, run_append_none w t ty 46 i ht hi g n cap c (by omega), hown, ⟨rfl, rfl, rfl, Nat.le_refl _, fun _ _ _ => rfl⟩⟩
  | some ad =>
   have := run_append_own_spare (P := P) w base t ty 46 i 1 ht hi hsize g n cap (nums xs) hown ad 0 c [] rfl (by simp) (by simp) (by omega)
   rwa [List.append_nil] at this
 ·obtain ⟨_, _, hc⟩ := Kd.reads_of_C (d := (0 : Int)) hC
  obtain ⟨ad, rfl, hd⟩ := hc (List.length_pos_iff.2 hl)
  rw [nums_append]
  refine run_append_own_spare (P := P) w base t ty 46 i 1 ht hi hsize g n cap (nums xs) hown ad l.length c (nums l) (by simp [nums]) (fun j u hj => ?_) (fun u hu => ?_) hroom
  ·have hjl : j < l.length := by
    rcases Nat.lt_or_ge j l.length with h | h
    ·exact h
    ·simp [nums, List.getElem?_eq_none h] at hj
   have h2 := hd j hjl
   have h3 : u = .int .u64 (l.getD j 0) := by simp [nums, hjl] at hj; rw [← hj]; simp [List.getD_eq_getElem?_getD, hjl]
   rw [h3]
   exact h2
  ·obtain ⟨x, _, rfl⟩ := List.mem_map.1 hu
   rfl
theorem wpList_append_spare {P : Program} (w : World) {ops : Array Oper} {rest : List Oper} {o : Oper} {a : Act} {Q : Exit → Act → World → Prop} (hgd : o.guard = none) (s x : Operand) (t : TypeId)
  (ho : o.op = .call { callee := .builtin .append, args := #[s, x], argTypes := #[t, t] })
  (base : Nat) (i : TypeInfo) (ht : P.underlying t = some (.slice 46)) (hi : P.info? 46 = some i) (hsize : i.size = 1)
  (g n cap : Nat) (xs : List Int) (hs : a.eval s = .slice (some ⟨g, 0, none⟩) n cap) (hown : w.ownsRow base 46 1 (.slice (some ⟨g, 0, none⟩) n cap) n (nums xs))
  (A : Option Addr) (c : Nat) (l : List Int) (hx : a.eval x = .slice A l.length c) (hC : Kd.C (Kd.int .u64) w A l.length l) (hroom : n + l.length ≤ cap)
  (h : ∀ w', w'.ownsRow base 46 1 (.slice (some ⟨g, 0, none⟩) (n + l.length) cap) (n + l.length) (nums (xs ++ l)) → w.grownBy w' (some g) → wpList P ops Q rest (a.put o.dst (.slice (some ⟨g, 0, none⟩) (n + l.length) cap)) w') : wpList P ops Q (o :: rest) a w := by
 refine wpList_plain hgd fun _ hK => ?_
 obtain ⟨w', hr, h2, h3⟩ := run_append_spare (P := P) w base t o.type i ht hi hsize g n cap xs hown A c l hC hroom
 unfold Oper.wp execOp
 simp only [ho, resolve, invoke, builtin, Sem.run_bind, Sem.run_pure, Result.andThen_ok, List.map_toArray, List.map_cons, List.map_nil, hs, hx, hr]
 exact hK _ _ (h w' h2 h3)
set_option maxHeartbeats 4000000 in
set_option maxRecDepth 100000 in
theorem lent_calls (A0 : Option Addr) (c0 : Nat) (l : List Int) (w : World) (hr0 : Kd.C (Kd.int .u64) w A0 l.length l) (hc0 : l.length ≤ c0) (hl : l.length ≤ 17592186044416) :
  Calls Try.prog 36 #[.slice A0 l.length c0] w fun ev w' => ∃ g, w.heap.size ≤ g ∧ ev = .returned (.slice (some ⟨g, 0, none⟩) l.length (l.length + 12)) ∧ Kd.C (Kd.int .u64) w' (some ⟨g, 0, none⟩) (l.length + 12) (l ++ marks 12) ∧ Below w.heap.size w w' := by
 have e0 : wrap64 ((l.length : Int) + 12) = (l.length : Int) + 12 := by unfold wrap64; omega
 have HR := Zb.mk hr0
 clear hr0
 obtain ⟨i0, hi0, hz0, hsz0, hby0⟩ := info_parts BB.info46
 go_enter Try.func36, Try.ntmps36
 go_wp2_with fail
 obtain ⟨w1, hr1, hown1, hg1⟩ := run_make_own (P := Try.prog) w w.heap.size 22 46 i0 (.int .u64 0) 1 Try.underlying22 hi0 hz0 hsz0 .i64 .i64 (l.length + 12) (by rw [hby0]; omega) (by simp [maxLen]; omega) (Nat.le_refl _)
 rw [show ((l.length : Int) + 12) = ((l.length + 12 : Nat) : Int) by omega, hr1]
 clear hr1
 have hb1 : Below w.heap.size w w1 := (Below.refl _ _).grown hg1 (Nat.le_refl _) (fun k h => by cases h)
 go_wp2_with ((with_reducible refine gate_builtin (b := .append) (xs := #[.tmp 9, .tmp 10]) rfl ?_); at_builtin; refine wpList_append_spare _ rfl _ _ 22 rfl w.heap.size i0 Try.underlying22 hi0 hsz0 w.heap.size 0 (l.length + 12) [] rfl hown1 A0 c0 l rfl (Kd.C_below HR.out hb1) (by omega) ?_; intro w2 hown2 hg2)
 have HO2 := Zb.mk hown2
 have HB2 := Zb.mk (hb1.grown hg2 hb1.size (fun k h => by cases h; exact Nat.le_refl _))
 clear hown1 hg1 hb1 hown2 hg2 HR
 rw [Nat.zero_add] at HO2
 go_loopg [3, 4] 13 (fun kq v3 v4 w' => ∃ i : Nat, (i + kq = 13 ∧ i ≤ 12) ∧ v4 = .int .i64 (i : Int) ∧ v3 = .slice (some ⟨w.heap.size, 0, none⟩) (l.length + i) (l.length + 12) ∧ Zb (w'.ownsRow w.heap.size 46 1 (.slice (some ⟨w.heap.size, 0, none⟩) (l.length + i) (l.length + 12)) (l.length + i) (nums (l ++ marks i))) ∧ Zb (Below w.heap.size w w'))
 case atStart => exact ⟨0, ⟨rfl, by decide⟩, rfl, rfl, by rw [show marks 0 = [] from rfl, List.append_nil]; exact HO2, HB2⟩
 case round =>
  clear HO2 HB2
  obtain ⟨i, hi, rfl, rfl, HO, HB⟩ := hrel
  cases gk with
  | zero => exact absurd hi (by omega)
  | succ k1 =>
   by_cases hi12 : i < 12
   ·have cc : decide ((i : Int) < 12) = true := decide_eq_true (by omega)
    have em : rkmark.f 1 (i : Int) = some (8000024 + (i : Int)) := by
     unfold rkmark.f
     rw [show wrap64 (1000003 * wrap64 (1 + 7)) = 8000024 from by decide +kernel, w64 (by clear e0; omega) (by clear e0; omega)]
    have eu : IntKind.u64.wrap (8000024 + (i : Int)) = 8000024 + (i : Int) := u64 (by omega) (by omega)
    have ei : wrap64 ((i : Int) + 1) = (i : Int) + 1 := w64 (by omega) (by omega)
    have EM := Zb.mk em
    clear em
    go_wp2_with (first | ((with_reducible refine Zp (f := 74) rfl ?_); refine ZB (some 18) rfl rfl Try.func74 (by kernel_rfl) rfl #[.int .i64 1, .int .i64 (i : Int)] rfl (by (try simp only [List.map_toArray, List.map_cons, List.map_nil]); first | done | rfl) ?_; (with_reducible refine (rkmark.calls 1 (i : Int) _ _ EM.out).mono ?_); rintro e w' ⟨rfl, ⟨nd, rfl⟩⟩; refine ⟨_, rfl, ?_⟩; have OA := ((HO.out.kept (w' := wr.drewN nd) (row := none) ⟨rfl, rfl, rfl, Nat.le_refl _, fun _ _ _ => rfl⟩ (.inr (fun h => by cases h))).alloc (.cells #[.int .u64 (8000024 + (i : Int))] 46))) | ((with_reducible refine gate_builtin (b := .append) (xs := #[.tmp 16, .tmp 20]) rfl ?_); at_builtin; refine wpList_append_spare _ rfl _ _ 22 rfl w.heap.size i0 Try.underlying22 hi0 hsz0 w.heap.size (l.length + i) (l.length + 12) (l ++ marks i) rfl OA (some ⟨wr.heap.size, 0, none⟩) 1 [8000024 + (i : Int)] rfl (Kd.C_of_reads (d := (0 : Int)) (h1 := fun _ => rfl) ⟨rfl, (show 1 ≤ 9223372036854775807 by omega), fun _ => ⟨_, rfl, fun j hj => by obtain rfl : j = 0 := Nat.lt_one_iff.1 hj; exact cell_one_new (wr.drewN nd) _ 46 0 _ rfl⟩⟩) (by simp; omega) ?_; intro w2 hown2 hg2))
    have em2 : nums (l ++ marks i ++ [8000024 + (i : Int)]) = nums (l ++ marks (i + 1)) := by rw [marks_succ, List.append_assoc]
    rw [em2] at hown2
    have HO3 := Zb.mk hown2
    have HB3 := Zb.mk ((Zc (Za HB.out nd) (.cells #[.int .u64 (8000024 + (i : Int))] 46)).grown hg2 (by have := HB.out.size; simp; omega) (fun k h => by cases h; exact Nat.le_refl _))
    clear hown2 hg2 OA em2
    go_roundg k1
    case measure => omega
    case rel => exact ⟨i + 1, ⟨by omega, by omega⟩, by rfl, by rfl, HO3, HB3⟩
   ·have hii : i = 12 := by omega
    subst hii
    have cc : decide ((12 : Int) < 12) = false := rfl
    go_wp2_with fail
    go_ret
    exact ⟨w.heap.size, Nat.le_refl _, rfl, own_C HO.out (by simp [marks_len]) (by omega), HB.out⟩
theorem C_set {w : World} {ad : Addr} {n : Nat} {xs : List Int} (h : Kd.C (Kd.int .u64) w (some ad) n xs) {p : Addr} (hp : ad.block ≠ p.block) (u : Value) : Kd.C (Kd.int .u64) (w.setCell p u) (some ad) n xs := by
 obtain ⟨h1, h2, h3⟩ := Kd.reads_of_C (d := (0 : Int)) h
 refine Kd.C_of_reads (d := (0 : Int)) (h1 := fun _ => rfl) ⟨h1, h2, fun hn => ?_⟩
 obtain ⟨a2, e2, hd⟩ := h3 hn
 cases e2
 exact ⟨_, rfl, fun j hj => (cell_far (a := ad.add j) (p := p) (by have e : (ad.add j).block = ad.block := (by unfold Addr.add; split <;> rfl); rw [e]; exact hp) _).trans (hd j hj)⟩
theorem C_front {w : World} {A : Option Addr} {xs ys : List Int} (h : Kd.C (Kd.int .u64) w A (xs ++ ys).length (xs ++ ys)) : Kd.C (Kd.int .u64) w A xs.length xs := by
 obtain ⟨h1, h2, h3⟩ := Kd.reads_of_C (d := (0 : Int)) h
 rw [List.length_append] at h2 h3
 refine Kd.C_of_reads (d := (0 : Int)) (h1 := fun _ => rfl) ⟨rfl, by omega, fun hn => ?_⟩
 obtain ⟨a2, e2, hd⟩ := h3 (by omega)
 refine ⟨a2, e2, fun j hj => (hd j (by omega)).trans ?_⟩
 simp [List.getD_eq_getElem?_getD, List.getElem?_append_left hj]
set_option maxHeartbeats 4000000 in
set_option maxRecDepth 100000 in
theorem lentInt_calls (n : Bool) (A0 : Option Addr) (c0 : Nat) (l : List Int) (w : World) (hr0 : Kd.C (Kd.int .u64) w A0 l.length l) (hc0 : l.length ≤ c0) (hl : l.length ≤ 17592186044416) :
  Calls Try.prog 11 #[.agg #[.bool n, .slice A0 l.length c0]] w fun ev w' => ∃ g, w.heap.size ≤ g ∧ ev = .returned (.agg #[.bool n, .slice (some ⟨g, 0, none⟩) l.length (l.length + 12)]) ∧ Kd.C (Kd.int .u64) w' (some ⟨g, 0, none⟩) (l.length + 12) (l ++ marks 12) ∧ Below w.heap.size w w' := by
 have HR := Zb.mk hr0
 clear hr0
 have hu24 := Try.underlying24
 have hne : w.heap.size + 1 ≠ w.heap.size := by omega
 go_enter Try.func11, Try.ntmps11
 go_wp2_with fail
 refine (lent_calls A0 c0 l _ (Kd.ZC (Kd.ZC HR.out _) _) hc0 hl).mono ?_
 rintro e w1 ⟨g, hg, rfl, hC, hb⟩
 have BX := Zn (Zf (blk_new w (Obj.cells #[Value.bool n, Value.slice A0 l.length c0] 24)) (Obj.cells #[Value.bool false, Value.slice none 0 0] 24)) hb
 have BR := Zn (blk_new (w.alloc (Obj.cells #[Value.bool n, Value.slice A0 l.length c0] 24)) (Obj.cells #[Value.bool false, Value.slice none 0 0] 24)) hb
 rw [show (w.alloc (Obj.cells #[Value.bool n, Value.slice A0 l.length c0] 24)).heap.size = w.heap.size + 1 by simp] at BR
 have hg2 : w.heap.size + 2 ≤ g := by simp at hg; omega
 have HB := Zb.mk ((Zc (Zc (Below.refl w.heap.size w) _) _).trans (hb.mono (by simp; omega)) : Below w.heap.size w w1)
 have HC := Zb.mk hC
 have BX' := Zb.mk BX
 have BR' := Zb.mk BR
 have hx0 : w1.cell? ⟨w.heap.size, 0, none⟩ = some (.bool n) := (Zk BX 0).trans rfl
 have hx1 : w1.cell? ⟨w.heap.size, 1, none⟩ = some (.slice A0 l.length c0) := (Zk BX 1).trans rfl
 have hr0 : w1.cell? ⟨w.heap.size + 1, 0, none⟩ = some (.bool false) := (Zk BR 0).trans rfl
 have hr1 : w1.cell? ⟨w.heap.size + 1, 1, none⟩ = some (.slice none 0 0) := (Zk BR 1).trans rfl
 have fx1 := Zj BX 1
 have fr0 := Zj BR 0
 have fr1 := Zj BR 1
 clear hg hb hC BX BR
 go_wp2_with fail
 refine bodyPost_ret (results_cell_row rfl _ _ (w.heap.size + 1) 24 #[.bool n, .slice (some ⟨g, 0, none⟩) l.length (l.length + 12)] (0, 0) _ rfl (by
  refine Zu (cs := #[.bool n, .slice none 0 0]) ?_ 1 _ rfl
  refine Zu (cs := #[.bool false, .slice none 0 0]) ?_ 0 _ rfl
  refine Zr ?_ hne _
  exact BR'.out) Try.underlying24 rfl (by kernel_rfl)) rfl ?_
 exact ⟨g, by omega, rfl, C_set (C_set (C_set HC.out (by show g ≠ w.heap.size; omega) _) (by show g ≠ w.heap.size + 1; omega) _) (by show g ≠ w.heap.size + 1; omega) _, Zh (Zh (Zh HB.out (Nat.le_refl _)) (by show w.heap.size ≤ w.heap.size + 1; omega)) (by show w.heap.size ≤ w.heap.size + 1; omega)⟩
end Go.Proofs.Ytbmddlldadbfnaa.BP
end
section
namespace Go.Proofs.Ytbmddlldadbfnaa.BP
open Go.RowKit Go.Proofs.Ytbmddlldadbfnaa.BA Go.Proofs.Ytbmddlldadbfnaa.BB Go.Proofs.YtbmddlldadbfnaaW.PrintWords Go.Proofs.YtbmddlldadbfnaaW.PrintLast Go.Proofs.YtbmddlldadbfnaaW.PrintMore
attribute [local go_sem] ZU ZS max_two min_two ZP ZO ZT ZR
set_option linter.unusedVariables false
set_option linter.unusedSimpArgs false
def rkKeptLimbs.l0 : Nat → List Int → List Int → Int → Option (Bool)
 | 0, _, _, _ => none
 | k + 1, x1, x5, x6 => if x6 < (x5.length : Int) then (if x6 < (x1.length : Int) then (if 0 ≤ x6 then (if ((rd x5 x6) = (rd x1 x6)) then (if x6 ≥ (x1.length : Int) then ((rkmark.f 1 (wrap64 (x6 - (x1.length : Int)))).bind fun t104 => (if ((rd x5 x6) = (IntKind.u64.wrap (t104))) then (rkKeptLimbs.l0 k x1 x5 (wrap64 (x6 + 1))) else (none))) else (rkKeptLimbs.l0 k x1 x5 (wrap64 (x6 + 1)))) else (none)) else (none)) else (if x6 ≥ (x1.length : Int) then (if 0 ≤ x6 then ((rkmark.f 1 (wrap64 (x6 - (x1.length : Int)))).bind fun t106 => (if ((rd x5 x6) = (IntKind.u64.wrap (t106))) then (rkKeptLimbs.l0 k x1 x5 (wrap64 (x6 + 1))) else (none))) else (none)) else (rkKeptLimbs.l0 k x1 x5 (wrap64 (x6 + 1))))) else (some true)
def rkKeptLimbs.T7 : Bool × List (List Nat × List Nat) := (true, [([], []), ([], []), ([1], [1]), ([0, 2], [0, 2]), ([3], [3]), ([4], [4]), ([4], [4]), ([5, 6, 4], [4, 5, 6]), ([7, 4], [4, 7]), ([4], [4]), ([4], [4]), ([9, 10, 4], [4, 9, 10]), ([11, 4], [4, 11]), ([8, 12, 4], [4, 8, 12]), ([13, 4], [4, 13]), ([4, 14], [4, 14]), ([15, 4], [15]), ([16], [16]), ([16], [16]), ([18, 16], [16, 18]), ([17, 19, 16], [16, 17, 19]), ([20, 16, 16], [16, 20]), ([21], [21]), ([21], [21]), ([22, 23, 21], [21, 22, 23]), ([24, 21], [21, 24]), ([21], [21]), ([21], [21]), ([27, 21], [21, 27]), ([26, 28, 21], [21, 26, 28]), ([29, 21, 21], [21, 29]), ([30, 21], [21, 30]), ([25, 31, 21], [21, 25, 31]), ([32, 21], [21, 32]), ([21, 33, 16], [16, 21, 33]), ([16, 34], [16, 34])])
def rkKeptLimbs.B7 : List Nat := [0, 0, 2, 7, 15, 31, 31, 127, 255, 31, 31, 1567, 3615, 8191, 16383, 32767, 65535, 131071, 131071, 393215, 1048575, 2097151, 4194303, 4194303, 16777215, 33554431, 4194303, 4194303, 138412031, 473956351, 1010827263, 2084569087, 4294967295, 8589934591, 17179869183, 34359738367]
theorem rkKeptLimbs.tab7 : rtab .any (opsOf Try.f44 7) = rkKeptLimbs.T7 := by kernel_rfl
theorem rkKeptLimbs.bits7 : waitsOk rkKeptLimbs.T7.2 rkKeptLimbs.B7 = true := by kernel_rfl
set_option maxHeartbeats 8000000 in
set_option maxRecDepth 100000 in
theorem kept_calls (k : Nat) (A0 : Option Addr) (l0 : List Int) (A1 : Option Addr) (c1 : Nat) (l1 : List Int) (r : Bool) (w : World) (hlen : l0.length = l1.length + 12) (hsm : l1.length ≤ 17592186044416) (hr0 : Kd.C (Kd.int .u64) w A0 l0.length l0) (hr1 : Kd.C (Kd.int .u64) w A1 l1.length l1) (hc1 : l1.length ≤ c1) (h : rkKeptLimbs.l0 k l1 l0 0 = some r) :
  Calls Try.prog 44 #[.slice A0 l1.length (l1.length + 12), .slice A1 l1.length c1] w fun e w' => e = .returned (.bool r) ∧ Below w.heap.size w w' := by
 have HR0 := Zb.mk hr0
 clear hr0
 have HR1 := Zb.mk hr1
 have HC1 := Zb.mk hc1
 clear hr1 hc1
 have HB := Zb.mk (Below.refl w.heap.size w)
 have H' := Zb.mk h
 clear h
 have e0 : wrap64 ((l1.length : Int) + 12) = (l1.length : Int) + 12 := by unfold wrap64; omega
 have HL := Zb.mk hlen
 clear hlen
 go_enter Try.func44, Try.ntmps44
 go_wp2_with fail
 rw [show (l1.length : Int) + 12 = (l0.length : Int) by rw [HL.out]; omega, ← HL.out]
 clear e0
 go_loopg [6] k (fun kq v6 w' => ∃ (x6_1 : Int), v6 = .int .i64 x6_1 ∧ Zb (rkKeptLimbs.l0 kq l1 l0 x6_1 = some r) ∧ Zb (kq ≤ k) ∧ Zb (Below w.heap.size w w'))
 case atStart => exact ⟨(0), (by first | rfl | (simp; done) | (simp [*]; done)), H', ⟨Nat.le_refl _⟩, ⟨by repeat (with_reducible first | exact HB.out | apply Zc | apply Za | apply Zd)⟩⟩
 case round =>
  clear H'
  try clear c1
  try clear p2
  try clear c3
  try clear c3b0
  try clear c3b1
  obtain ⟨x6_1, rfl, HA, HK1, HB⟩ := hrel
  cases gk with
  | zero => exact absurd HA.out (by simp [rkKeptLimbs.l0])
  | succ k1 =>
   have H := HA.out
   clear HA
   simp only [rkKeptLimbs.l0] at H
   by_cases c4 : x6_1 < (l0.length : Int)
   ·rw [if_pos c4] at H
    have c4b0 : decide (x6_1 < (l0.length : Int)) = true := decide_eq_true c4
    clear c4
    by_cases c5 : x6_1 < (l1.length : Int)
    ·rw [if_pos c5] at H
     have c5b0 : decide (x6_1 < (l1.length : Int)) = true := decide_eq_true c5
     clear c5
     by_cases c6 : 0 ≤ x6_1
     ·rw [if_pos c6] at H
      have c6b0 : decide (0 ≤ x6_1) = true := decide_eq_true c6
      clear c6
      by_cases c7 : ((rd l0 x6_1) = (rd l1 x6_1))
      ·rw [if_pos c7] at H
       have c7b0 : ((rd l0 x6_1) == (rd l1 x6_1)) = true := beq_iff_eq.mpr c7
       have c7b1 : ((rd l0 x6_1) != (rd l1 x6_1)) = false := bne_eq_false_iff_eq.mpr c7
       clear c7
       by_cases c8 : x6_1 ≥ (l1.length : Int)
       ·exact absurd c8 (by have := of_decide_eq_true c5b0; omega)
       ·rw [if_neg c8] at H
        have c8b0 : decide ((l1.length : Int) ≤ x6_1) = false := decide_eq_false c8
        clear c8
        have H' := Zb.mk H
        clear H
        try go_wp2
        have n0_ := Zb.mk (Zd HB.out)
        clear HB
        have HB := n0_
        clear n0_
        have p101 : 0 ≤ (x6_1 : Int) := of_decide_eq_true (by first | (with_reducible assumption) | assumption)
        have q101 : x6_1 < (l0.length : Int) := of_decide_eq_true (by first | (with_reducible assumption) | assumption)
        obtain ⟨ad101, e101, hx101_0⟩ := Kd.at_int HR0.out x6_1 p101 q101
        have hw101_0 := hx101_0
        cases e101
        replace hx101_0 := (HB.out.cell (World.block_lt_of_cell? w _ hx101_0)).trans hx101_0
        replace p101 := eq_true p101
        replace q101 := eq_true q101
        have p102 : 0 ≤ (x6_1 : Int) := of_decide_eq_true (by first | (with_reducible assumption) | assumption)
        have q102 : x6_1 < (l1.length : Int) := of_decide_eq_true (by first | (with_reducible assumption) | assumption)
        obtain ⟨ad102, e102, hx102_0⟩ := Kd.at_int HR1.out x6_1 p102 q102
        have hw102_0 := hx102_0
        cases e102
        replace hx102_0 := (HB.out.cell (World.block_lt_of_cell? w _ hx102_0)).trans hx102_0
        replace p102 := eq_true p102
        replace q102 := eq_true q102
        refine start_ (n := 36) (S := fun w' => w'.cell? (ad101.add (x6_1).toNat) = some (.int .u64 (rd l0 x6_1)) ∧ w'.cell? (ad102.add (x6_1).toNat) = some (.int .u64 (rd l1 x6_1))) (ds := []) #[false, false, false, false, false, false, false, false, false, false, false, false, false, false, false, false, false, false, false, false, false, false, false, false, false, false, false, false, false, false, false, false, false, false, false, false] (by kernel_rfl) rfl rfl ⟨((HB.out.cell (World.block_lt_of_cell? w _ hw101_0)).trans hw101_0), ((HB.out.cell (World.block_lt_of_cell? w _ hw102_0)).trans hw102_0)⟩ (fun hHeld => ?_); refine with_tabW rkKeptLimbs.tab7 rkKeptLimbs.bits7 (fun HT_ HW_ => ?_)
        generalize wr.drew = w12 at HB hx101_0 hx102_0 hHeld ⊢
        refine ZM (i := 0) (N := some 23) (v := ?_) (a' := ?_) #[true, false, false, false, false, false, false, false, false, false, false, false, false, false, false, false, false, false, false, false, false, false, false, false, false, false, false, false, false, false, false, false, false, false, false, false] rfl rfl (ZD HT_.out (by kernel_rfl)) (fun _ _ _ h => h) (Or.inl ⟨by rfl, ?_⟩) ?_ ?_
        rotate_left
        ·intro w'
         go_simp
         with_reducible rfl
        rotate_left
        ·simp only [Act.put, List.setIfInBounds_toArray, List.set_cons_zero, List.set_cons_succ, Zx, ZA]
         rfl
        refine ZM (i := 1) (N := some 24) (v := ?_) (a' := ?_) #[true, true, false, false, false, false, false, false, false, false, false, false, false, false, false, false, false, false, false, false, false, false, false, false, false, false, false, false, false, false, false, false, false, false, false, false] rfl rfl (ZD HT_.out (by kernel_rfl)) (fun _ _ _ h => h) (Or.inl ⟨by rfl, ?_⟩) ?_ ?_
        rotate_left
        ·intro w'
         go_simp
         with_reducible rfl
        rotate_left
        ·simp only [Act.put, List.setIfInBounds_toArray, List.set_cons_zero, List.set_cons_succ, Zx, ZA]
         rfl
        refine ZM (i := 2) (N := some 25) (v := ?_) (a' := ?_) #[true, true, true, false, false, false, false, false, false, false, false, false, false, false, false, false, false, false, false, false, false, false, false, false, false, false, false, false, false, false, false, false, false, false, false, false] rfl rfl (ZD HT_.out (by kernel_rfl)) (fun _ _ _ h => h) (Or.inl ⟨by rfl, ?_⟩) ?_ ?_
        rotate_left
        ·intro w'
         go_simp
         with_reducible rfl
        rotate_left
        ·simp only [Act.put, List.setIfInBounds_toArray, List.set_cons_zero, List.set_cons_succ, Zx, ZA]
         rfl
        refine ZM (i := 3) (N := some 26) (v := ?_) (a' := ?_) #[true, true, true, true, false, false, false, false, false, false, false, false, false, false, false, false, false, false, false, false, false, false, false, false, false, false, false, false, false, false, false, false, false, false, false, false] rfl rfl (ZD HT_.out (by kernel_rfl)) (fun _ _ _ h => h) (Or.inl ⟨by rfl, ?_⟩) ?_ ?_
        rotate_left
        ·intro w'
         go_simp
         with_reducible rfl
        rotate_left
        ·simp only [Act.put, List.setIfInBounds_toArray, List.set_cons_zero, List.set_cons_succ, Zx, ZA]
         rfl
        refine ZM (i := 4) (N := some 27) (v := ?_) (a' := ?_) #[true, true, true, true, true, false, false, false, false, false, false, false, false, false, false, false, false, false, false, false, false, false, false, false, false, false, false, false, false, false, false, false, false, false, false, false] rfl rfl (ZD HT_.out (by kernel_rfl)) (fun _ _ _ h => h) (Or.inl ⟨by rfl, ?_⟩) ?_ ?_
        rotate_left
        ·intro w'
         go_simp
         with_reducible rfl
        rotate_left
        ·simp only [Act.put, List.setIfInBounds_toArray, List.set_cons_zero, List.set_cons_succ, Zx, ZA]
         rfl
        refine ZM (i := 5) (N := some 28) (v := ?_) (a' := ?_) #[true, true, true, true, true, true, false, false, false, false, false, false, false, false, false, false, false, false, false, false, false, false, false, false, false, false, false, false, false, false, false, false, false, false, false, false] rfl rfl (ZD HT_.out (by kernel_rfl)) (fun _ _ _ h => h) (Or.inl ⟨by rfl, ?_⟩) ?_ ?_
        rotate_left
        ·intro w'
         go_simp
         with_reducible rfl
        rotate_left
        ·simp only [Act.put, List.setIfInBounds_toArray, List.set_cons_zero, List.set_cons_succ, Zx, ZA]
         rfl
        refine ZM (i := 6) (N := some 29) (v := ?_) (a' := ?_) #[true, true, true, true, true, true, true, false, false, false, false, false, false, false, false, false, false, false, false, false, false, false, false, false, false, false, false, false, false, false, false, false, false, false, false, false] rfl rfl (ZD HT_.out (by kernel_rfl)) (fun _ _ _ h => h) (Or.inl ⟨by rfl, ?_⟩) ?_ ?_
        rotate_left
        ·intro w'
         go_simp
         with_reducible rfl
        rotate_left
        ·simp only [Act.put, List.setIfInBounds_toArray, List.set_cons_zero, List.set_cons_succ, Zx, ZA]
         rfl
        refine ZM (i := 7) (N := some 30) (v := ?_) (a' := ?_) #[true, true, true, true, true, true, true, true, false, false, false, false, false, false, false, false, false, false, false, false, false, false, false, false, false, false, false, false, false, false, false, false, false, false, false, false] rfl rfl (ZD HT_.out (by kernel_rfl)) (fun _ _ _ h => h) (Or.inl ⟨by rfl, ?_⟩) ?_ ?_
        rotate_left
        ·intro w'
         go_simp
         with_reducible rfl
        rotate_left
        ·simp only [Act.put, List.setIfInBounds_toArray, List.set_cons_zero, List.set_cons_succ, Zx, ZA]
         rfl
        refine ZM (i := 9) (N := some 32) (v := ?_) (a' := ?_) #[true, true, true, true, true, true, true, true, false, true, false, false, false, false, false, false, false, false, false, false, false, false, false, false, false, false, false, false, false, false, false, false, false, false, false, false] rfl rfl (ZD HT_.out (by kernel_rfl)) (fun _ _ _ h => h) (Or.inl ⟨by rfl, ?_⟩) ?_ ?_
        rotate_left
        ·intro w'
         go_simp
         with_reducible rfl
        rotate_left
        ·simp only [Act.put, List.setIfInBounds_toArray, List.set_cons_zero, List.set_cons_succ, Zx, ZA]
         rfl
        refine ZM (i := 10) (N := some 33) (v := ?_) (a' := ?_) #[true, true, true, true, true, true, true, true, false, true, true, false, false, false, false, false, false, false, false, false, false, false, false, false, false, false, false, false, false, false, false, false, false, false, false, false] rfl rfl (ZD HT_.out (by kernel_rfl)) (fun _ _ _ h => h) (Or.inl ⟨by rfl, ?_⟩) ?_ ?_
        rotate_left
        ·intro w'
         go_simp
         with_reducible rfl
        rotate_left
        ·simp only [Act.put, List.setIfInBounds_toArray, List.set_cons_zero, List.set_cons_succ, Zx, ZA]
         rfl
        refine ZM (i := 11) (N := some 34) (v := ?_) (a' := ?_) #[true, true, true, true, true, true, true, true, false, true, true, true, false, false, false, false, false, false, false, false, false, false, false, false, false, false, false, false, false, false, false, false, false, false, false, false] rfl rfl (ZD HT_.out (by kernel_rfl)) (fun _ _ _ h => h) (Or.inl ⟨by rfl, ?_⟩) ?_ ?_
        rotate_left
        ·intro w'
         go_simp
         with_reducible rfl
        rotate_left
        ·simp only [Act.put, List.setIfInBounds_toArray, List.set_cons_zero, List.set_cons_succ, Zx, ZA]
         rfl
        refine take_ (i := 8) (N := some 31) (v := ?_) (a' := ?_) #[true, true, true, true, true, true, true, true, true, true, true, true, false, false, false, false, false, false, false, false, false, false, false, false, false, false, false, false, false, false, false, false, false, false, false, false] rfl rfl (take_ofW HT_.out HW_.out (by kernel_rfl)) (fun _ _ _ h => h) (Or.inl ⟨by rfl, ?_⟩) hHeld ?_ ?_
        rotate_left
        ·rintro w' ⟨s0, s1⟩
         go_simp
         with_reducible rfl
        rotate_left
        ·simp only [Act.put, List.setIfInBounds_toArray, List.set_cons_zero, List.set_cons_succ, Zx, ZA]
         rfl
        refine take_ (i := 12) (N := some 35) (v := ?_) (a' := ?_) #[true, true, true, true, true, true, true, true, true, true, true, true, true, false, false, false, false, false, false, false, false, false, false, false, false, false, false, false, false, false, false, false, false, false, false, false] rfl rfl (take_ofW HT_.out HW_.out (by kernel_rfl)) (fun _ _ _ h => h) (Or.inl ⟨by rfl, ?_⟩) hHeld ?_ ?_
        rotate_left
        ·rintro w' ⟨s0, s1⟩
         go_simp
         with_reducible rfl
        rotate_left
        ·simp only [Act.put, List.setIfInBounds_toArray, List.set_cons_zero, List.set_cons_succ, Zx, ZA]
         rfl
        refine ZM (i := 13) (N := some 36) (v := ?_) (a' := ?_) #[true, true, true, true, true, true, true, true, true, true, true, true, true, true, false, false, false, false, false, false, false, false, false, false, false, false, false, false, false, false, false, false, false, false, false, false] rfl rfl (ZD HT_.out (by kernel_rfl)) (fun _ _ _ h => h) (Or.inl ⟨by rfl, ?_⟩) ?_ ?_
        rotate_left
        ·intro w'
         go_simp
         with_reducible rfl
        rotate_left
        ·simp only [Act.put, List.setIfInBounds_toArray, List.set_cons_zero, List.set_cons_succ, Zx, ZA]
         rfl
        refine ZM (i := 14) (N := some 37) (v := ?_) (a' := ?_) #[true, true, true, true, true, true, true, true, true, true, true, true, true, true, true, false, false, false, false, false, false, false, false, false, false, false, false, false, false, false, false, false, false, false, false, false] rfl rfl (ZD HT_.out (by kernel_rfl)) (fun _ _ _ h => h) (Or.inl ⟨by rfl, ?_⟩) ?_ ?_
        rotate_left
        ·intro w'
         go_simp
         with_reducible rfl
        rotate_left
        ·simp only [Act.put, List.setIfInBounds_toArray, List.set_cons_zero, List.set_cons_succ, Zx, ZA]
         rfl
        refine ZM (i := 15) (N := some 38) (v := ?_) (a' := ?_) #[true, true, true, true, true, true, true, true, true, true, true, true, true, true, true, true, false, false, false, false, false, false, false, false, false, false, false, false, false, false, false, false, false, false, false, false] rfl rfl (ZD HT_.out (by kernel_rfl)) (fun _ _ _ h => h) (Or.inl ⟨by rfl, ?_⟩) ?_ ?_
        rotate_left
        ·intro w'
         go_simp
         with_reducible rfl
        rotate_left
        ·simp only [Act.put, List.setIfInBounds_toArray, List.set_cons_zero, List.set_cons_succ, Zx, ZA]
         rfl
        refine ZM (i := 16) (N := some 39) (v := ?_) (a' := ?_) #[true, true, true, true, true, true, true, true, true, true, true, true, true, true, true, true, true, false, false, false, false, false, false, false, false, false, false, false, false, false, false, false, false, false, false, false] rfl rfl (ZD HT_.out (by kernel_rfl)) (fun _ _ _ h => h) (Or.inl ⟨by rfl, ?_⟩) ?_ ?_
        rotate_left
        ·intro w'
         go_simp
         with_reducible rfl
        rotate_left
        ·simp only [Act.put, List.setIfInBounds_toArray, List.set_cons_zero, List.set_cons_succ, Zx, ZA]
         rfl
        refine ZM (i := 17) (N := some 40) (v := ?_) (a' := ?_) #[true, true, true, true, true, true, true, true, true, true, true, true, true, true, true, true, true, true, false, false, false, false, false, false, false, false, false, false, false, false, false, false, false, false, false, false] rfl rfl (ZD HT_.out (by kernel_rfl)) (fun _ _ _ h => h) (Or.inl ⟨by rfl, ?_⟩) ?_ ?_
        rotate_left
        ·intro w'
         go_simp
         with_reducible rfl
        rotate_left
        ·simp only [Act.put, List.setIfInBounds_toArray, List.set_cons_zero, List.set_cons_succ, Zx, ZA]
         rfl
        refine ZM (i := 18) (N := some 41) (v := ?_) (a' := ?_) #[true, true, true, true, true, true, true, true, true, true, true, true, true, true, true, true, true, true, true, false, false, false, false, false, false, false, false, false, false, false, false, false, false, false, false, false] rfl rfl (ZD HT_.out (by kernel_rfl)) (fun _ _ _ h => h) (Or.inl ⟨by rfl, ?_⟩) ?_ ?_
        rotate_left
        ·intro w'
         go_simp
         with_reducible rfl
        rotate_left
        ·simp only [Act.put, List.setIfInBounds_toArray, List.set_cons_zero, List.set_cons_succ, Zx, ZA]
         rfl
        refine ZM (i := 19) (N := some 42) (v := ?_) (a' := ?_) #[true, true, true, true, true, true, true, true, true, true, true, true, true, true, true, true, true, true, true, true, false, false, false, false, false, false, false, false, false, false, false, false, false, false, false, false] rfl rfl (ZD HT_.out (by kernel_rfl)) (fun _ _ _ h => h) (Or.inl ⟨by rfl, ?_⟩) ?_ ?_
        rotate_left
        ·intro w'
         go_simp
         with_reducible rfl
        rotate_left
        ·simp only [Act.put, List.setIfInBounds_toArray, List.set_cons_zero, List.set_cons_succ, Zx, ZA]
         rfl
        refine ZM (i := 20) (N := some 43) (v := ?_) (a' := ?_) #[true, true, true, true, true, true, true, true, true, true, true, true, true, true, true, true, true, true, true, true, true, false, false, false, false, false, false, false, false, false, false, false, false, false, false, false] rfl rfl (ZD HT_.out (by kernel_rfl)) (fun _ _ _ h => h) (Or.inl ⟨by rfl, ?_⟩) ?_ ?_
        rotate_left
        ·intro w'
         go_simp
         with_reducible rfl
        rotate_left
        ·simp only [Act.put, List.setIfInBounds_toArray, List.set_cons_zero, List.set_cons_succ, Zx, ZA]
         rfl
        refine ZM (i := 21) (N := some 44) (v := ?_) (a' := ?_) #[true, true, true, true, true, true, true, true, true, true, true, true, true, true, true, true, true, true, true, true, true, true, false, false, false, false, false, false, false, false, false, false, false, false, false, false] rfl rfl (ZD HT_.out (by kernel_rfl)) (fun _ _ _ h => h) (Or.inl ⟨by rfl, ?_⟩) ?_ ?_
        rotate_left
        ·intro w'
         go_simp
         with_reducible rfl
        rotate_left
        ·simp only [Act.put, List.setIfInBounds_toArray, List.set_cons_zero, List.set_cons_succ, Zx, ZA]
         rfl
        refine ZM (i := 22) (N := some 45) (v := undef) (a' := ?_) #[true, true, true, true, true, true, true, true, true, true, true, true, true, true, true, true, true, true, true, true, true, true, true, false, false, false, false, false, false, false, false, false, false, false, false, false] rfl rfl (ZD HT_.out (by kernel_rfl)) (fun _ _ _ h => h) (Or.inr ⟨by rfl, rfl⟩) ?_ ?_
        rotate_left
        ·simp only [Act.put, List.setIfInBounds_toArray, List.set_cons_zero, List.set_cons_succ, Zx, ZA]
         rfl
        refine ZM (i := 23) (N := some 46) (v := undef) (a' := ?_) #[true, true, true, true, true, true, true, true, true, true, true, true, true, true, true, true, true, true, true, true, true, true, true, true, false, false, false, false, false, false, false, false, false, false, false, false] rfl rfl (ZD HT_.out (by kernel_rfl)) (fun _ _ _ h => h) (Or.inr ⟨by rfl, rfl⟩) ?_ ?_
        rotate_left
        ·simp only [Act.put, List.setIfInBounds_toArray, List.set_cons_zero, List.set_cons_succ, Zx, ZA]
         rfl
        refine ZM (i := 24) (N := some 47) (v := undef) (a' := ?_) #[true, true, true, true, true, true, true, true, true, true, true, true, true, true, true, true, true, true, true, true, true, true, true, true, true, false, false, false, false, false, false, false, false, false, false, false] rfl rfl (ZD HT_.out (by kernel_rfl)) (fun _ _ _ h => h) (Or.inr ⟨by rfl, rfl⟩) ?_ ?_
        rotate_left
        ·simp only [Act.put, List.setIfInBounds_toArray, List.set_cons_zero, List.set_cons_succ, Zx, ZA]
         rfl
        refine ZM (i := 25) (N := some 48) (v := undef) (a' := ?_) #[true, true, true, true, true, true, true, true, true, true, true, true, true, true, true, true, true, true, true, true, true, true, true, true, true, true, false, false, false, false, false, false, false, false, false, false] rfl rfl (ZD HT_.out (by kernel_rfl)) (fun _ _ _ h => h) (Or.inr ⟨by rfl, rfl⟩) ?_ ?_
        rotate_left
        ·simp only [Act.put, List.setIfInBounds_toArray, List.set_cons_zero, List.set_cons_succ, Zx, ZA]
         rfl
        refine ZM (i := 26) (N := some 49) (v := undef) (a' := ?_) #[true, true, true, true, true, true, true, true, true, true, true, true, true, true, true, true, true, true, true, true, true, true, true, true, true, true, true, false, false, false, false, false, false, false, false, false] rfl rfl (ZD HT_.out (by kernel_rfl)) (fun _ _ _ h => h) (Or.inr ⟨by rfl, rfl⟩) ?_ ?_
        rotate_left
        ·simp only [Act.put, List.setIfInBounds_toArray, List.set_cons_zero, List.set_cons_succ, Zx, ZA]
         rfl
        refine ZM (i := 27) (N := some 50) (v := undef) (a' := ?_) #[true, true, true, true, true, true, true, true, true, true, true, true, true, true, true, true, true, true, true, true, true, true, true, true, true, true, true, true, false, false, false, false, false, false, false, false] rfl rfl (ZD HT_.out (by kernel_rfl)) (fun _ _ _ h => h) (Or.inr ⟨by rfl, rfl⟩) ?_ ?_
        rotate_left
        ·simp only [Act.put, List.setIfInBounds_toArray, List.set_cons_zero, List.set_cons_succ, Zx, ZA]
         rfl
        refine ZM (i := 28) (N := some 51) (v := undef) (a' := ?_) #[true, true, true, true, true, true, true, true, true, true, true, true, true, true, true, true, true, true, true, true, true, true, true, true, true, true, true, true, true, false, false, false, false, false, false, false] rfl rfl (ZD HT_.out (by kernel_rfl)) (fun _ _ _ h => h) (Or.inr ⟨by rfl, rfl⟩) ?_ ?_
        rotate_left
        ·simp only [Act.put, List.setIfInBounds_toArray, List.set_cons_zero, List.set_cons_succ, Zx, ZA]
         rfl
        refine ZM (i := 29) (N := some 52) (v := undef) (a' := ?_) #[true, true, true, true, true, true, true, true, true, true, true, true, true, true, true, true, true, true, true, true, true, true, true, true, true, true, true, true, true, true, false, false, false, false, false, false] rfl rfl (ZD HT_.out (by kernel_rfl)) (fun _ _ _ h => h) (Or.inr ⟨by rfl, rfl⟩) ?_ ?_
        rotate_left
        ·simp only [Act.put, List.setIfInBounds_toArray, List.set_cons_zero, List.set_cons_succ, Zx, ZA]
         rfl
        refine ZM (i := 30) (N := some 53) (v := undef) (a' := ?_) #[true, true, true, true, true, true, true, true, true, true, true, true, true, true, true, true, true, true, true, true, true, true, true, true, true, true, true, true, true, true, true, false, false, false, false, false] rfl rfl (ZD HT_.out (by kernel_rfl)) (fun _ _ _ h => h) (Or.inr ⟨by rfl, rfl⟩) ?_ ?_
        rotate_left
        ·simp only [Act.put, List.setIfInBounds_toArray, List.set_cons_zero, List.set_cons_succ, Zx, ZA]
         rfl
        refine ZM (i := 31) (N := some 54) (v := undef) (a' := ?_) #[true, true, true, true, true, true, true, true, true, true, true, true, true, true, true, true, true, true, true, true, true, true, true, true, true, true, true, true, true, true, true, true, false, false, false, false] rfl rfl (ZD HT_.out (by kernel_rfl)) (fun _ _ _ h => h) (Or.inr ⟨by rfl, rfl⟩) ?_ ?_
        rotate_left
        ·simp only [Act.put, List.setIfInBounds_toArray, List.set_cons_zero, List.set_cons_succ, Zx, ZA]
         rfl
        refine ZM (i := 32) (N := some 55) (v := undef) (a' := ?_) #[true, true, true, true, true, true, true, true, true, true, true, true, true, true, true, true, true, true, true, true, true, true, true, true, true, true, true, true, true, true, true, true, true, false, false, false] rfl rfl (ZD HT_.out (by kernel_rfl)) (fun _ _ _ h => h) (Or.inr ⟨by rfl, rfl⟩) ?_ ?_
        rotate_left
        ·simp only [Act.put, List.setIfInBounds_toArray, List.set_cons_zero, List.set_cons_succ, Zx, ZA]
         rfl
        refine ZM (i := 33) (N := some 56) (v := undef) (a' := ?_) #[true, true, true, true, true, true, true, true, true, true, true, true, true, true, true, true, true, true, true, true, true, true, true, true, true, true, true, true, true, true, true, true, true, true, false, false] rfl rfl (ZD HT_.out (by kernel_rfl)) (fun _ _ _ h => h) (Or.inr ⟨by rfl, rfl⟩) ?_ ?_
        rotate_left
        ·simp only [Act.put, List.setIfInBounds_toArray, List.set_cons_zero, List.set_cons_succ, Zx, ZA]
         rfl
        refine ZM (i := 34) (N := some 57) (v := ?_) (a' := ?_) #[true, true, true, true, true, true, true, true, true, true, true, true, true, true, true, true, true, true, true, true, true, true, true, true, true, true, true, true, true, true, true, true, true, true, true, false] rfl rfl (ZD HT_.out (by kernel_rfl)) (fun _ _ _ h => h) (Or.inl ⟨by rfl, ?_⟩) ?_ ?_
        rotate_left
        ·intro w'
         go_simp
         with_reducible rfl
        rotate_left
        ·simp only [Act.put, List.setIfInBounds_toArray, List.set_cons_zero, List.set_cons_succ, Zx, ZA]
         rfl
        refine ZM (i := 35) (N := some 58) (v := ?_) (a' := ?_) #[true, true, true, true, true, true, true, true, true, true, true, true, true, true, true, true, true, true, true, true, true, true, true, true, true, true, true, true, true, true, true, true, true, true, true, true] rfl rfl (ZD HT_.out (by kernel_rfl)) (fun _ _ _ h => h) (Or.inl ⟨by rfl, ?_⟩) ?_ ?_
        rotate_left
        ·intro w'
         go_simp
         with_reducible rfl
        rotate_left
        ·simp only [Act.put, List.setIfInBounds_toArray, List.set_cons_zero, List.set_cons_succ, Zx, ZA]
         rfl
        refine done_ (done_of HT_.out (by kernel_rfl)) ?_
        try go_wp2
        go_roundg k1
        case measure => have := HK1.out; omega
        case rel => exact ⟨(wrap64 (x6_1 + 1)), (by first | rfl | (simp; done) | (simp [*]; done)), H', ⟨by have := HK1.out; omega⟩, ⟨by repeat (with_reducible first | exact HB.out | apply Zc | apply Za | apply Zd)⟩⟩
      ·rw [if_neg c7] at H
       exact absurd H (by simp)
     ·rw [if_neg c6] at H
      exact absurd H (by simp)
    ·rw [if_neg c5] at H
     have c5b0 : decide (x6_1 < (l1.length : Int)) = false := decide_eq_false c5
     clear c5
     by_cases c13 : x6_1 ≥ (l1.length : Int)
     ·rw [if_pos c13] at H
      have c13b0 : decide ((l1.length : Int) ≤ x6_1) = true := decide_eq_true c13
      clear c13
      by_cases c14 : 0 ≤ x6_1
      ·rw [if_pos c14] at H
       have c14b0 : decide (0 ≤ x6_1) = true := decide_eq_true c14
       clear c14
       replace H := Option.bind_eq_some_iff.mp H
       obtain ⟨t106, A150, H⟩ := H
       replace H : (if ((rd l0 x6_1) = (IntKind.u64.wrap (t106))) then (rkKeptLimbs.l0 k1 l1 l0 (wrap64 (x6_1 + 1))) else (none)) = some r := H
       have A15 := Zb.mk A150
       clear A150
       by_cases c16 : ((rd l0 x6_1) = (IntKind.u64.wrap (t106)))
       ·rw [if_pos c16] at H
        have c16b0 : ((rd l0 x6_1) == (IntKind.u64.wrap (t106))) = true := beq_iff_eq.mpr c16
        have c16b1 : ((rd l0 x6_1) != (IntKind.u64.wrap (t106))) = false := bne_eq_false_iff_eq.mpr c16
        clear c16
        have H' := Zb.mk H
        clear H
        try go_wp2
        have n0_ := Zb.mk (Zd HB.out)
        clear HB
        have HB := n0_
        clear n0_
        have p105 : 0 ≤ (x6_1 : Int) := of_decide_eq_true (by first | (with_reducible assumption) | assumption)
        have q105 : x6_1 < (l0.length : Int) := of_decide_eq_true (by first | (with_reducible assumption) | assumption)
        obtain ⟨ad105, e105, hx105_0⟩ := Kd.at_int HR0.out x6_1 p105 q105
        have hw105_0 := hx105_0
        cases e105
        replace hx105_0 := (HB.out.cell (World.block_lt_of_cell? w _ hx105_0)).trans hx105_0
        replace p105 := eq_true p105
        replace q105 := eq_true q105
        refine start_ (n := 36) (S := fun w' => w'.cell? (ad105.add (x6_1).toNat) = some (.int .u64 (rd l0 x6_1))) (ds := []) #[false, false, false, false, false, false, false, false, false, false, false, false, false, false, false, false, false, false, false, false, false, false, false, false, false, false, false, false, false, false, false, false, false, false, false, false] (by kernel_rfl) rfl rfl (((HB.out.cell (World.block_lt_of_cell? w _ hw105_0)).trans hw105_0)) (fun hHeld => ?_); refine with_tabW rkKeptLimbs.tab7 rkKeptLimbs.bits7 (fun HT_ HW_ => ?_)
        generalize wr.drew = w17 at HB hx105_0 hHeld ⊢
        refine ZM (i := 0) (N := some 23) (v := ?_) (a' := ?_) #[true, false, false, false, false, false, false, false, false, false, false, false, false, false, false, false, false, false, false, false, false, false, false, false, false, false, false, false, false, false, false, false, false, false, false, false] rfl rfl (ZD HT_.out (by kernel_rfl)) (fun _ _ _ h => h) (Or.inl ⟨by rfl, ?_⟩) ?_ ?_
        rotate_left
        ·intro w'
         go_simp
         with_reducible rfl
        rotate_left
        ·simp only [Act.put, List.setIfInBounds_toArray, List.set_cons_zero, List.set_cons_succ, Zx, ZA]
         rfl
        refine ZM (i := 1) (N := some 24) (v := ?_) (a' := ?_) #[true, true, false, false, false, false, false, false, false, false, false, false, false, false, false, false, false, false, false, false, false, false, false, false, false, false, false, false, false, false, false, false, false, false, false, false] rfl rfl (ZD HT_.out (by kernel_rfl)) (fun _ _ _ h => h) (Or.inl ⟨by rfl, ?_⟩) ?_ ?_
        rotate_left
        ·intro w'
         go_simp
         with_reducible rfl
        rotate_left
        ·simp only [Act.put, List.setIfInBounds_toArray, List.set_cons_zero, List.set_cons_succ, Zx, ZA]
         rfl
        refine ZM (i := 2) (N := some 25) (v := ?_) (a' := ?_) #[true, true, true, false, false, false, false, false, false, false, false, false, false, false, false, false, false, false, false, false, false, false, false, false, false, false, false, false, false, false, false, false, false, false, false, false] rfl rfl (ZD HT_.out (by kernel_rfl)) (fun _ _ _ h => h) (Or.inl ⟨by rfl, ?_⟩) ?_ ?_
        rotate_left
        ·intro w'
         go_simp
         with_reducible rfl
        rotate_left
        ·simp only [Act.put, List.setIfInBounds_toArray, List.set_cons_zero, List.set_cons_succ, Zx, ZA]
         rfl
        refine ZM (i := 3) (N := some 26) (v := ?_) (a' := ?_) #[true, true, true, true, false, false, false, false, false, false, false, false, false, false, false, false, false, false, false, false, false, false, false, false, false, false, false, false, false, false, false, false, false, false, false, false] rfl rfl (ZD HT_.out (by kernel_rfl)) (fun _ _ _ h => h) (Or.inl ⟨by rfl, ?_⟩) ?_ ?_
        rotate_left
        ·intro w'
         go_simp
         with_reducible rfl
        rotate_left
        ·simp only [Act.put, List.setIfInBounds_toArray, List.set_cons_zero, List.set_cons_succ, Zx, ZA]
         rfl
        refine ZM (i := 4) (N := some 27) (v := ?_) (a' := ?_) #[true, true, true, true, true, false, false, false, false, false, false, false, false, false, false, false, false, false, false, false, false, false, false, false, false, false, false, false, false, false, false, false, false, false, false, false] rfl rfl (ZD HT_.out (by kernel_rfl)) (fun _ _ _ h => h) (Or.inl ⟨by rfl, ?_⟩) ?_ ?_
        rotate_left
        ·intro w'
         go_simp
         with_reducible rfl
        rotate_left
        ·simp only [Act.put, List.setIfInBounds_toArray, List.set_cons_zero, List.set_cons_succ, Zx, ZA]
         rfl
        refine ZM (i := 5) (N := some 28) (v := undef) (a' := ?_) #[true, true, true, true, true, true, false, false, false, false, false, false, false, false, false, false, false, false, false, false, false, false, false, false, false, false, false, false, false, false, false, false, false, false, false, false] rfl rfl (ZD HT_.out (by kernel_rfl)) (fun _ _ _ h => h) (Or.inr ⟨by rfl, rfl⟩) ?_ ?_
        rotate_left
        ·simp only [Act.put, List.setIfInBounds_toArray, List.set_cons_zero, List.set_cons_succ, Zx, ZA]
         rfl
        refine ZM (i := 6) (N := some 29) (v := undef) (a' := ?_) #[true, true, true, true, true, true, true, false, false, false, false, false, false, false, false, false, false, false, false, false, false, false, false, false, false, false, false, false, false, false, false, false, false, false, false, false] rfl rfl (ZD HT_.out (by kernel_rfl)) (fun _ _ _ h => h) (Or.inr ⟨by rfl, rfl⟩) ?_ ?_
        rotate_left
        ·simp only [Act.put, List.setIfInBounds_toArray, List.set_cons_zero, List.set_cons_succ, Zx, ZA]
         rfl
        refine ZM (i := 7) (N := some 30) (v := undef) (a' := ?_) #[true, true, true, true, true, true, true, true, false, false, false, false, false, false, false, false, false, false, false, false, false, false, false, false, false, false, false, false, false, false, false, false, false, false, false, false] rfl rfl (ZD HT_.out (by kernel_rfl)) (fun _ _ _ h => h) (Or.inr ⟨by rfl, rfl⟩) ?_ ?_
        rotate_left
        ·simp only [Act.put, List.setIfInBounds_toArray, List.set_cons_zero, List.set_cons_succ, Zx, ZA]
         rfl
        refine ZM (i := 8) (N := some 31) (v := undef) (a' := ?_) #[true, true, true, true, true, true, true, true, true, false, false, false, false, false, false, false, false, false, false, false, false, false, false, false, false, false, false, false, false, false, false, false, false, false, false, false] rfl rfl (ZD HT_.out (by kernel_rfl)) (fun _ _ _ h => h) (Or.inr ⟨by rfl, rfl⟩) ?_ ?_
        rotate_left
        ·simp only [Act.put, List.setIfInBounds_toArray, List.set_cons_zero, List.set_cons_succ, Zx, ZA]
         rfl
        refine ZM (i := 9) (N := some 32) (v := undef) (a' := ?_) #[true, true, true, true, true, true, true, true, true, true, false, false, false, false, false, false, false, false, false, false, false, false, false, false, false, false, false, false, false, false, false, false, false, false, false, false] rfl rfl (ZD HT_.out (by kernel_rfl)) (fun _ _ _ h => h) (Or.inr ⟨by rfl, rfl⟩) ?_ ?_
        rotate_left
        ·simp only [Act.put, List.setIfInBounds_toArray, List.set_cons_zero, List.set_cons_succ, Zx, ZA]
         rfl
        refine ZM (i := 10) (N := some 33) (v := undef) (a' := ?_) #[true, true, true, true, true, true, true, true, true, true, true, false, false, false, false, false, false, false, false, false, false, false, false, false, false, false, false, false, false, false, false, false, false, false, false, false] rfl rfl (ZD HT_.out (by kernel_rfl)) (fun _ _ _ h => h) (Or.inr ⟨by rfl, rfl⟩) ?_ ?_
        rotate_left
        ·simp only [Act.put, List.setIfInBounds_toArray, List.set_cons_zero, List.set_cons_succ, Zx, ZA]
         rfl
        refine ZM (i := 11) (N := some 34) (v := undef) (a' := ?_) #[true, true, true, true, true, true, true, true, true, true, true, true, false, false, false, false, false, false, false, false, false, false, false, false, false, false, false, false, false, false, false, false, false, false, false, false] rfl rfl (ZD HT_.out (by kernel_rfl)) (fun _ _ _ h => h) (Or.inr ⟨by rfl, rfl⟩) ?_ ?_
        rotate_left
        ·simp only [Act.put, List.setIfInBounds_toArray, List.set_cons_zero, List.set_cons_succ, Zx, ZA]
         rfl
        refine ZM (i := 12) (N := some 35) (v := undef) (a' := ?_) #[true, true, true, true, true, true, true, true, true, true, true, true, true, false, false, false, false, false, false, false, false, false, false, false, false, false, false, false, false, false, false, false, false, false, false, false] rfl rfl (ZD HT_.out (by kernel_rfl)) (fun _ _ _ h => h) (Or.inr ⟨by rfl, rfl⟩) ?_ ?_
        rotate_left
        ·simp only [Act.put, List.setIfInBounds_toArray, List.set_cons_zero, List.set_cons_succ, Zx, ZA]
         rfl
        refine ZM (i := 13) (N := some 36) (v := undef) (a' := ?_) #[true, true, true, true, true, true, true, true, true, true, true, true, true, true, false, false, false, false, false, false, false, false, false, false, false, false, false, false, false, false, false, false, false, false, false, false] rfl rfl (ZD HT_.out (by kernel_rfl)) (fun _ _ _ h => h) (Or.inr ⟨by rfl, rfl⟩) ?_ ?_
        rotate_left
        ·simp only [Act.put, List.setIfInBounds_toArray, List.set_cons_zero, List.set_cons_succ, Zx, ZA]
         rfl
        refine ZM (i := 14) (N := some 37) (v := undef) (a' := ?_) #[true, true, true, true, true, true, true, true, true, true, true, true, true, true, true, false, false, false, false, false, false, false, false, false, false, false, false, false, false, false, false, false, false, false, false, false] rfl rfl (ZD HT_.out (by kernel_rfl)) (fun _ _ _ h => h) (Or.inr ⟨by rfl, rfl⟩) ?_ ?_
        rotate_left
        ·simp only [Act.put, List.setIfInBounds_toArray, List.set_cons_zero, List.set_cons_succ, Zx, ZA]
         rfl
        refine ZM (i := 15) (N := some 38) (v := ?_) (a' := ?_) #[true, true, true, true, true, true, true, true, true, true, true, true, true, true, true, true, false, false, false, false, false, false, false, false, false, false, false, false, false, false, false, false, false, false, false, false] rfl rfl (ZD HT_.out (by kernel_rfl)) (fun _ _ _ h => h) (Or.inl ⟨by rfl, ?_⟩) ?_ ?_
        rotate_left
        ·intro w'
         go_simp
         with_reducible rfl
        rotate_left
        ·simp only [Act.put, List.setIfInBounds_toArray, List.set_cons_zero, List.set_cons_succ, Zx, ZA]
         rfl
        refine ZM (i := 16) (N := some 39) (v := ?_) (a' := ?_) #[true, true, true, true, true, true, true, true, true, true, true, true, true, true, true, true, true, false, false, false, false, false, false, false, false, false, false, false, false, false, false, false, false, false, false, false] rfl rfl (ZD HT_.out (by kernel_rfl)) (fun _ _ _ h => h) (Or.inl ⟨by rfl, ?_⟩) ?_ ?_
        rotate_left
        ·intro w'
         go_simp
         with_reducible rfl
        rotate_left
        ·simp only [Act.put, List.setIfInBounds_toArray, List.set_cons_zero, List.set_cons_succ, Zx, ZA]
         rfl
        refine ZM (i := 17) (N := some 40) (v := ?_) (a' := ?_) #[true, true, true, true, true, true, true, true, true, true, true, true, true, true, true, true, true, true, false, false, false, false, false, false, false, false, false, false, false, false, false, false, false, false, false, false] rfl rfl (ZD HT_.out (by kernel_rfl)) (fun _ _ _ h => h) (Or.inl ⟨by rfl, ?_⟩) ?_ ?_
        rotate_left
        ·intro w'
         go_simp
         with_reducible rfl
        rotate_left
        ·simp only [Act.put, List.setIfInBounds_toArray, List.set_cons_zero, List.set_cons_succ, Zx, ZA]
         rfl
        refine ZM (i := 18) (N := some 41) (v := ?_) (a' := ?_) #[true, true, true, true, true, true, true, true, true, true, true, true, true, true, true, true, true, true, true, false, false, false, false, false, false, false, false, false, false, false, false, false, false, false, false, false] rfl rfl (ZD HT_.out (by kernel_rfl)) (fun _ _ _ h => h) (Or.inl ⟨by rfl, ?_⟩) ?_ ?_
        rotate_left
        ·intro w'
         go_simp
         with_reducible rfl
        rotate_left
        ·simp only [Act.put, List.setIfInBounds_toArray, List.set_cons_zero, List.set_cons_succ, Zx, ZA]
         rfl
        refine ZM (i := 19) (N := some 42) (v := ?_) (a' := ?_) #[true, true, true, true, true, true, true, true, true, true, true, true, true, true, true, true, true, true, true, true, false, false, false, false, false, false, false, false, false, false, false, false, false, false, false, false] rfl rfl (ZD HT_.out (by kernel_rfl)) (fun _ _ _ h => h) (Or.inl ⟨by rfl, ?_⟩) ?_ ?_
        rotate_left
        ·intro w'
         go_simp
         with_reducible rfl
        rotate_left
        ·simp only [Act.put, List.setIfInBounds_toArray, List.set_cons_zero, List.set_cons_succ, Zx, ZA]
         rfl
        refine ZM (i := 20) (N := some 43) (v := ?_) (a' := ?_) #[true, true, true, true, true, true, true, true, true, true, true, true, true, true, true, true, true, true, true, true, true, false, false, false, false, false, false, false, false, false, false, false, false, false, false, false] rfl rfl (ZD HT_.out (by kernel_rfl)) (fun _ _ _ h => h) (Or.inl ⟨by rfl, ?_⟩) ?_ ?_
        rotate_left
        ·intro w'
         go_simp
         with_reducible rfl
        rotate_left
        ·simp only [Act.put, List.setIfInBounds_toArray, List.set_cons_zero, List.set_cons_succ, Zx, ZA]
         rfl
        refine ZM (i := 21) (N := some 44) (v := ?_) (a' := ?_) #[true, true, true, true, true, true, true, true, true, true, true, true, true, true, true, true, true, true, true, true, true, true, false, false, false, false, false, false, false, false, false, false, false, false, false, false] rfl rfl (ZD HT_.out (by kernel_rfl)) (fun _ _ _ h => h) (Or.inl ⟨by rfl, ?_⟩) ?_ ?_
        rotate_left
        ·intro w'
         go_simp
         with_reducible rfl
        rotate_left
        ·simp only [Act.put, List.setIfInBounds_toArray, List.set_cons_zero, List.set_cons_succ, Zx, ZA]
         rfl
        refine ZM (i := 22) (N := some 45) (v := ?_) (a' := ?_) #[true, true, true, true, true, true, true, true, true, true, true, true, true, true, true, true, true, true, true, true, true, true, true, false, false, false, false, false, false, false, false, false, false, false, false, false] rfl rfl (ZD HT_.out (by kernel_rfl)) (fun _ _ _ h => h) (Or.inl ⟨by rfl, ?_⟩) ?_ ?_
        rotate_left
        ·intro w'
         go_simp
         with_reducible rfl
        rotate_left
        ·simp only [Act.put, List.setIfInBounds_toArray, List.set_cons_zero, List.set_cons_succ, Zx, ZA]
         rfl
        refine ZM (i := 23) (N := some 46) (v := ?_) (a' := ?_) #[true, true, true, true, true, true, true, true, true, true, true, true, true, true, true, true, true, true, true, true, true, true, true, true, false, false, false, false, false, false, false, false, false, false, false, false] rfl rfl (ZD HT_.out (by kernel_rfl)) (fun _ _ _ h => h) (Or.inl ⟨by rfl, ?_⟩) ?_ ?_
        rotate_left
        ·intro w'
         go_simp
         with_reducible rfl
        rotate_left
        ·simp only [Act.put, List.setIfInBounds_toArray, List.set_cons_zero, List.set_cons_succ, Zx, ZA]
         rfl
        refine ZM (i := 24) (N := some 47) (v := ?_) (a' := ?_) #[true, true, true, true, true, true, true, true, true, true, true, true, true, true, true, true, true, true, true, true, true, true, true, true, true, false, false, false, false, false, false, false, false, false, false, false] rfl rfl (ZD HT_.out (by kernel_rfl)) (fun _ _ _ h => h) (Or.inl ⟨by rfl, ?_⟩) ?_ ?_
        rotate_left
        ·intro w'
         go_simp
         with_reducible rfl
        rotate_left
        ·simp only [Act.put, List.setIfInBounds_toArray, List.set_cons_zero, List.set_cons_succ, Zx, ZA]
         rfl
        refine ZM (i := 26) (N := some 49) (v := ?_) (a' := ?_) #[true, true, true, true, true, true, true, true, true, true, true, true, true, true, true, true, true, true, true, true, true, true, true, true, true, false, true, false, false, false, false, false, false, false, false, false] rfl rfl (ZD HT_.out (by kernel_rfl)) (fun _ _ _ h => h) (Or.inl ⟨by rfl, ?_⟩) ?_ ?_
        rotate_left
        ·intro w'
         go_simp
         with_reducible rfl
        rotate_left
        ·simp only [Act.put, List.setIfInBounds_toArray, List.set_cons_zero, List.set_cons_succ, Zx, ZA]
         rfl
        refine ZM (i := 27) (N := some 50) (v := ?_) (a' := ?_) #[true, true, true, true, true, true, true, true, true, true, true, true, true, true, true, true, true, true, true, true, true, true, true, true, true, false, true, true, false, false, false, false, false, false, false, false] rfl rfl (ZD HT_.out (by kernel_rfl)) (fun _ _ _ h => h) (Or.inl ⟨by rfl, ?_⟩) ?_ ?_
        rotate_left
        ·intro w'
         go_simp
         with_reducible rfl
        rotate_left
        ·simp only [Act.put, List.setIfInBounds_toArray, List.set_cons_zero, List.set_cons_succ, Zx, ZA]
         rfl
        refine ZM (i := 28) (N := some 51) (v := ?_) (a' := ?_) #[true, true, true, true, true, true, true, true, true, true, true, true, true, true, true, true, true, true, true, true, true, true, true, true, true, false, true, true, true, false, false, false, false, false, false, false] rfl rfl (ZD HT_.out (by kernel_rfl)) (fun _ _ _ h => h) (Or.inl ⟨by rfl, ?_⟩) ?_ ?_
        rotate_left
        ·intro w'
         go_simp
         with_reducible rfl
        rotate_left
        ·simp only [Act.put, List.setIfInBounds_toArray, List.set_cons_zero, List.set_cons_succ, Zx, ZA]
         rfl
        refine ZM (i := 29) (N := some 52) (v := ?_) (a' := ?_) #[true, true, true, true, true, true, true, true, true, true, true, true, true, true, true, true, true, true, true, true, true, true, true, true, true, false, true, true, true, true, false, false, false, false, false, false] rfl rfl (ZD HT_.out (by kernel_rfl)) (fun _ _ _ h => h) (Or.inl ⟨by rfl, ?_⟩) ?_ ?_
        rotate_left
        ·intro w'
         go_simp
         with_reducible rfl
        rotate_left
        ·simp only [Act.put, List.setIfInBounds_toArray, List.set_cons_zero, List.set_cons_succ, Zx, ZA]
         rfl
        refine take_ (i := 25) (N := some 48) (v := ?_) (a' := ?_) #[true, true, true, true, true, true, true, true, true, true, true, true, true, true, true, true, true, true, true, true, true, true, true, true, true, true, true, true, true, true, false, false, false, false, false, false] rfl rfl (take_ofW HT_.out HW_.out (by kernel_rfl)) (fun _ _ _ h => h) (Or.inl ⟨by rfl, ?_⟩) hHeld ?_ ?_
        rotate_left
        ·intro w' s0
         go_simp
         with_reducible rfl
        rotate_left
        ·simp only [Act.put, List.setIfInBounds_toArray, List.set_cons_zero, List.set_cons_succ, Zx, ZA]
         rfl
        refine one_ (i := 30) (N := some 53) #[true, true, true, true, true, true, true, true, true, true, true, true, true, true, true, true, true, true, true, true, true, true, true, true, true, true, true, true, true, true, true, false, false, false, false, false] rfl rfl (one_of HT_.out (by kernel_rfl)) (by decide) (fun K hK => ?_)
        refine goes_ Try.func74 (by kernel_rfl) rfl #[.int .i64 1, .int .i64 (wrap64 (x6_1 - (l1.length : Int)))] (by rfl) rfl rfl (by (try simp only [List.map_toArray, List.map_cons, List.map_nil]); first | done | rfl | (simp only [List.length_drop, List.length_take]; rfl)) ?_
        with_reducible refine (rkmark.calls 1 (wrap64 (x6_1 - (l1.length : Int))) t106 _ A15.out).mono ?_
        rintro e w' ⟨rfl, ⟨nd, rfl⟩⟩
        refine ⟨_, rfl, ?_⟩
        refine hK.out _ _ (((HB.out.cell (World.block_lt_of_cell? w _ hw105_0)).trans hw105_0)) (fun hHeld => ?_)
        clear hK K
        refine norm_ (a' := ?_) ?_ ?_
        rotate_left
        ·show Act.put _ (some 53) _ = _
         simp only [Act.put, List.setIfInBounds_toArray, List.set_cons_zero, List.set_cons_succ, Zx, ZA]
         rfl
        refine ZM (i := 31) (N := some 54) (v := ?_) (a' := ?_) #[true, true, true, true, true, true, true, true, true, true, true, true, true, true, true, true, true, true, true, true, true, true, true, true, true, true, true, true, true, true, true, true, false, false, false, false] rfl rfl (ZD HT_.out (by kernel_rfl)) (fun _ _ _ h => h) (Or.inl ⟨by rfl, ?_⟩) ?_ ?_
        rotate_left
        ·intro w'
         go_simp
         with_reducible rfl
        rotate_left
        ·simp only [Act.put, List.setIfInBounds_toArray, List.set_cons_zero, List.set_cons_succ, Zx, ZA]
         rfl
        refine ZM (i := 32) (N := some 55) (v := ?_) (a' := ?_) #[true, true, true, true, true, true, true, true, true, true, true, true, true, true, true, true, true, true, true, true, true, true, true, true, true, true, true, true, true, true, true, true, true, false, false, false] rfl rfl (ZD HT_.out (by kernel_rfl)) (fun _ _ _ h => h) (Or.inl ⟨by rfl, ?_⟩) ?_ ?_
        rotate_left
        ·intro w'
         go_simp
         with_reducible rfl
        rotate_left
        ·simp only [Act.put, List.setIfInBounds_toArray, List.set_cons_zero, List.set_cons_succ, Zx, ZA]
         rfl
        refine ZM (i := 33) (N := some 56) (v := ?_) (a' := ?_) #[true, true, true, true, true, true, true, true, true, true, true, true, true, true, true, true, true, true, true, true, true, true, true, true, true, true, true, true, true, true, true, true, true, true, false, false] rfl rfl (ZD HT_.out (by kernel_rfl)) (fun _ _ _ h => h) (Or.inl ⟨by rfl, ?_⟩) ?_ ?_
        rotate_left
        ·intro w'
         go_simp
         with_reducible rfl
        rotate_left
        ·simp only [Act.put, List.setIfInBounds_toArray, List.set_cons_zero, List.set_cons_succ, Zx, ZA]
         rfl
        refine ZM (i := 34) (N := some 57) (v := ?_) (a' := ?_) #[true, true, true, true, true, true, true, true, true, true, true, true, true, true, true, true, true, true, true, true, true, true, true, true, true, true, true, true, true, true, true, true, true, true, true, false] rfl rfl (ZD HT_.out (by kernel_rfl)) (fun _ _ _ h => h) (Or.inl ⟨by rfl, ?_⟩) ?_ ?_
        rotate_left
        ·intro w'
         go_simp
         with_reducible rfl
        rotate_left
        ·simp only [Act.put, List.setIfInBounds_toArray, List.set_cons_zero, List.set_cons_succ, Zx, ZA]
         rfl
        refine ZM (i := 35) (N := some 58) (v := ?_) (a' := ?_) #[true, true, true, true, true, true, true, true, true, true, true, true, true, true, true, true, true, true, true, true, true, true, true, true, true, true, true, true, true, true, true, true, true, true, true, true] rfl rfl (ZD HT_.out (by kernel_rfl)) (fun _ _ _ h => h) (Or.inl ⟨by rfl, ?_⟩) ?_ ?_
        rotate_left
        ·intro w'
         go_simp
         with_reducible rfl
        rotate_left
        ·simp only [Act.put, List.setIfInBounds_toArray, List.set_cons_zero, List.set_cons_succ, Zx, ZA]
         rfl
        refine done_ (done_of HT_.out (by kernel_rfl)) ?_
        try go_wp2
        go_roundg k1
        case measure => have := HK1.out; omega
        case rel => exact ⟨(wrap64 (x6_1 + 1)), (by first | rfl | (simp; done) | (simp [*]; done)), H', ⟨by have := HK1.out; omega⟩, ⟨by repeat (with_reducible first | exact HB.out | apply Zc | apply Za | apply Zd)⟩⟩
       ·rw [if_neg c16] at H
        exact absurd H (by simp)
      ·rw [if_neg c14] at H
       exact absurd H (by simp)
     ·exact absurd c13 (by have := of_decide_eq_false c5b0; omega)
   ·rw [if_neg c4] at H
    have c4b0 : decide (x6_1 < (l0.length : Int)) = false := decide_eq_false c4
    clear c4
    obtain rfl := Option.some.inj H
    go_wp2
    go_ret
    exact ⟨by first | rfl | (simp [errW_none, errW_some] <;> rfl) | (simp [*, errW_none, errW_some] <;> rfl), by repeat (with_reducible first | exact HB.out | apply Zc | apply Za | apply Zd)⟩
end Go.Proofs.Ytbmddlldadbfnaa.BP
end
section
namespace Go.Proofs.Ytbmddlldadbfnaa.BP
open Go.RowKit Go.Proofs.Ytbmddlldadbfnaa.BA Go.Proofs.Ytbmddlldadbfnaa.BB Go.Proofs.YtbmddlldadbfnaaW.PrintWords Go.Proofs.YtbmddlldadbfnaaW.PrintLast Go.Proofs.YtbmddlldadbfnaaW.PrintMore
attribute [local go_sem] ZU ZS max_two min_two ZP ZO ZT ZR
set_option linter.unusedVariables false
set_option linter.unusedSimpArgs false
theorem two_boxes {w w1 : World} {o1 o2 : Obj} (hb : Below ((w.alloc o1).alloc o2).heap.size ((w.alloc o1).alloc o2) w1) : w1.heap[w.heap.size]? = some o1 ∧ w1.heap[w.heap.size + 1]? = some o2 ∧ Below w.heap.size w w1 := by
 have h2 := Zn (blk_new (w.alloc o1) o2) hb
 rw [show (w.alloc o1).heap.size = w.heap.size + 1 by simp] at h2
 exact ⟨Zn (Zf (blk_new w o1) o2) hb, h2, (Zc (Zc (Below.refl w.heap.size w) _) _).trans (hb.mono (by simp; omega))⟩
set_option maxHeartbeats 4000000 in
set_option maxRecDepth 100000 in
theorem keptInt_calls (k : Nat) (n : Bool) (A0 : Option Addr) (A1 : Option Addr) (c1 : Nat) (l1 : List Int) (w : World) (hsm : l1.length ≤ 17592186044416) (hr0 : Kd.C (Kd.int .u64) w A0 (l1.length + 12) (l1 ++ marks 12)) (hr1 : Kd.C (Kd.int .u64) w A1 l1.length l1) (hc1 : l1.length ≤ c1)
  (hs : rkSameInt.f k n l1 n l1 = some true) (h : rkKeptLimbs.l0 k l1 (l1 ++ marks 12) 0 = some true) :
  Calls Try.prog 16 #[.agg #[.bool n, .slice A0 l1.length (l1.length + 12)], .agg #[.bool n, .slice A1 l1.length c1]] w fun e w' => e = .returned (.bool true) ∧ Below w.heap.size w w' := by
 have hlen : (l1 ++ marks 12).length = l1.length + 12 := by rw [List.length_append, marks_len]
 rw [← hlen] at hr0
 have HR0 := Zb.mk hr0
 have HR1 := Zb.mk hr1
 have HS := Zb.mk hs
 have HF := Zb.mk h
 have HL := Zb.mk hlen
 clear hr0 hr1 hs h hlen
 have hu24 := Try.underlying24
 go_enter Try.func16, Try.ntmps16
 go_wp2_with fail
 refine (rkSameInt.calls k n A0 (l1.length + 12) l1 n A1 c1 l1 true _ (Kd.ZC (Kd.ZC (C_front HR0.out) _) _) (by omega) (Kd.ZC (Kd.ZC HR1.out _) _) hc1 HS.out).mono ?_
 rintro e w1 ⟨rfl, hb⟩
 obtain ⟨BX, BY, HB⟩ := two_boxes hb
 have hx1 : w1.cell? ⟨w.heap.size, 1, none⟩ = some (.slice A0 l1.length (l1.length + 12)) := (Zk BX 1).trans rfl
 have hy1 : w1.cell? ⟨w.heap.size + 1, 1, none⟩ = some (.slice A1 l1.length c1) := (Zk BY 1).trans rfl
 clear hb BX BY
 go_wp2_with fail
 refine (kept_calls k A0 (l1 ++ marks 12) A1 c1 l1 true _ HL.out hsm (Kd.C_below HR0.out HB) (Kd.C_below HR1.out HB) hc1 HF.out).mono ?_
 rintro e w2 ⟨rfl, hb⟩
 go_wp2_with fail
 go_ret
 exact ⟨rfl, HB.trans (hb.mono HB.size)⟩
set_option maxHeartbeats 4000000 in
set_option maxRecDepth 100000 in
theorem awake_way (k : Nat) (n : Bool) (A0 : Option Addr) (c0 : Nat) (l : List Int) (b : Int) (w : World) (h1 : 40 < l.length) (h2 : l.length ≤ 4096) (ha : w19awake.f k = some true) :
  Calls Try.prog 3 #[.agg #[.bool n, .slice A0 l.length c0], .int .i64 b] w fun e w' => e = .returned (.bool true) ∧ Below w.heap.size w w' := by
 have HA := Zb.mk ha
 clear ha
 have hu24 := Try.underlying24
 have d1 : decide ((40 : Int) < (l.length : Int)) = true := decide_eq_true (by omega)
 have d2 : decide ((l.length : Int) ≤ 4096) = true := decide_eq_true (by omega)
 have d1' : decide (40 < l.length) = true := decide_eq_true (by omega)
 have d2' : decide (l.length ≤ 4096) = true := decide_eq_true (by omega)
 clear h1 h2
 go_enter Try.func3, Try.ntmps3
 go_wp2_with fail
 refine (w19awake.calls k true _ HA.out).mono ?_
 rintro e w1 ⟨rfl, hb⟩
 go_wp2_with fail
 go_ret
 exact ⟨rfl, (Zc (Below.refl _ _) _).trans (hb.mono (by simp))⟩
def St (n : Bool) (A0 : Option Addr) (c0 : Nat) (l : List Int) (gl gi : Nat) (w W : World) : Prop :=
 W.heap[w.heap.size]? = some (.cells #[.bool n, .slice A0 l.length c0] 24 (0, 0)) ∧ W.heap[gi]? = some (.cells #[.bool n, .slice (some ⟨gl, 0, none⟩) l.length (l.length + 12)] 24 (0, 0)) ∧ Kd.C (Kd.int .u64) W A0 l.length l ∧ Kd.C (Kd.int .u64) W (some ⟨gl, 0, none⟩) (l.length + 12) (l ++ marks 12) ∧ Below w.heap.size w W
theorem St.next {n : Bool} {A0 : Option Addr} {c0 : Nat} {l : List Int} {gl gi : Nat} {w W W' : World} (h : St n A0 c0 l gl gi w W) (hb : Below W.heap.size W W') : St n A0 c0 l gl gi w W' := by
 obtain ⟨h1, h2, h3, h4, h5⟩ := h
 exact ⟨Zn h1 hb, Zn h2 hb, Kd.C_below h3 hb, Kd.C_below h4 hb, h5.trans (hb.mono h5.size)⟩
theorem St.cells {n : Bool} {A0 : Option Addr} {c0 : Nat} {l : List Int} {gl gi : Nat} {w W : World} (h : St n A0 c0 l gl gi w W) :
  W.cell? ⟨w.heap.size, 0, none⟩ = some (.bool n) ∧ W.cell? ⟨w.heap.size, 1, none⟩ = some (.slice A0 l.length c0) ∧ W.cell? ⟨gi, 0, none⟩ = some (.bool n) ∧ W.cell? ⟨gi, 1, none⟩ = some (.slice (some ⟨gl, 0, none⟩) l.length (l.length + 12)) := by
 obtain ⟨h1, h2, _⟩ := h
 exact ⟨(Zk h1 0).trans rfl, (Zk h1 1).trans rfl, (Zk h2 0).trans rfl, (Zk h2 1).trans rfl⟩
theorem St.x {n : Bool} {A0 : Option Addr} {c0 : Nat} {l : List Int} {gl gi : Nat} {w W : World} (h : St n A0 c0 l gl gi w W) : Kd.C (Kd.int .u64) W A0 l.length l := h.2.2.1
theorem St.lent {n : Bool} {A0 : Option Addr} {c0 : Nat} {l : List Int} {gl gi : Nat} {w W : World} (h : St n A0 c0 l gl gi w W) : Kd.C (Kd.int .u64) W (some ⟨gl, 0, none⟩) (l.length + 12) (l ++ marks 12) := h.2.2.2.1
theorem St.front {n : Bool} {A0 : Option Addr} {c0 : Nat} {l : List Int} {gl gi : Nat} {w W : World} (h : St n A0 c0 l gl gi w W) : Kd.C (Kd.int .u64) W (some ⟨gl, 0, none⟩) l.length l := by
 have := h.lent
 rw [show l.length + 12 = (l ++ marks 12).length by rw [List.length_append, marks_len]] at this
 exact C_front this
theorem St.below {n : Bool} {A0 : Option Addr} {c0 : Nat} {l : List Int} {gl gi : Nat} {w W : World} (h : St n A0 c0 l gl gi w W) : Below w.heap.size w W := h.2.2.2.2
set_option maxHeartbeats 8000000 in
set_option maxRecDepth 100000 in
theorem prints_way (k : Nat) (n : Bool) (A0 : Option Addr) (c0 : Nat) (l : List Int) (b : Int) (s : ByteArray) (e m g : Int) (w : World) (hr0 : Kd.C (Kd.int .u64) w A0 l.length l) (hc0 : l.length ≤ c0) (hsm : l.length ≤ 17592186044416) (h : ¬ (40 < l.length ∧ l.length ≤ 4096))
  (hp : base_Print.f k n l b = some (s, e)) (hq : r19Print.f k n l b = some (s, e)) (hc : base_Count.f k n l b = some (m, g)) (hd : r19Count.f k n l b = some (m, g))
  (hs : rkSameInt.f k n l n l = some true) (hk : rkKeptLimbs.l0 k l (l ++ marks 12) 0 = some true) (ha : w19awake.f k = some true) :
  Calls Try.prog 3 #[.agg #[.bool n, .slice A0 l.length c0], .int .i64 b] w fun e w' => e = .returned (.bool true) ∧ Below w.heap.size w w' := by
 have HP := Zb.mk hp
 have HQ := Zb.mk hq
 have HC := Zb.mk hc
 have HD := Zb.mk hd
 have HS := Zb.mk hs
 have HK := Zb.mk hk
 have HA := Zb.mk ha
 have HR := Zb.mk hr0
 clear hp hq hc hd hs hk ha hr0
 have hu24 := Try.underlying24
 have hcase : (decide ((40 : Int) < (l.length : Int)) = false ∧ decide (40 < l.length) = false) ∨ (decide ((40 : Int) < (l.length : Int)) = true ∧ decide (40 < l.length) = true ∧ decide ((l.length : Int) ≤ 4096) = false ∧ decide (l.length ≤ 4096) = false) := by
  by_cases h1 : 40 < l.length
  ·exact .inr ⟨decide_eq_true (by omega), decide_eq_true h1, decide_eq_false (by omega), decide_eq_false (by omega)⟩
  ·exact .inl ⟨decide_eq_false (by omega), decide_eq_false h1⟩
 clear h
 go_enter Try.func3, Try.ntmps3
 rcases hcase with ⟨d1, d1'⟩ | ⟨d1, d1', d2, d2'⟩
 all_goals
  go_wp2_with fail
  refine (lentInt_calls n A0 c0 l _ (Kd.ZC HR.out _) hc0 hsm).mono ?_
  rintro ev w1 ⟨gl, hgl, rfl, hC, hb⟩
  have BX := Zn (blk_new w (Obj.cells #[Value.bool n, Value.slice A0 l.length c0] 24)) hb
  have ST : Zb (St n A0 c0 l gl w1.heap.size w (w1.alloc (Obj.cells #[Value.bool n, Value.slice (some { block := gl, off := 0 }) l.length (l.length + 12)] 24))) := ⟨⟨Zf BX _, blk_new w1 _, Kd.ZC (Kd.C_below (Kd.ZC HR.out _) hb) _, Kd.ZC hC _, Zc ((Zc (Below.refl w.heap.size w) _).trans (hb.mono (by simp))) _⟩⟩
  clear hb hgl hC BX HR
  go_wp2_with fail
  refine (base_Print.calls k n (some ⟨gl, 0, none⟩) (l.length + 12) l b s e _ ST.out.front (by omega) HP.out).mono ?_
  rintro ev w2 ⟨rfl, hb⟩
  replace ST := Zb.mk (ST.out.next hb)
  obtain ⟨hx0, hx1, hi0, hi1⟩ := ST.out.cells
  clear hb
  go_wp2_with fail
  refine (r19Print.calls k n A0 c0 l b s e _ ST.out.x hc0 HQ.out).mono ?_
  rintro ev w3 ⟨rfl, hb⟩
  replace ST := Zb.mk (ST.out.next hb)
  clear hb hx0 hx1 hi0 hi1
  obtain ⟨hx0, hx1, hi0, hi1⟩ := ST.out.cells
  go_wp2_with fail
  refine (base_Count.calls k n (some ⟨gl, 0, none⟩) (l.length + 12) l b m g _ ST.out.front (by omega) HC.out).mono ?_
  rintro ev w4 ⟨rfl, hb⟩
  replace ST := Zb.mk (ST.out.next hb)
  clear hb hx0 hx1 hi0 hi1
  obtain ⟨hx0, hx1, hi0, hi1⟩ := ST.out.cells
  go_wp2_with fail
  refine (r19Count.calls k n A0 c0 l b m g _ ST.out.x hc0 HD.out).mono ?_
  rintro ev w5 ⟨rfl, hb⟩
  replace ST := Zb.mk (ST.out.next hb)
  clear hb hx0 hx1 hi0 hi1
  obtain ⟨hx0, hx1, hi0, hi1⟩ := ST.out.cells
  go_wp2_with fail
  refine (keptInt_calls k n (some ⟨gl, 0, none⟩) A0 c0 l _ hsm ST.out.lent ST.out.x hc0 HS.out HK.out).mono ?_
  rintro ev w6 ⟨rfl, hb⟩
  replace ST := Zb.mk (ST.out.next hb)
  clear hb hx0 hx1 hi0 hi1
  go_wp2_with fail
  refine (w19awake.calls k true _ HA.out).mono ?_
  rintro ev w7 ⟨rfl, hb⟩
  replace ST := Zb.mk (ST.out.next hb)
  clear hb
  go_wp2_with fail
  go_ret
  exact ⟨rfl, ST.out.below⟩
end Go.Proofs.Ytbmddlldadbfnaa.BP
end

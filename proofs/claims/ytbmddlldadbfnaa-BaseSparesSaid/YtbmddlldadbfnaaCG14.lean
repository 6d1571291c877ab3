/- Part of the proof that what is read twice of the text of a number of at most 40 limbs lies apart, spare room and all, and what is read a third time is what was read first. -/
import Derived.Laws.Bits64b
import Derived.Laws.RangeString
import Derived.Test.YtbmddlldadbfnaaCG13
section
namespace Go.Proofs.Ytbmddlldadbfnaa.BM
open Go.RowKit Go.Proofs.YtbmddlldadbfnaaW.PrintWords Go.Proofs.YtbmddlldadbfnaaW.PrintLast Go.Proofs.YtbmddlldadbfnaaW.PrintMore
open Go.Proofs.Ytbmddlldadbfnaa.BA
def tab8 : ByteArray := (⟨#[0, 1, 2, 2, 3, 3, 3, 3, 4, 4, 4, 4, 4, 4, 4, 4, 5, 5, 5, 5, 5, 5, 5, 5, 5, 5, 5, 5, 5, 5, 5, 5, 6, 6, 6, 6, 6, 6, 6, 6, 6, 6, 6, 6, 6, 6, 6, 6, 6, 6, 6, 6, 6, 6, 6, 6, 6, 6, 6, 6, 6, 6, 6, 6, 7, 7, 7, 7, 7, 7, 7, 7, 7, 7, 7, 7, 7, 7, 7, 7, 7, 7, 7, 7, 7, 7, 7, 7, 7, 7, 7, 7, 7, 7, 7, 7, 7, 7, 7, 7, 7, 7, 7, 7, 7, 7, 7, 7, 7, 7, 7, 7, 7, 7, 7, 7, 7, 7, 7, 7, 7, 7, 7, 7, 7, 7, 7, 7, 8, 8, 8, 8, 8, 8, 8, 8, 8, 8, 8, 8, 8, 8, 8, 8, 8, 8, 8, 8, 8, 8, 8, 8, 8, 8, 8, 8, 8, 8, 8, 8, 8, 8, 8, 8, 8, 8, 8, 8, 8, 8, 8, 8, 8, 8, 8, 8, 8, 8, 8, 8, 8, 8, 8, 8, 8, 8, 8, 8, 8, 8, 8, 8, 8, 8, 8, 8, 8, 8, 8, 8, 8, 8, 8, 8, 8, 8, 8, 8, 8, 8, 8, 8, 8, 8, 8, 8, 8, 8, 8, 8, 8, 8, 8, 8, 8, 8, 8, 8, 8, 8, 8, 8, 8, 8, 8, 8, 8, 8, 8, 8, 8, 8, 8, 8, 8, 8, 8, 8, 8, 8, 8, 8, 8, 8, 8, 8]⟩ : ByteArray)
theorem tab8_bt (i : Int) (h0 : 0 ≤ i) (h1 : i < 256) : bt tab8 i = (bitLen i.toNat : Int) := by
 have hs : tab8.size = 256 := by decide +kernel
 have h : i.toNat < tab8.size := by omega
 unfold bt
 rw [dif_pos h]
 exact congrArg Int.ofNat (len8tab_get i.toNat h)
theorem len_j0 (k : Nat) (y c : Int) (h0 : 0 ≤ y) (h1 : y < 4294967296) (hc0 : 0 ≤ c) (hc : c ≤ 32) : bits_Len64.j0 (k + 1) y c = some (c + bitLen y.toNat) := by
 have e : bits_Len64.j0 (k + 1) y c = if y ≥ 65536 then (if (y / 65536) ≥ 256 then (if 0 ≤ (((y / 65536) / 256) % 256) then (if (((y / 65536) / 256) % 256) < 256 then (some (wrap64 ((wrap64 ((wrap64 (c + 16)) + 8)) + (wrap64 (bt tab8 (((y / 65536) / 256) % 256)))))) else none) else none)
   else (if 0 ≤ ((y / 65536) % 256) then (if ((y / 65536) % 256) < 256 then (some (wrap64 ((wrap64 (c + 16)) + (wrap64 (bt tab8 ((y / 65536) % 256)))))) else none) else none))
   else (if y ≥ 256 then (if 0 ≤ ((y / 256) % 256) then (if ((y / 256) % 256) < 256 then (some (wrap64 ((wrap64 (c + 8)) + (wrap64 (bt tab8 ((y / 256) % 256)))))) else none) else none)
   else (if 0 ≤ ((y) % 256) then (if ((y) % 256) < 256 then (some (wrap64 (c + (wrap64 (bt tab8 ((y) % 256)))))) else none) else none)) := by
  rw [bits_Len64.j0]; rfl
 have fin : ∀ (z d : Int) (b : Nat), 0 ≤ z → z < 256 → 0 ≤ d → d ≤ 64 → bitLen y.toNat = b + bitLen z.toNat → c + b = d → wrap64 (d + wrap64 (bt tab8 z)) = c + bitLen y.toNat := by
  intro z d b hz0 hz hd0 hd hb hcd
  have h8 := bitLen_le8 z.toNat (by omega)
  rw [tab8_bt z hz0 hz, w64 (n := (bitLen z.toNat : Int)) (by omega) (by omega), w64 (by omega) (by omega), hb]
  omega
 have sh : ∀ (b : Nat) (z : Int), (z = y / 2 ^ b) → 0 < z → bitLen y.toNat = b + bitLen z.toNat := by
  intro b z hz hz0
  have ez : z.toNat = y.toNat / 2 ^ b := by
   subst hz
   have : ((y.toNat / 2 ^ b : Nat) : Int) = y / 2 ^ b := by rw [Int.natCast_ediv, Int.toNat_of_nonneg h0, Int.natCast_pow]; rfl
   omega
  rw [bitLen_shift y.toNat b (by omega), ez]
 rw [e]
 clear e
 by_cases g1 : y ≥ 65536
 ·rw [if_pos g1]
  by_cases g2 : y / 65536 ≥ 256
  ·rw [if_pos g2, if_pos (by omega), if_pos (by omega), w64 (n := c + 16) (by omega) (by omega), w64 (n := c + 16 + 8) (by omega) (by omega)]
   exact congrArg some (fin _ _ 24 (by omega) (by omega) (by omega) (by omega) (by rw [show y / 65536 / 256 % 256 = y / 16777216 by omega]; exact sh 24 _ (by rfl) (by omega)) (by omega))
  ·rw [if_neg g2, if_pos (by omega), if_pos (by omega), w64 (n := c + 16) (by omega) (by omega)]
   exact congrArg some (fin _ _ 16 (by omega) (by omega) (by omega) (by omega) (by rw [show y / 65536 % 256 = y / 65536 by omega]; exact sh 16 _ (by rfl) (by omega)) (by omega))
 ·rw [if_neg g1]
  by_cases g2 : y ≥ 256
  ·rw [if_pos g2, if_pos (by omega), if_pos (by omega), w64 (n := c + 8) (by omega) (by omega)]
   exact congrArg some (fin _ _ 8 (by omega) (by omega) (by omega) (by omega) (by rw [show y / 256 % 256 = y / 256 by omega]; exact sh 8 _ (by rfl) (by omega)) (by omega))
  ·rw [if_neg g2, if_pos (by omega), if_pos (by omega)]
   exact congrArg some (fin _ _ 0 (by omega) (by omega) (by omega) (by omega) (by rw [show y % 256 = y by omega]; omega) (by omega))
theorem len_ev (x : Int) (h0 : 0 ≤ x) (h1 : x < 18446744073709551616) : Ev (fun k => bits_Len64.f k x) (bitLen x.toNat : Int) := by
 refine Ev.succ (Ev.congr (Ev.pure _) fun k => ?_)
 unfold bits_Len64.f
 by_cases g : x ≥ 4294967296
 ·rw [if_pos g, len_j0 k _ _ (by omega) (by omega) (by omega) (by omega)]
  have ez : (x / 4294967296).toNat = x.toNat / 2 ^ 32 := by
   have : ((x.toNat / 2 ^ 32 : Nat) : Int) = x / 4294967296 := by omega
   omega
  have := bitLen_shift x.toNat 32 (by omega)
  rw [ez, this]
  congr 1
 ·rw [if_neg g, len_j0 k _ _ (by omega) (by omega) (by omega) (by omega)]
  congr 1
  omega
theorem bitLen_le64 {x : Nat} (h : x < 18446744073709551616) : bitLen x ≤ 64 := by
 unfold bitLen
 split
 ·omega
 ·rename_i h0
  have := (Nat.log2_lt h0).2 (show x < 2 ^ 64 from h)
  omega
theorem bitLen_pos {x : Nat} (h : x ≠ 0) : 1 ≤ bitLen x := by unfold bitLen; rw [if_neg h]; omega
theorem lz_ev (x : Int) (h0 : 0 ≤ x) (h1 : x < 18446744073709551616) : Ev (fun k => bits_LeadingZeros64.f k x) (64 - bitLen x.toNat : Int) := by
 refine Ev.bind (g := fun _ t => some (wrap64 (64 - t))) (len_ev x h0 h1) (Ev.const ?_)
 have := bitLen_le64 (x := x.toNat) (by omega)
 rw [w64 (by omega) (by omega)]
def topOf (l : List Int) : Int := rd l ((l.length : Int) - 1)
theorem size_ev {l : List Int} (hl : l ≠ []) (hd : Dig 18446744073709551616 l) (hlen : l.length < 1099511627776) :
  Ev (fun k => big_size.f k l) (64 * ((l.length : Int) - 1) + bitLen (topOf l).toNat) := by
 have h0 : 0 < l.length := List.length_pos_iff.2 hl
 have hr := rd_dig hd (i := (l.length : Int) - 1) (by omega) (by omega)
 have hb := bitLen_le64 (x := (topOf l).toNat) (by unfold topOf; omega)
 have := Ev.bind (g := fun _ t => some (wrap64 ((wrap64 (64 * (l.length : Int))) - t))) (lz_ev (topOf l) hr.1 hr.2) (Ev.const (r := 64 * ((l.length : Int) - 1) + bitLen (topOf l).toNat) (by rw [w64 (n := 64 * (l.length : Int)) (by omega) (by omega), w64 (by omega) (by omega)]; congr 1; omega))
 refine Ev.congr this fun k => ?_
 have e : wrap64 ((l.length : Int) - 1) = (l.length : Int) - 1 := w64 (by omega) (by omega)
 have c1 : ¬ (l.length : Int) = 0 := by omega
 have c2 : 0 ≤ (l.length : Int) - 1 := by omega
 have c3 : (l.length : Int) - 1 < (l.length : Int) := by omega
 unfold big_size.f
 rw [if_neg c1, e, if_pos c2, if_pos c3]
 rfl
theorem or_byte {a b : Int} (h0 : 0 ≤ a) (h1 : a < 72057594037927936) (hb0 : 0 ≤ b) (hb : b < 256) : Go.bits .or .u64 (IntKind.u64.wrap (a * 256)) (IntKind.u64.wrap b) = a * 256 + b := by
 rw [u64 (by omega) (by omega), u64 (by omega) (by omega)]
 obtain ⟨n, rfl⟩ := Int.eq_ofNat_of_zero_le h0
 obtain ⟨m, rfl⟩ := Int.eq_ofNat_of_zero_le hb0
 have := bits_or_u64_nat (n * 256) m (by omega) (by omega)
 rw [show ((n : Nat) : Int) * 256 = ((n * 256 : Nat) : Int) by omega, this]
 have h2 := Nat.two_pow_add_eq_or_of_lt (i := 8) (b := m) (by omega) n
 rw [show n * 256 = 2 ^ 8 * n by omega, ← h2]
 omega
theorem pow256 (m : Nat) : (2 : Int) ^ (8 * m) = 256 ^ m := by rw [Int.pow_mul]; rfl
def byteAt (l : List Int) (j : Nat) : Int := rd l ((j / 8 : Nat) : Int) / 256 ^ (j % 8) % 256
theorem byteAt_range (l : List Int) (j : Nat) : 0 ≤ byteAt l j ∧ byteAt l j < 256 := by unfold byteAt; omega
theorem shr_byte (x : Int) (m : Nat) (h : m < 8) : shr .u64 x ((8 * m : Nat) : Int) % 256 = x / 256 ^ m % 256 := by
 unfold shr
 rw [show min ((8 * m : Nat) : Int).toNat IntKind.u64.bits = 8 * m by simp [IntKind.bits]; omega, pow256]
def bytesOf (l : List Int) (nb : Nat) : List Int := (List.range nb).map fun i => byteAt l (nb - 1 - i)
theorem bytes_step (k : Nat) (l x4 : List Int) (nb i j : Nat) (hi : i < nb) (h4 : x4.length = nb) (hj : j = nb - 1 - i) (hj8 : j / 8 < l.length) (hn : nb < 1099511627776) :
  bIBytes.l0 (k + 1) l nb x4 nb i = bIBytes.l0 k l nb (x4.set i (byteAt l j)) nb ((i + 1 : Nat) : Int) := by
 have e1 : wrap64 ((wrap64 ((nb : Int) - 1)) - (i : Int)) = (j : Int) := by rw [w64 (n := (nb : Int) - 1) (by omega) (by omega), w64 (by omega) (by omega)]; omega
 have e2 : wrap64 (Int.tdiv ((j : Nat) : Int) 8) = ((j / 8 : Nat) : Int) := by rw [Int.tdiv_eq_ediv_of_nonneg (by omega), w64 (by omega) (by omega)]; omega
 have e3 : wrap64 (8 * (Int.tmod ((j : Nat) : Int) 8)) = ((8 * (j % 8) : Nat) : Int) := by rw [Int.tmod_eq_emod_of_nonneg (by omega), w64 (by omega) (by omega)]; omega
 have e4 : wrap64 ((i : Int) + 1) = ((i + 1 : Nat) : Int) := by rw [w64 (by omega) (by omega)]; omega
 have c1 : (i : Int) < (nb : Int) := by clear e1 e2 e3 e4; omega
 have c2 : ((j / 8 : Nat) : Int) < (l.length : Int) := by clear e1 e2 e3 e4; omega
 have c3 : (i : Int) < (x4.length : Int) := by clear e1 e2 e3 e4; omega
 rw [bIBytes.l0, if_pos c1, e1, e2, e3, e4, if_pos (Int.natCast_nonneg _), if_pos c2, if_pos (Int.natCast_nonneg _), if_pos (Int.natCast_nonneg _), if_pos c3, shr_byte _ _ (Nat.mod_lt _ (by decide))]
 rfl
theorem bytes_loop (l : List Int) (nb : Nat) (hn : nb < 1099511627776) (hl : ∀ j, j < nb → j / 8 < l.length) : ∀ (m i : Nat), i + m = nb →
  Ev (fun k => bIBytes.l0 k l nb ((List.range i).map (fun i => byteAt l (nb - 1 - i)) ++ List.replicate m 0) nb i) (bytesOf l nb) := by
 intro m
 induction m with
 | zero =>
  intro i hi
  refine Ev.succ (Ev.congr (Ev.pure _) fun k => ?_)
  have : i = nb := by omega
  subst this
  rw [bIBytes.l0, if_neg (Int.lt_irrefl _)]
  simp [bytesOf]
 | succ m ih =>
  intro i hi
  refine Ev.succ (Ev.congr (ih (i + 1) (by omega)) fun k => ?_)
  rw [bytes_step k l _ nb i (nb - 1 - i) (by omega) (by simp; omega) rfl (hl _ (by omega)) hn]
  have e := set_pad ((List.range i).map (fun i => byteAt l (nb - 1 - i))) (byteAt l (nb - 1 - i)) m
  rw [List.length_map, List.length_range] at e
  rw [e, List.range_succ, List.map_append]
  rfl
def nbOf (l : List Int) : Nat := 8 * (l.length - 1) + (bitLen (topOf l).toNat + 7) / 8
theorem bytes_ev {l : List Int} (hl : l ≠ []) (hd : Dig 18446744073709551616 l) (hlen : l.length < 1073741824) : Ev (fun k => bIBytes.f k l) (bytesOf l (nbOf l)) := by
 have h0 : 0 < l.length := List.length_pos_iff.2 hl
 have hr := rd_dig hd (i := (l.length : Int) - 1) (by omega) (by omega)
 have hb := bitLen_le64 (x := (topOf l).toNat) (by unfold topOf; omega)
 have hloop := bytes_loop l (nbOf l) (by unfold nbOf; omega) (fun j hj => by unfold nbOf at hj; omega) (nbOf l) 0 (by omega)
 have e : wrap64 (Int.tdiv (wrap64 (64 * ((l.length : Int) - 1) + (bitLen (topOf l).toNat : Int) + 7)) 8) = ((nbOf l : Nat) : Int) := by
  rw [w64 (n := 64 * ((l.length : Int) - 1) + (bitLen (topOf l).toNat : Int) + 7) (by omega) (by omega), Int.tdiv_eq_ediv_of_nonneg (by omega), w64 (by omega) (by omega)]
  unfold nbOf; omega
 have c : (((nbOf l : Nat) : Int)).toNat ≤ 281474976710656 := by clear e; unfold nbOf; omega
 refine Ev.bind (g := fun k t121 => (if 0 ≤ (wrap64 (Int.tdiv (wrap64 (t121 + 7)) 8)) then (if (wrap64 (Int.tdiv (wrap64 (t121 + 7)) 8) : Int).toNat ≤ 281474976710656 then (bIBytes.l0 k l (wrap64 (Int.tdiv (wrap64 (t121 + 7)) 8)) (List.replicate (wrap64 (Int.tdiv (wrap64 (t121 + 7)) 8) : Int).toNat 0) (wrap64 (Int.tdiv (wrap64 (t121 + 7)) 8)) 0) else none) else none)) (size_ev hl hd (by omega)) (Ev.congr hloop fun k => ?_)
 rw [e, if_pos (Int.natCast_nonneg _), if_pos c, Int.toNat_natCast]
 simp
end Go.Proofs.Ytbmddlldadbfnaa.BM
end
section
namespace Go.Proofs.Ytbmddlldadbfnaa.BM
open Go.RowKit Go.Proofs.YtbmddlldadbfnaaW.PrintWords Go.Proofs.YtbmddlldadbfnaaW.PrintLast Go.Proofs.YtbmddlldadbfnaaW.PrintMore
open Go.Proofs.Ytbmddlldadbfnaa.BA
theorem limbs_step (k : Nat) (x3 x4 : List Int) (x5 x6 y z : Int) (c : List Int) (u : Nat) (hu : u < c.length) (hl : c.length < 100) (hz : rd c u = z) (hy : Go.bits .or .u64 (IntKind.u64.wrap (x6 * 256)) (IntKind.u64.wrap z) = y) :
  exact_Limbs.l1 (k + 1) x3 x4 x5 x6 c c.length u = exact_Limbs.l1 k x3 x4 x5 y c c.length ((u + 1 : Nat) : Int) := by
 have e : wrap64 ((u : Int) + 1) = ((u + 1 : Nat) : Int) := by rw [w64 (by omega) (by omega)]; omega
 rw [exact_Limbs.l1, if_pos (Int.ofNat_lt.2 hu), if_pos (Int.natCast_nonneg _), if_pos (Int.ofNat_lt.2 hu), hz, hy, e]
theorem div_step (x : Int) (m : Nat) : x / 256 ^ (m + 1) * 256 + x / 256 ^ m % 256 = x / 256 ^ m := by
 rw [Int.pow_succ, ← Int.ediv_ediv_of_nonneg (Int.pow_nonneg (by omega))]
 omega
theorem div_small {x : Int} {m : Nat} (h0 : 0 ≤ x) (h1 : x < 18446744073709551616) : x / 256 ^ (m + 1) < 72057594037927936 := by
 have hp := pow_pos' (show (0 : Int) < 256 by omega) m
 rw [Int.pow_succ, Int.mul_comm, ← Int.ediv_ediv_of_nonneg (by omega)]
 have := Int.ediv_le_self (a := x / 256) (256 ^ m) (by omega)
 omega
theorem limb_loop (x : Int) (h0 : 0 ≤ x) (h1 : x < 18446744073709551616) (x3 x4 : List Int) (x5 : Int) (c : List Int) (hl : c.length < 100) (hc : ∀ u : Nat, u < c.length → rd c (u : Int) = x / 256 ^ (c.length - 1 - u) % 256)
  (h3 : x3.length < 17592186044416) (nxt : Int) (hnx : wrap64 (x5 - 8) = nxt) (r : List Int) (hr : Ev (fun k => exact_Limbs.l0 k (x3 ++ [x]) x4 nxt) r) :
  ∀ (m u : Nat), u + m = c.length → Ev (fun k => exact_Limbs.l1 k x3 x4 x5 (x / 256 ^ m) c c.length u) r := by
 intro m
 induction m with
 | zero =>
  intro u hu
  have : u = c.length := by omega
  subst this
  refine Ev.succ (Ev.congr hr fun k => ?_)
  rw [exact_Limbs.l1, if_neg (Int.lt_irrefl _), if_pos h3, hnx]
  simp
 | succ m ih =>
  intro u hu
  have hd0 : 0 ≤ x / 256 ^ (m + 1) := Int.ediv_nonneg h0 (Int.pow_nonneg (by omega))
  refine Ev.succ (Ev.congr (ih (u + 1) (by omega)) fun k => ?_)
  refine limbs_step k x3 x4 x5 _ _ (x / 256 ^ m % 256) c u (by omega) hl ?_ ?_
  ·rw [hc u (by omega), show c.length - 1 - u = m by omega]
  ·rw [or_byte hd0 (div_small h0 h1) (by omega) (by omega), div_step]
theorem rd_bytes (l : List Int) (nb i : Nat) (h : i < nb) : (bytesOf l nb)[i]'(by simp [bytesOf]; exact h) = byteAt l (nb - 1 - i) := by simp [bytesOf]
theorem limbs_out (k : Nat) (x3 x4 : List Int) (x5 lo : Nat) (c : List Int) (h : 0 < x5) (hx : x5 < 1099511627776) (hlo : lo = x5 - 8) (h4 : x5 ≤ x4.length) (hc : (x4.take x5).drop lo = c) :
  exact_Limbs.l0 (k + 1) x3 x4 x5 = exact_Limbs.l1 k x3 x4 x5 0 c c.length 0 := by
 have e : mx (wrap64 ((x5 : Int) - 8)) 0 = (lo : Int) := by
  rw [w64 (by omega) (by omega)]
  unfold mx
  split <;> omega
 have c0 : (x5 : Int) > 0 := by omega
 have c1 : (lo : Int) ≤ (x5 : Int) := by omega
 have c2 : (x5 : Int) ≤ (x4.length : Int) := by omega
 rw [exact_Limbs.l0, if_pos c0, e, if_pos (Int.natCast_nonneg _), if_pos c1, if_pos c2, Int.toNat_natCast, Int.toNat_natCast, hc]
theorem pow_bits {x : Int} (h0 : 0 ≤ x) (c : Nat) (h : bitLen x.toNat ≤ 8 * c) : x < 256 ^ c := by
 have h1 := (bitLen_spec x.toNat).1
 have h2 : (2 : Nat) ^ bitLen x.toNat ≤ 2 ^ (8 * c) := Nat.pow_le_pow_right (by omega) h
 have h3 : x.toNat < 2 ^ (8 * c) := Nat.lt_of_lt_of_le h1 h2
 rw [← pow256]
 have : ((2 ^ (8 * c) : Nat) : Int) = (2 : Int) ^ (8 * c) := by rw [Int.natCast_pow]; rfl
 omega
theorem limbs_loop {l : List Int} (hl : l ≠ []) (hd : Dig 18446744073709551616 l) (ht : Top l) (hlen : l.length < 1073741824) :
  ∀ (m t : Nat), t + m = l.length → Ev (fun k => exact_Limbs.l0 k (l.take t) (bytesOf l (nbOf l)) ((nbOf l : Int) - 8 * (t : Int))) l := by
 have h0 : 0 < l.length := List.length_pos_iff.2 hl
 have hr := rd_dig hd (i := (l.length : Int) - 1) (by omega) (by omega)
 have hb := bitLen_le64 (x := (topOf l).toNat) (by unfold topOf; omega)
 have htop : topOf l ≠ 0 := by have := ht hl; rwa [getLast_rd] at this
 have hb1 := bitLen_pos (x := (topOf l).toNat) (by unfold topOf at htop ⊢; omega)
 have hnb : nbOf l = 8 * (l.length - 1) + (bitLen (topOf l).toNat + 7) / 8 := rfl
 have hnl : (bytesOf l (nbOf l)).length = nbOf l := by simp [bytesOf]
 intro m
 induction m with
 | zero =>
  intro t htt
  have : t = l.length := by omega
  subst this
  refine Ev.succ (Ev.congr (Ev.pure _) fun k => ?_)
  rw [exact_Limbs.l0, if_neg (by omega), List.take_length]
 | succ m ih =>
  intro t htt
  have hx := rd_dig hd (i := (t : Int)) (by omega) (by omega)
  have h5 : 8 * t < nbOf l := by omega
  have hih := ih (t + 1) (by omega)
  rw [show l.take (t + 1) = l.take t ++ [rd l (t : Int)] from take_rd l (by omega)] at hih
  obtain ⟨x5, e5⟩ : ∃ x5, x5 = nbOf l - 8 * t := ⟨_, rfl⟩
  obtain ⟨c, ec⟩ : ∃ c, ((bytesOf l (nbOf l)).take x5).drop (x5 - 8) = c := ⟨_, rfl⟩
  have hcl : c.length = x5 - (x5 - 8) := by rw [← ec, List.length_drop, List.length_take, hnl]; omega
  have hcr : ∀ u : Nat, u < c.length → rd c (u : Int) = rd l (t : Int) / 256 ^ (c.length - 1 - u) % 256 := by
   intro u hu
   have h1 : rd c (u : Int) = (bytesOf l (nbOf l))[x5 - 8 + u]'(by rw [hnl]; omega) := by
    rw [rd_nat c hu]
    simp only [← ec, List.getElem_drop, List.getElem_take]
   have e8 : nbOf l - 1 - (x5 - 8 + u) = 8 * t + (c.length - 1 - u) := by omega
   rw [h1, rd_bytes l (nbOf l) _ (by omega), e8]
   unfold byteAt
   rw [show (8 * t + (c.length - 1 - u)) / 8 = t by omega, show (8 * t + (c.length - 1 - u)) % 8 = c.length - 1 - u by omega]
  have hzero : rd l (t : Int) / 256 ^ c.length = 0 := by
   refine Int.ediv_eq_zero_of_lt hx.1 ?_
   rcases Nat.lt_or_ge (t + 1) l.length with hlt | hge
   ·have : c.length = 8 := by omega
    rw [this]; exact hx.2
   ·have e : topOf l = rd l (t : Int) := by unfold topOf; rw [show (l.length : Int) - 1 = (t : Int) by omega]
    rw [← e]
    refine pow_bits (by rw [e]; exact hx.1) _ ?_
    omega
  have hnx : wrap64 ((x5 : Int) - 8) = (nbOf l : Int) - 8 * ((t + 1 : Nat) : Int) := by rw [w64 (by omega) (by omega)]; omega
  have hloop := limb_loop (rd l (t : Int)) hx.1 hx.2 (l.take t) (bytesOf l (nbOf l)) (x5 : Int) c (by clear hnx; omega) hcr (by clear hnx; rw [List.length_take]; omega) _ hnx l hih c.length 0 (by clear hnx; omega)
  rw [hzero] at hloop
  refine Ev.succ (Ev.congr hloop fun k => ?_)
  rw [show (nbOf l : Int) - 8 * (t : Int) = (x5 : Int) by clear hnx; omega]
  exact limbs_out k (l.take t) (bytesOf l (nbOf l)) x5 (x5 - 8) c (by clear hnx; omega) (by clear hnx; omega) rfl (by clear hnx; omega) ec
theorem limbs_ev {l : List Int} (hl : l ≠ []) (hd : Dig 18446744073709551616 l) (ht : Top l) (hlen : l.length < 1073741824) : Ev (fun k => exact_Limbs.f k (bytesOf l (nbOf l))) l := by
 have hnl : (bytesOf l (nbOf l)).length = nbOf l := by simp [bytesOf]
 refine Ev.congr (limbs_loop hl hd ht hlen l.length 0 (by omega)) fun k => ?_
 unfold exact_Limbs.f
 rw [hnl]
 simp
theorem clone_f (l : List Int) (h : l.length < 17592186044416) : sClone.f l = some l := by
 unfold sClone.f
 simp [h]
theorem bigLimbs_ev {l : List Int} {n : Int} (h : Can 18446744073709551616 l n) (hlen : l.length < 1073741824) : Ev (fun k => bigLimbs.f k l) l := by
 refine Ev.bind1 (clone_f l (by omega)) ?_
 refine Ev.bind (g := fun k m => (bIBytes.f k m).bind fun b => exact_Limbs.f k b) (trim_can (by omega) h (by omega)) ?_
 by_cases hl : l = []
 ·subst hl
  refine Ev.bind (g := fun k b => exact_Limbs.f k b) (a := []) ?_ ?_
  ·refine Ev.succ (Ev.congr (Ev.pure _) fun k => ?_)
   unfold bIBytes.f big_size.f
   rw [if_pos (show ((([] : List Int).length : Nat) : Int) = 0 from rfl)]
   simp [wrap64, bIBytes.l0]
  ·refine Ev.succ (Ev.congr (Ev.pure _) fun k => ?_)
   unfold exact_Limbs.f
   rw [exact_Limbs.l0]
   simp
 ·exact Ev.bind (g := fun k b => exact_Limbs.f k b) (bytes_ev hl h.1.1 hlen) (limbs_ev hl h.1.1 h.2 hlen)
theorem told_ev {l : List Int} {n : Int} (h : Can 18446744073709551616 l n) (hlen : l.length ≤ 4096) (neg : Bool) : Ev (fun k => exact_Told.f k (neg && decide (0 < l.length)) l) (neg && decide (0 < l.length), l, true) := by
 unfold exact_Told.f bigSign.f
 simp only [Option.bind_some]
 refine Ev.bind (g := fun _ (t103 : List Int) => if (t103.length : Int) > 4096 then some (false, ([] : List Int), false) else some (decide ((if l.length = 0 then (0 : Int) else if (neg && decide (0 < l.length)) = true then -1 else 1) < 0), t103, true)) (bigLimbs_ev h (by omega)) (Ev.const ?_)
 rw [if_neg (by omega)]
 congr 2
 by_cases h0 : l.length = 0
 ·simp [h0]
 ·rw [if_neg h0]
  cases neg <;> simp [show 0 < l.length by omega]
theorem bigRead_of {s : ByteArray} {b : Int} {q1 m : List Int} {q2 : Bool} {r : Bool × List Int × Bool} (h1 : Ev (fun k => bISetString.f k 0 s b) (q1, q2)) (h2 : Ev (fun k => big_trim.f k q1) m)
  (h3 : Ev (fun k => exact_Told.f k (q2 && decide (0 < m.length)) m) r) : Ev (fun k => bigRead.f k s b) r := by
 obtain ⟨K1, h1⟩ := h1
 obtain ⟨K2, h2⟩ := h2
 obtain ⟨K3, h3⟩ := h3
 refine ⟨max K1 (max K2 K3), fun k hk => ?_⟩
 have e1 : bISetString.f k 0 s b = some (q1, q2) := h1 k (by omega)
 have e2 : big_trim.f k q1 = some m := h2 k (by omega)
 have e3 : exact_Told.f k (q2 && decide (0 < m.length)) m = some r := h3 k (by omega)
 show bigRead.f k s b = some r
 unfold bigRead.f
 rw [e1, Option.bind_some, e2, Option.bind_some, e3]
theorem bigRead_ev (s : ByteArray) (b : Int) (hb : 2 ≤ b) (hb' : b ≤ 36) (hs0 : 0 < (bodyOf s).size) (hs : s.size ≤ 4096) (hg : ∀ i : Nat, i < (bodyOf s).size → 0 ≤ wv (bt (bodyOf s) i) b) :
  ∃ l, Ev (fun k => bigRead.f k s b) ((bt s 0 == 45) && decide (0 < l.length), l, true) ∧ Can 18446744073709551616 l (D b (fun i => wv (bt (bodyOf s) i) b) (bodyOf s).size) := by
 obtain ⟨l, h1, h2⟩ := ss_ev s b hb hb' hs0 (by omega) hg
 have hbs : (bodyOf s).size ≤ s.size := by unfold bodyOf; split <;> simp
 have hlen : l.length ≤ (bodyOf s).size := by
  refine Can_len (by omega) h2 ?_
  have h1 := D_lt (b := b) (g := fun i => wv (bt (bodyOf s) i) b) (t := (bodyOf s).size) (by omega) (fun j _ => wv_lt _ b (by omega))
  have h2 := pow_mono (show 0 ≤ b by omega) (show b ≤ 18446744073709551616 by omega) (bodyOf s).size
  exact Int.lt_of_lt_of_le h1 h2
 have hl4 : l.length ≤ 4096 := by omega
 have hl5 : l.length < 4611686018427387904 := by omega
 refine ⟨l, ?_, h2⟩
 exact bigRead_of h1 (trim_can (B := 18446744073709551616) (n := D b (fun i => wv (bt (bodyOf s) i) b) (bodyOf s).size) (by omega) h2 hl5) (told_ev h2 hl4 (bt s 0 == 45))
end Go.Proofs.Ytbmddlldadbfnaa.BM
end
section
namespace Go.Proofs.Ytbmddlldadbfnaa.BM
open Go.RowKit Go.Proofs.YtbmddlldadbfnaaW.PrintWords Go.Proofs.YtbmddlldadbfnaaW.PrintLast Go.Proofs.YtbmddlldadbfnaaW.PrintMore
open Go.Proofs.Ytbmddlldadbfnaa.BB
def Late (P : Nat → Prop) : Prop := ∃ K, ∀ k, K ≤ k → P k
theorem Late.and {P Q : Nat → Prop} (h : Late P) (h' : Late Q) : Late fun k => P k ∧ Q k := by
 obtain ⟨K, hK⟩ := h
 obtain ⟨L, hL⟩ := h'
 exact ⟨max K L, fun k hk => ⟨hK k (by omega), hL k (by omega)⟩⟩
theorem Ev.late {α : Type} {f : Nat → Option α} {r : α} (h : Ev f r) : Late fun k => f k = some r := h
theorem Late.step {β : Type} {P : Nat → Prop} {g t : Nat → Option β} {r : β} (hP : Late P) (h : ∀ k, P k → t k = g k) (hg : Ev g r) : Ev t r := by
 obtain ⟨K, hK⟩ := hP
 obtain ⟨L, hL⟩ := hg
 exact ⟨max K L, fun k hk => (h k (hK k (by omega))).trans (hL k (by omega))⟩
def dgt (x : Int) : Int := if x < 10 then 48 + x else 87 + x
end Go.Proofs.Ytbmddlldadbfnaa.BM
end
section
namespace Go.Proofs.Ytbmddlldadbfnaa.BM
open Go.RowKit Go.Proofs.YtbmddlldadbfnaaW.PrintWords Go.Proofs.YtbmddlldadbfnaaW.PrintLast Go.Proofs.YtbmddlldadbfnaaW.PrintMore
def scan (s : ByteArray) (b : Int) (st : Nat) : Nat → Nat → Int
 | 0, _ => if st = s.size then (s.size : Int) else -1
 | m + 1, i => if wv (bt s (i : Int)) b < 0 then (i : Int) else if wv (bt s (i : Int)) b = 0 ∧ i = st ∧ st = 1 then (i : Int) else if i = st + 1 ∧ bt s (st : Int) = 48 then (i : Int) else scan s b st m (i + 1)
theorem scan_ok {s : ByteArray} {b : Int} {st : Nat} : ∀ (m i : Nat), scan s b st m i < 0 → i + m = s.size → st ≠ s.size ∧ ∀ j, i ≤ j → j < s.size → 0 ≤ wv (bt s (j : Int)) b
 | 0, i, h, hi => by
  unfold scan at h
  by_cases hs : st = s.size
  ·rw [if_pos hs] at h; omega
  ·exact ⟨hs, fun j h1 h2 => by omega⟩
 | m + 1, i, h, hi => by
  unfold scan at h
  split at h
  ·omega
  ·rename_i h1
   split at h
   ·omega
   ·split at h
    ·omega
    ·obtain ⟨h2, h3⟩ := scan_ok m (i + 1) h (by omega)
     refine ⟨h2, fun j hj hj2 => ?_⟩
     rcases Nat.eq_or_lt_of_le hj with he | hlt
     ·subst he; omega
     ·exact h3 j hlt hj2
section
open Go.Proofs.Ytbmddlldadbfnaa.BB
def startOf (s : ByteArray) : Nat := if bt s 0 = 45 then 1 else 0
theorem start_le (s : ByteArray) : startOf s ≤ s.size := by
 unfold startOf
 split
 ·rename_i h
  rcases Nat.eq_zero_or_pos s.size with h0 | h0
  ·exfalso
   unfold bt at h
   rw [dif_neg (by show ¬ (0 < s.size); omega)] at h
   omega
  ·exact h0
 ·omega
end
section
open Go.Proofs.Ytbmddlldadbfnaa.BA
def allDigits : ByteArray := (⟨#[48, 49, 50, 51, 52, 53, 54, 55, 56, 57, 97, 98, 99, 100, 101, 102, 103, 104, 105, 106, 107, 108, 109, 110, 111, 112, 113, 114, 115, 116, 117, 118, 119, 120, 121, 122]⟩ : ByteArray)
theorem allDigits_bt : ∀ i : Fin 36, bt allDigits ((i.val : Nat) : Int) = dgt (i.val : Int) := by decide +kernel
theorem digits_size (b : Int) (hb : 2 ≤ b) (hb' : b ≤ 36) : ((baseDigits b).size : Int) = b := by
 unfold baseDigits
 rw [ByteArray.size_extract]
 have : allDigits.size = 36 := by decide +kernel
 show ((min b.toNat allDigits.size - 0 : Nat) : Int) = b
 omega
theorem digits_bt (b : Int) (hb : 2 ≤ b) (hb' : b ≤ 36) (i : Nat) (h : (i : Int) < b) : bt (baseDigits b) (i : Int) = dgt i := by
 have hsz : allDigits.size = 36 := by decide +kernel
 have h1 := bt_extract allDigits (i := 0) (j := b.toNat) (t := i) (by omega) (by omega)
 rw [Nat.zero_add] at h1
 exact h1.trans (allDigits_bt ⟨i, by omega⟩)
theorem runeAt_loop (r b : Int) (hb : 2 ≤ b) (hb' : b ≤ 36) : ∀ (m i : Nat), ((i + m : Nat) : Int) = b → (∀ t : Int, 0 ≤ t → t < i → dgt t ≠ r) → Ev (fun k => base_runeAt.l0 k (baseDigits b) r i) (wv r b) := by
 have hsz := digits_size b hb hb'
 intro m
 induction m with
 | zero =>
  intro i hx hn
  refine Ev.succ (Ev.congr (Ev.pure _) fun k => ?_)
  rw [base_runeAt.l0, if_neg (by omega)]
  congr 1
  have h1 := hn (r - 48)
  have h2 := hn (r - 87)
  unfold dgt at h1 h2
  unfold wv
  split
  ·rw [if_pos (by omega)] at h1; omega
  ·split
   ·rw [if_neg (by omega)] at h2; omega
   ·rfl
 | succ m ih =>
  intro i hx hn
  have hd := digits_bt b hb hb' i (by omega)
  have hlt : dgt (i : Int) < 128 := by unfold dgt; split <;> omega
  by_cases hr : dgt (i : Int) = r
  ·refine Ev.succ (Ev.congr (Ev.pure _) fun k => ?_)
   rw [base_runeAt.l0, if_pos (by omega), hd, if_pos hlt, if_pos hr]
   congr 1
   unfold dgt at hr
   unfold wv
   split at hr <;> (repeat' split) <;> omega
  ·refine Ev.succ (Ev.congr (ih (i + 1) (by omega) (fun t ht0 ht1 => ?_)) fun k => ?_)
   ·rcases Int.lt_or_eq_of_le (show t ≤ (i : Int) by omega) with h | h
    ·exact hn t ht0 h
    ·subst h; exact hr
   ·rw [base_runeAt.l0, if_pos (by omega), hd, if_pos hlt, if_neg hr]
theorem runeAt_ev (r b : Int) (hb : 2 ≤ b) (hb' : b ≤ 36) : Ev (fun k => base_runeAt.f k (baseDigits b) r) (wv r b) :=
 runeAt_loop r b hb hb' b.toNat 0 (by omega) (fun t h0 h1 => by omega)
theorem decode_high (s : ByteArray) (i : Nat) (h : 128 ≤ (s.get! i).toNat) : 128 ≤ (Utf8.decode s i).1 := by
 unfold Utf8.decode
 simp only [Nat.add_zero]
 rw [if_neg (by omega)]
 (repeat' split) <;> (try simp only [Utf8.runeError]) <;> (try omega)
 all_goals (rename_i h; simp only [Bool.and_eq_true, decide_eq_true_eq] at h; omega)
theorem get_at (s : ByteArray) (i : Nat) (h : i < s.size) : s.get! i = s[i]'h := by
 simp [ByteArray.get!, getElem!_pos, h]
 rfl
theorem get_bt (s : ByteArray) (i : Nat) (h : i < s.size) : ((s.get! i).toNat : Int) = bt s (i : Int) := by
 unfold bt
 have e : ((i : Nat) : Int).toNat = i := by omega
 simp only [e]
 rw [dif_pos h]
 congr 2
 exact get_at s i h
theorem decode_wv (s : ByteArray) (i : Nat) (h : i < s.size) (b : Int) : wv ((Utf8.decode s i).1 : Int) b = wv (bt s (i : Int)) b ∧ (0 ≤ wv (bt s (i : Int)) b → (Utf8.decode s i).2 = 1) := by
 have hg := get_bt s i h
 by_cases ha : (s.get! i).toNat < 128
 ·have e : s[i]'h = s.get! i := (get_at s i h).symm
  have := decode_ascii s i h (by rw [e]; exact ha)
  rw [this, e]
  refine ⟨?_, fun _ => rfl⟩
  show wv (((s.get! i).toNat : Nat) : Int) b = _
  rw [hg]
 ·have h1 := decode_high s i (by omega)
  have e1 : wv ((Utf8.decode s i).1 : Int) b = -1 := by unfold wv; rw [if_neg (by omega), if_neg (by omega)]
  have e2 : wv (bt s (i : Int)) b = -1 := by unfold wv; rw [if_neg (by omega), if_neg (by omega)]
  refine ⟨by rw [e1, e2], fun h => by rw [e2] at h; omega⟩
theorem wrong_loop (s body : ByteArray) (b : Int) (hb : 2 ≤ b) (hb' : b ≤ 36) (st : Nat) (hs : s.size < 1099511627776) (hsz : body.size = s.size - st) (hst : st ≤ s.size) (hbt : ∀ i : Nat, i < body.size → bt body (i : Int) = bt s ((st + i : Nat) : Int)) (h1 : st ≤ 1) :
  ∀ (m i : Nat), i + m = body.size → Ev (fun k => base_wrong.l0 k s b body st i) (scan s b st m (st + i)) := by
 intro m
 induction m with
 | zero =>
  intro i hi
  refine Ev.succ (Ev.congr (Ev.pure _) fun k => ?_)
  rw [base_wrong.l0, if_neg (by omega)]
  unfold scan
  by_cases h : st = s.size
  ·rw [if_pos h, if_pos (by omega)]
  ·rw [if_neg h, if_neg (by omega)]
 | succ m ih =>
  intro i hi
  obtain ⟨hd1, hd2⟩ := decode_wv body i (by omega) b
  rw [hbt i (by omega)] at hd1 hd2
  have hw := runeAt_ev ((Utf8.decode body i).1 : Int) b hb hb'
  rw [hd1] at hw
  have e : wrap64 ((st : Int) + (i : Int)) = ((st + i : Nat) : Int) := by rw [w64 (by omega) (by omega)]; omega
  have c1 : i < body.size := by clear e; omega
  have hb0 : i = 1 → bt body 0 = bt s (st : Int) := fun h => by
   have := hbt 0 (by clear e; omega)
   simpa using this
  have k0 : ∀ k, base_runeAt.f k (baseDigits b) ((Utf8.decode body i).1 : Int) = some (wv (bt s ((st + i : Nat) : Int)) b) → base_wrong.l0 (k + 1) s b body st i =
    if wv (bt s ((st + i : Nat) : Int)) b < 0 then some ((st + i : Nat) : Int) else if wv (bt s ((st + i : Nat) : Int)) b = 0 ∧ st + i = st ∧ st = 1 then some ((st + i : Nat) : Int)
    else if st + i = st + 1 ∧ bt s (st : Int) = 48 then some ((st + i : Nat) : Int) else base_wrong.l0 k s b body st (i + (Utf8.decode body i).2) := by
   intro k hk
   rw [base_wrong.l0, if_pos c1, hk, Option.bind_some, e]
   clear e
   by_cases g1 : wv (bt s ((st + i : Nat) : Int)) b < 0
   ·rw [if_pos g1, if_pos g1]
   ·rw [if_neg g1, if_neg g1]
    by_cases g2 : wv (bt s ((st + i : Nat) : Int)) b = 0 ∧ st + i = st ∧ st = 1
    ·rw [if_pos g2, if_pos ⟨g2.1, by omega, by omega⟩]
    ·rw [if_neg g2, if_neg (fun h => g2 ⟨h.1, by omega, by omega⟩)]
     by_cases g3 : st + i = st + 1 ∧ bt s (st : Int) = 48
     ·rw [if_pos g3, if_pos ⟨by omega, by rw [hb0 (by omega)]; exact g3.2⟩]
     ·rw [if_neg g3, if_neg (fun h => g3 ⟨by omega, by rw [← hb0 h.1]; exact h.2⟩)]
  refine Ev.succ ?_
  by_cases g1 : wv (bt s ((st + i : Nat) : Int)) b < 0
  ·refine Late.step (g := fun _ => some ((st + i : Nat) : Int)) hw.late (fun k hk => ?_) (Ev.const (by rw [scan, if_pos g1]))
   rw [k0 k hk, if_pos g1]
  ·by_cases g2 : wv (bt s ((st + i : Nat) : Int)) b = 0 ∧ st + i = st ∧ st = 1
   ·refine Late.step (g := fun _ => some ((st + i : Nat) : Int)) hw.late (fun k hk => ?_) (Ev.const (by rw [scan, if_neg g1, if_pos g2]))
    rw [k0 k hk, if_neg g1, if_pos g2]
   ·by_cases g3 : st + i = st + 1 ∧ bt s (st : Int) = 48
    ·refine Late.step (g := fun _ => some ((st + i : Nat) : Int)) hw.late (fun k hk => ?_) (Ev.const (by rw [scan, if_neg g1, if_neg g2, if_pos g3]))
     rw [k0 k hk, if_neg g1, if_neg g2, if_pos g3]
    ·have he : scan s b st (m + 1) (st + i) = scan s b st m (st + (i + 1)) := by rw [scan, if_neg g1, if_neg g2, if_neg g3]; rfl
     rw [he]
     refine Late.step hw.late (fun k hk => ?_) (ih (i + 1) (by clear e; omega))
     rw [k0 k hk, if_neg g1, if_neg g2, if_neg g3, hd2 (by clear e; omega)]
theorem body_size (s : ByteArray) : (bodyOf s).size = s.size - startOf s := by
 have := start_le s
 unfold bodyOf startOf
 by_cases h : bt s 0 = 45
 ·have h0 : 0 < s.size := by unfold startOf at this; rw [if_pos h] at this; omega
  rw [if_pos ⟨h0, h⟩, if_pos h, ByteArray.size_extract]; omega
 ·rw [if_neg (fun h' => h h'.2), if_neg h]; omega
theorem body_bt (s : ByteArray) (i : Nat) (hi : i < (bodyOf s).size) : bt (bodyOf s) (i : Int) = bt s ((startOf s + i : Nat) : Int) := by
 rw [body_size] at hi
 have := start_le s
 unfold bodyOf
 unfold startOf at hi this ⊢
 by_cases h : bt s 0 = 45
 ·rw [if_pos h] at hi this ⊢
  rw [if_pos ⟨by omega, h⟩]
  exact bt_extract s (by omega) (by omega)
 ·rw [if_neg h] at hi this ⊢
  rw [if_neg (fun h' => h h'.2), Nat.zero_add]
theorem trimPrefix (s : ByteArray) : strings_TrimPrefix.f s (⟨#[45]⟩ : ByteArray) = some (bodyOf s) := by
 unfold strings_TrimPrefix.f stringslite_TrimPrefix.f stringslite_HasPrefix.f bodyOf
 have e : ((⟨#[45]⟩ : ByteArray).size : Int) = 1 := rfl
 rw [e]
 by_cases h0 : 0 < s.size
 ·rw [if_pos (by omega), if_pos (by decide), if_pos (by omega), Option.bind_some]
  have hx : ((s.extract 0 (1 : Int).toNat).toList == (⟨#[45]⟩ : ByteArray).toList) = decide (bt s 0 = 45) := by
   have h1 : s.extract 0 1 = ⟨#[s[0]'h0]⟩ := by
    apply ByteArray.ext
    apply Array.ext
    ·show (s.extract 0 1).size = 1
     rw [ByteArray.size_extract]; omega
    ·intro i h1 h2
     have : i = 0 := by simp at h2; omega
     subst this
     exact ByteArray.getElem_extract (i := 0) (b := s) (start := 0) (stop := 1) (by rw [ByteArray.size_extract]; omega)
   show ((s.extract 0 1).toList == _) = _
   rw [h1]
   have h2 : (⟨#[s[0]'h0]⟩ : ByteArray).toList = [s[0]'h0] := ByteArray.toList_mk [s[0]'h0]
   have h3 : (⟨#[45]⟩ : ByteArray).toList = [45] := ByteArray.toList_mk [45]
   rw [h2, h3]
   have h4 : bt s 0 = ((s[0]'h0).toNat : Int) := by unfold bt; rw [dif_pos (by exact h0)]; rfl
   rw [h4]
   by_cases h5 : s[0]'h0 = 45
   ·rw [h5]; rfl
   ·have : ¬ ((s[0]'h0).toNat : Int) = 45 := fun h => h5 (UInt8.toNat_inj.1 (by simpa using (by omega : (s[0]'h0).toNat = 45)))
    rw [decide_eq_false this]
    simp [h5]
  rw [hx]
  by_cases h : bt s 0 = 45
  ·rw [decide_eq_true h, if_pos rfl, if_pos (by decide), if_pos (by omega), Option.bind_some, if_pos ⟨h0, h⟩]
   rfl
  ·rw [decide_eq_false h, if_neg (by decide), Option.bind_some, if_neg (fun h' => h h'.2)]
 ·rw [if_neg (by omega), Option.bind_some, if_neg (by decide), Option.bind_some, if_neg (fun h => h0 h.1)]
theorem wrong_ev (s : ByteArray) (b : Int) (hb : 2 ≤ b) (hb' : b ≤ 36) (hs : s.size < 1099511627776) : Ev (fun k => base_wrong.f k s b) (scan s b (startOf s) (s.size - startOf s) (startOf s)) := by
 have hst := start_le s
 have hst1 : startOf s ≤ 1 := by unfold startOf; split <;> omega
 have hsz := body_size s
 have h := wrong_loop s (bodyOf s) b hb hb' (startOf s) hs hsz hst (body_bt s) hst1 (s.size - startOf s) 0 (by omega)
 refine Ev.congr h fun k => ?_
 unfold base_wrong.f
 have e : wrap64 ((s.size : Int) - ((bodyOf s).size : Int)) = (startOf s : Int) := by rw [w64 (by omega) (by omega)]; omega
 rw [if_pos ⟨by clear e; omega, hb'⟩, trimPrefix, Option.bind_some, e]
end
end Go.Proofs.Ytbmddlldadbfnaa.BM
end
section
namespace Go.Proofs.Ytbmddlldadbfnaa.BM
open Go.RowKit Go.Proofs.YtbmddlldadbfnaaW.PrintWords Go.Proofs.YtbmddlldadbfnaaW.PrintLast Go.Proofs.YtbmddlldadbfnaaW.PrintMore
open Go.Proofs.Ytbmddlldadbfnaa.BA Go.Proofs.Ytbmddlldadbfnaa.BB
theorem Ev.of_mono {α : Type} {f : Nat → Option α} (hm : ∀ k, LeO (f k) (f (k + 1))) {k : Nat} {r : α} (h : f k = some r) : Ev f r := by
 refine ⟨k, fun j hj => ?_⟩
 obtain ⟨d, rfl⟩ : ∃ d, j = k + d := ⟨j - k, by omega⟩
 clear hj
 induction d with
 | zero => exact h
 | succ d ih => exact hm _ _ ih
theorem awake_at : w19awake.f 64 = some true := by decide +kernel
theorem awake_ev : Ev (fun k => w19awake.f k) true := Ev.of_mono (fun k => w19awake.mono k) awake_at
theorem samelimbs_loop (l : List Int) (hl : l.length < 1099511627776) : ∀ (m i : Nat), i + m = l.length → Ev (fun k => rkSameLimbs.l0 k l l i) true := by
 intro m
 induction m with
 | zero =>
  intro i hi
  refine Ev.succ (Ev.congr (Ev.pure _) fun k => ?_)
  rw [rkSameLimbs.l0, if_neg (by omega)]
 | succ m ih =>
  intro i hi
  refine Ev.succ (Ev.congr (ih (i + 1) (by omega)) fun k => ?_)
  have e : wrap64 ((i : Int) + 1) = ((i + 1 : Nat) : Int) := by rw [w64 (by omega) (by omega)]; omega
  have c : (i : Int) < (l.length : Int) := by clear e; omega
  rw [rkSameLimbs.l0, if_pos c, if_pos (Int.natCast_nonneg _), if_pos c, if_pos rfl, e]
theorem sameint_ev (n : Bool) (l : List Int) (hl : l.length < 1099511627776) : Ev (fun k => rkSameInt.f k n l n l) true := by
 refine Ev.congr (Ev.bind (g := fun _ t => some t) (samelimbs_loop l hl l.length 0 (by omega)) (Ev.pure _)) fun k => ?_
 unfold rkSameInt.f rkSameLimbs.f
 rw [if_pos (by simp), if_pos rfl]
 rfl
theorem may_true {b : Int} (h1 : 2 ≤ b) (h2 : b ≤ 36) : r19may.f b = some true := by unfold r19may.f; rw [if_pos h1, decide_eq_true h2]
end Go.Proofs.Ytbmddlldadbfnaa.BM
namespace Go.Proofs.Ytbmddlldadbfnaa.Pure
open Go.RowKit Go.Proofs.Ytbmddlldadbfnaa.BB Go.Proofs.Ytbmddlldadbfnaa.BM
end Go.Proofs.Ytbmddlldadbfnaa.Pure
end
section
namespace Go.Proofs.Ytbmddlldadbfnaa.BM
open Go.RowKit Go.Proofs.YtbmddlldadbfnaaW.PrintWords Go.Proofs.YtbmddlldadbfnaaW.PrintLast Go.Proofs.YtbmddlldadbfnaaW.PrintMore
open Go.Proofs.Ytbmddlldadbfnaa.BA
theorem whole_step (k : Nat) (l x4 : List Int) (nb i j : Nat) (hi : i < nb) (h4 : x4.length = nb) (hj : j = nb - 1 - i) (hj8 : j / 8 < l.length) (hn : nb < 1099511627776) :
  exact_Whole.l0 (k + 1) l x4 nb i = exact_Whole.l0 k l (x4.set i (byteAt l j)) nb ((i + 1 : Nat) : Int) := by
 have e1 : wrap64 ((wrap64 ((x4.length : Int) - 1)) - (i : Int)) = (j : Int) := by rw [w64 (n := (x4.length : Int) - 1) (by omega) (by omega), w64 (by omega) (by omega)]; omega
 have e2 : wrap64 (Int.tdiv ((j : Nat) : Int) 8) = ((j / 8 : Nat) : Int) := by rw [Int.tdiv_eq_ediv_of_nonneg (by omega), w64 (by omega) (by omega)]; omega
 have e3 : wrap64 (8 * (Int.tmod ((j : Nat) : Int) 8)) = ((8 * (j % 8) : Nat) : Int) := by rw [Int.tmod_eq_emod_of_nonneg (by omega), w64 (by omega) (by omega)]; omega
 have e4 : wrap64 ((i : Int) + 1) = ((i + 1 : Nat) : Int) := by rw [w64 (by omega) (by omega)]; omega
 have c1 : (i : Int) < (nb : Int) := by clear e1 e2 e3 e4; omega
 have c2 : ((j / 8 : Nat) : Int) < (l.length : Int) := by clear e1 e2 e3 e4; omega
 have c3 : (i : Int) < (x4.length : Int) := by clear e1 e2 e3 e4; omega
 rw [exact_Whole.l0, if_pos c1, e1, e2, e3, e4, if_pos (Int.natCast_nonneg _), if_pos c2, if_pos (Int.natCast_nonneg _), if_pos (Int.natCast_nonneg _), if_pos c3, shr_byte _ _ (Nat.mod_lt _ (by decide))]
 rfl
theorem whole_loop (l : List Int) (nb : Nat) (hn : nb < 1099511627776) (hl : ∀ j, j < nb → j / 8 < l.length) : ∀ (m i : Nat), i + m = nb →
  Ev (fun k => exact_Whole.l0 k l ((List.range i).map (fun i => byteAt l (nb - 1 - i)) ++ List.replicate m 0) nb i) (bytesOf l nb) := by
 intro m
 induction m with
 | zero =>
  intro i hi
  refine Ev.succ (Ev.congr (Ev.pure _) fun k => ?_)
  have : i = nb := by omega
  subst this
  rw [exact_Whole.l0, if_neg (Int.lt_irrefl _)]
  simp [bytesOf]
 | succ m ih =>
  intro i hi
  refine Ev.succ (Ev.congr (ih (i + 1) (by omega)) fun k => ?_)
  rw [whole_step k l _ nb i (nb - 1 - i) (by omega) (by simp; omega) rfl (hl _ (by omega)) hn]
  have e := set_pad ((List.range i).map (fun i => byteAt l (nb - 1 - i))) (byteAt l (nb - 1 - i)) m
  rw [List.length_map, List.length_range] at e
  rw [e, List.range_succ, List.map_append]
  rfl
theorem wholeB_ev (l : List Int) (hl : l.length < 100000000) : Ev (fun k => exact_Whole.f k l) (bytesOf l (8 * l.length)) := by
 have h := whole_loop l (8 * l.length) (by omega) (fun j hj => by omega) (8 * l.length) 0 (by omega)
 refine Ev.congr h fun k => ?_
 have e : wrap64 (8 * (l.length : Int)) = ((8 * l.length : Nat) : Int) := by rw [w64 (by omega) (by omega)]; omega
 have c : 8 * l.length ≤ 281474976710656 := by clear e; omega
 unfold exact_Whole.f
 rw [e, if_pos (Int.natCast_nonneg _), Int.toNat_natCast, if_pos c]
 simp
theorem or_at {A v : Int} {m : Nat} (hA : 0 ≤ A) (hv0 : 0 ≤ v) (hv : v < 256) (hm : m < 8) (ht : A * 256 ^ (m + 1) + v * 256 ^ m < 18446744073709551616) :
  Go.bits .or .u64 (A * 256 ^ (m + 1)) (shl .u64 (IntKind.u64.wrap v) ((8 * m : Nat) : Int)) = A * 256 ^ (m + 1) + v * 256 ^ m := by
 have hp := pow_pos' (show (0 : Int) < 256 by omega) m
 have hvm := Int.mul_nonneg hv0 (Int.le_of_lt hp)
 have hAm := Int.mul_nonneg hA (Int.le_of_lt (pow_pos' (show (0 : Int) < 256 by omega) (m + 1)))
 have hlt : v * 256 ^ m < 256 ^ (m + 1) := by
  rw [Int.pow_succ, Int.mul_comm ((256 : Int) ^ m)]
  exact Int.mul_lt_mul_of_pos_right hv hp
 have e1 : shl .u64 (IntKind.u64.wrap v) ((8 * m : Nat) : Int) = v * 256 ^ m := by
  unfold shl
  rw [u64 hv0 (by omega), show min ((8 * m : Nat) : Int).toNat IntKind.u64.bits = 8 * m by simp [IntKind.bits]; omega, pow256]
  exact u64 hvm (by omega)
 rw [e1]
 obtain ⟨a, ha⟩ := Int.eq_ofNat_of_zero_le hA
 obtain ⟨b, hb⟩ := Int.eq_ofNat_of_zero_le hvm
 have hP : ((2 ^ (8 * (m + 1)) : Nat) : Int) = (256 : Int) ^ (m + 1) := by rw [← pow256, Int.natCast_pow]; rfl
 have hA2 : A * 256 ^ (m + 1) = ((2 ^ (8 * (m + 1)) * a : Nat) : Int) := by rw [Int.natCast_mul, hP, ha]; exact Int.mul_comm _ _
 have hb2 : b < 2 ^ (8 * (m + 1)) := by omega
 rw [hA2, hb] at ht ⊢
 rw [bits_or_u64_nat _ b (by omega) (by omega), ← Nat.two_pow_add_eq_or_of_lt hb2]
 omega
def cleared (x : Int) (c : Nat) : Int := x / 256 ^ c * 256 ^ c
theorem cleared_zero (x : Int) : cleared x 0 = x := by simp [cleared]
theorem cleared_step (x : Int) (m : Nat) : x / 256 ^ (m + 1) * 256 ^ (m + 1) + x / 256 ^ m % 256 * 256 ^ m = cleared x m := by
 have := div_step x m
 unfold cleared
 rw [← this, Int.pow_succ]
 grind
theorem cleared_le {x : Int} (_h : 0 ≤ x) (m : Nat) : cleared x m ≤ x := by
 have := Int.ediv_mul_le x (show (256 : Int) ^ m ≠ 0 from Int.ne_of_gt (pow_pos' (by omega) m))
 exact this
theorem set_step (k : Nat) (bs x5 : List Int) (i j : Nat) (y : Int) (hi : i < bs.length) (hj : j = bs.length - 1 - i) (hj8 : j / 8 < x5.length) (hn : bs.length < 1099511627776)
  (hy : Go.bits .or .u64 (rd x5 ((j / 8 : Nat) : Int)) (shl .u64 (IntKind.u64.wrap (rd bs (i : Int))) ((8 * (j % 8) : Nat) : Int)) = y) :
  bISetBytes.l0 (k + 1) bs x5 bs.length i = bISetBytes.l0 k bs (x5.set (j / 8) y) bs.length ((i + 1 : Nat) : Int) := by
 have e1 : wrap64 ((wrap64 ((bs.length : Int) - 1)) - (i : Int)) = (j : Int) := by rw [w64 (n := (bs.length : Int) - 1) (by omega) (by omega), w64 (by omega) (by omega)]; omega
 have e2 : wrap64 (Int.tdiv ((j : Nat) : Int) 8) = ((j / 8 : Nat) : Int) := by rw [Int.tdiv_eq_ediv_of_nonneg (by omega), w64 (by omega) (by omega)]; omega
 have e3 : wrap64 (8 * (Int.tmod ((j : Nat) : Int) 8)) = ((8 * (j % 8) : Nat) : Int) := by rw [Int.tmod_eq_emod_of_nonneg (by omega), w64 (by omega) (by omega)]; omega
 have e4 : wrap64 ((i : Int) + 1) = ((i + 1 : Nat) : Int) := by rw [w64 (by omega) (by omega)]; omega
 rw [bISetBytes.l0, if_pos (Int.ofNat_lt.2 hi), e1, e2, e3, e4, if_pos (Int.natCast_nonneg _), if_pos (Int.ofNat_lt.2 hj8), if_pos (Int.natCast_nonneg _), if_pos (Int.ofNat_lt.2 hi), if_pos (Int.natCast_nonneg _), hy, Int.toNat_natCast]
theorem setbytes_loop {l : List Int} (hd : Dig 18446744073709551616 l) (hlen : l.length < 100000000) : ∀ (m i : Nat) (x5 : List Int), i + m = 8 * l.length → x5.length = l.length + 1 →
  (∀ t : Nat, t < l.length → rd x5 (t : Int) = cleared (rd l (t : Int)) (min (8 * l.length - i - 8 * t) 8)) → rd x5 ((l.length : Nat) : Int) = 0 →
  Ev (fun k => bISetBytes.l0 k (bytesOf l (8 * l.length)) x5 (bytesOf l (8 * l.length)).length i) (l ++ [0]) := by
 have hnl : (bytesOf l (8 * l.length)).length = 8 * l.length := by simp [bytesOf]
 intro m
 induction m with
 | zero =>
  intro i x5 hi hl hv hz
  refine Ev.succ (Ev.congr (Ev.pure _) fun k => ?_)
  rw [bISetBytes.l0, if_neg (by omega)]
  congr 1
  apply List.ext_getElem
  ·simp [hl]
  ·intro t h1 h2
   rcases Nat.lt_or_ge t l.length with hlt | hge
   ·have h3 := hv t hlt
    rw [show min (8 * l.length - i - 8 * t) 8 = 0 by omega, cleared_zero, rd_nat _ h1, rd_nat _ hlt] at h3
    rw [List.getElem_append_left hlt, h3]
   ·have : t = l.length := by omega
    subst this
    rw [rd_nat _ h1] at hz
    rw [hz]
    simp
 | succ m ih =>
  intro i x5 hi hl hv hz
  obtain ⟨j, hj⟩ : ∃ j, j = 8 * l.length - 1 - i := ⟨_, rfl⟩
  have hjt : j / 8 < l.length := by omega
  have hx := rd_dig hd (i := ((j / 8 : Nat) : Int)) (by omega) (by omega)
  have hb : rd (bytesOf l (8 * l.length)) (i : Int) = byteAt l j := by
   rw [rd_nat _ (by rw [hnl]; omega), rd_bytes l (8 * l.length) i (by omega), ← hj]
  have hold := hv (j / 8) hjt
  rw [show min (8 * l.length - i - 8 * (j / 8)) 8 = j % 8 + 1 by omega] at hold
  have hbr := byteAt_range l j
  have hle := cleared_le hx.1 (j % 8)
  have hcs := cleared_step (rd l ((j / 8 : Nat) : Int)) (j % 8)
  have hy : Go.bits .or .u64 (rd x5 ((j / 8 : Nat) : Int)) (shl .u64 (IntKind.u64.wrap (rd (bytesOf l (8 * l.length)) (i : Int))) ((8 * (j % 8) : Nat) : Int)) = cleared (rd l ((j / 8 : Nat) : Int)) (j % 8) := by
   rw [hold, hb]
   unfold cleared
   rw [or_at (Int.ediv_nonneg hx.1 (Int.pow_nonneg (by omega))) hbr.1 hbr.2 (by omega) (by unfold byteAt; rw [hcs]; omega)]
   unfold byteAt
   rw [hcs]
   rfl
  refine Ev.succ (Ev.congr (ih (i + 1) (x5.set (j / 8) (cleared (rd l ((j / 8 : Nat) : Int)) (j % 8))) (by omega) (by rw [List.length_set]; exact hl) (fun t ht => ?_) ?_) fun k => ?_)
  ·rw [rd_set _ _ _ _ (by omega)]
   by_cases h : t = j / 8
   ·rw [if_pos h, h, show min (8 * l.length - (i + 1) - 8 * (j / 8)) 8 = j % 8 by omega]
   ·rw [if_neg h, hv t ht]
    congr 1
    omega
  ·rw [rd_set _ _ _ _ (by omega), if_neg (by omega)]
   exact hz
  ·exact set_step k _ x5 i j _ (by rw [hnl]; omega) (by rw [hnl]; omega) (by omega) (by rw [hnl]; omega) hy
theorem setbytes_ev {l : List Int} (hd : Dig 18446744073709551616 l) (hlen : l.length < 100000000) : Ev (fun k => bISetBytes.f k 0 (bytesOf l (8 * l.length))) (l ++ [0]) := by
 have hnl : (bytesOf l (8 * l.length)).length = 8 * l.length := by simp [bytesOf]
 have hrep : ∀ t : Nat, rd (List.replicate (l.length + 1) 0) (t : Int) = 0 := by
  intro t
  unfold rd
  simp [List.getD_eq_getElem?_getD, List.getElem?_replicate]
  split <;> rfl
 have h := setbytes_loop hd hlen (8 * l.length) 0 (List.replicate (l.length + 1) 0) (by omega) (by simp) (fun t ht => by
  have hx := rd_dig hd (i := (t : Int)) (by omega) (by omega)
  rw [hrep, show min (8 * l.length - 0 - 8 * t) 8 = 8 by omega]
  unfold cleared
  rw [Int.ediv_eq_zero_of_lt hx.1 (show rd l (t : Int) < 256 ^ 8 from hx.2), Int.zero_mul]) (hrep _)
 refine Ev.congr h fun k => ?_
 have e : wrap64 ((wrap64 (((bytesOf l (8 * l.length)).length : Int) / 8)) + 1) = ((l.length + 1 : Nat) : Int) := by
  rw [hnl, w64 (n := ((8 * l.length : Nat) : Int) / 8) (by omega) (by omega), w64 (by omega) (by omega)]; omega
 have c : l.length + 1 ≤ 35184372088832 := by clear e; omega
 unfold bISetBytes.f
 rw [e, if_pos (Int.natCast_nonneg _), Int.toNat_natCast, if_pos c]
 rfl
theorem exactInt_ev {l : List Int} {n : Int} (h : Can 18446744073709551616 l n) (hl : l.length < 100000000) (neg : Bool) : Ev (fun k => exact_Int.f k neg l) (neg && decide (0 < l.length), l) := by
 have h1 := wholeB_ev l hl
 have h2 := setbytes_ev h.1.1 hl
 obtain ⟨r, h3, hc, _⟩ := trim_ev 18446744073709551616 (l.length + 1) (l := l ++ [0]) (n := n) (by simp) (by omega) ⟨Dig_snoc h.1.1 (by omega) (by omega), by rw [V_snoc, h.1.2]; simp⟩
 have := Can_unique (by omega) hc h
 subst this
 have h4 := trim_can (by omega) h (by omega)
 refine Late.step (g := fun _ => some (neg && decide (0 < r.length), r)) (h1.late.and (h2.late.and (h3.late.and h4.late))) (fun k hk => ?_) (Ev.pure _)
 have k1 : exact_Whole.f k r = some (bytesOf r (8 * r.length)) := hk.1
 have k2 : bISetBytes.f k 0 (bytesOf r (8 * r.length)) = some (r ++ [0]) := hk.2.1
 have k3 : big_trim.f k (r ++ [0]) = some r := hk.2.2.1
 have k4 : big_trim.f k r = some r := hk.2.2.2
 unfold exact_Int.f
 rw [k1, Option.bind_some, k2, Option.bind_some, k3, Option.bind_some]
 cases neg
 ·rfl
 ·rw [if_pos rfl, clone_f r (by omega), Option.bind_some, k4, Option.bind_some]
  rfl
end Go.Proofs.Ytbmddlldadbfnaa.BM
end
section
namespace Go.Proofs.Ytbmddlldadbfnaa.BM
open Go.RowKit Go.Proofs.YtbmddlldadbfnaaW.PrintWords Go.Proofs.YtbmddlldadbfnaaW.PrintLast Go.Proofs.YtbmddlldadbfnaaW.PrintMore
open Go.Proofs.Ytbmddlldadbfnaa.BA
theorem guess (y yn1 yn0 u d q rh : Int) (hy : y = yn1 * 4294967296 + yn0) (hq : q * yn1 + rh = u) : (q * yn0 > 4294967296 * rh + d) ↔ u * 4294967296 + d < q * y := by
 have e : q * y = (u - rh) * 4294967296 + q * yn0 := by rw [hy, ← hq]; grind
 rw [e]
 omega
structure Guess (y yn1 yn0 u d Q : Int) : Prop where
 hy : y = yn1 * 4294967296 + yn0
 h1 : 2147483648 ≤ yn1
 h2 : yn1 < 4294967296
 h3 : 0 ≤ yn0
 h4 : yn0 < 4294967296
 hu0 : 0 ≤ u
 hu : u < y
 hd0 : 0 ≤ d
 hd : d < 4294967296
 hQ : Q = (u * 4294967296 + d) / y
theorem Guess.le {y yn1 yn0 u d Q : Int} (g : Guess y yn1 yn0 u d Q) (q : Int) : q ≤ Q ↔ q * y ≤ u * 4294967296 + d := by
 rw [g.hQ]
 have := g.hu0; have := g.hu
 exact Int.le_ediv_iff_mul_le (by omega)
theorem Guess.range {y yn1 yn0 u d Q : Int} (g : Guess y yn1 yn0 u d Q) : 0 ≤ Q ∧ Q < 4294967296 := by
 have h0 := g.hu0; have h1 := g.hu; have h2 := g.hd0; have h3 := g.hd
 refine ⟨by rw [g.hQ]; exact Int.ediv_nonneg (by omega) (by omega), ?_⟩
 rcases Int.lt_or_le Q 4294967296 with h | h
 ·exact h
 ·have := (g.le 4294967296).1 h
  omega
theorem Guess.test {y yn1 yn0 u d Q q rh : Int} (g : Guess y yn1 yn0 u d Q) (hq : q * yn1 + rh = u) (_hr0 : 0 ≤ rh) (_hr : rh < 4294967296) (hge : Q ≤ q) (hle : q ≤ 4294967297) :
  ((q ≥ 4294967296 ∨ q * yn0 > 4294967296 * rh + d) → Q ≤ q - 1 ∧ (q - 1) * yn1 + (rh + yn1) = u ∧ (4294967296 ≤ rh + yn1 → q - 1 = Q)) ∧ (¬ (q ≥ 4294967296 ∨ q * yn0 > 4294967296 * rh + d) → q = Q) := by
 have hrg := g.range
 have hgs := guess y yn1 yn0 u d q rh g.hy hq
 have hl := g.le q
 refine ⟨fun h => ?_, fun h => ?_⟩
 ·have h1 : Q ≤ q - 1 := by
   rcases h with h | h
   ·omega
   ·have := hgs.1 h
    have : ¬ q ≤ Q := fun h' => by have := hl.1 h'; omega
    omega
  have h2 : (q - 1) * yn1 + (rh + yn1) = u := by rw [Int.sub_mul]; omega
  refine ⟨h1, h2, fun hb => ?_⟩
  have hgs2 := guess y yn1 yn0 u d (q - 1) (rh + yn1) g.hy h2
  have hn : ¬ ((q - 1) * yn0 > 4294967296 * (rh + yn1) + d) := by
   have h3 := g.h3; have h4 := g.h4; have hd0 := g.hd0
   have := Int.mul_le_mul (show q - 1 ≤ 4294967296 by omega) (show yn0 ≤ 4294967295 by omega) h3 (by omega)
   omega
  have : (q - 1) * y ≤ u * 4294967296 + d := by
   rcases Int.lt_or_le (u * 4294967296 + d) ((q - 1) * y) with h' | h'
   ·exact absurd (hgs2.2 h') hn
   ·exact h'
  have := (g.le (q - 1)).2 this
  omega
 ·have : ¬ (u * 4294967296 + d < q * y) := fun h' => h (.inr (hgs.2 h'))
  have := hl.2 (by omega)
  omega
theorem Guess.first {y yn1 yn0 u d Q : Int} (g : Guess y yn1 yn0 u d Q) : Q ≤ u / yn1 ∧ u / yn1 ≤ 4294967297 ∧ u / yn1 * yn1 + u % yn1 = u ∧ 0 ≤ u % yn1 ∧ u % yn1 < 4294967296 ∧ 0 ≤ u / yn1 := by
 have h1 := g.h1; have h2 := g.h2; have h3 := g.h3; have h4 := g.h4; have hu0 := g.hu0; have hu := g.hu; have hy := g.hy; have hd0 := g.hd0; have hd := g.hd
 have hr0 := Int.emod_nonneg u (show yn1 ≠ 0 by omega)
 have hr := Int.emod_lt_of_pos u (show 0 < yn1 by omega)
 have he : u / yn1 * yn1 + u % yn1 = u := by have := Int.mul_ediv_add_emod u yn1; rw [Int.mul_comm]; exact this
 refine ⟨?_, ?_, he, hr0, by omega, Int.ediv_nonneg hu0 (by omega)⟩
 ·have hrg := g.range
  have hq := (g.le Q).1 (Int.le_refl _)
  rw [Int.le_ediv_iff_mul_le (by omega)]
  have hm := Int.mul_nonneg hrg.1 h3
  have e : Q * y = Q * yn1 * 4294967296 + Q * yn0 := by rw [hy]; grind
  omega
 ·have : u / yn1 < 4294967298 := by
   rw [Int.ediv_lt_iff_lt_mul (by omega)]
   omega
  omega
theorem dv_test (q yn0 rh d : Int) (q0 : 0 ≤ q) (h3 : 0 ≤ yn0) (h4 : yn0 < 4294967296) (hr0 : 0 ≤ rh) (hr : rh < 4294967296) (hd0 : 0 ≤ d) (hd : d < 4294967296) (hq : q < 4294967296) :
  decide ((IntKind.u64.wrap (q * yn0)) > (IntKind.u64.wrap ((IntKind.u64.wrap (4294967296 * rh)) + d))) = decide (q * yn0 > 4294967296 * rh + d) := by
 have hm0 := Int.mul_nonneg q0 h3
 have hm1 := Int.mul_le_mul (show q ≤ 4294967295 by omega) (show yn0 ≤ 4294967295 by omega) h3 (by omega)
 rw [u64 hm0 (by omega), u64 (n := 4294967296 * rh) (by omega) (by omega), u64 (by omega) (by omega)]
theorem dv_loop1 {y s yn1 yn0 u d u0 Q : Int} (g : Guess y yn1 yn0 u d Q) {r : Int × Int} (hr : Ev (fun k => bits_Div64.j2 k y s yn1 yn0 u d u0 Q) r) :
  ∀ (m : Nat) (q rh : Int), (q - Q).toNat ≤ m → q * yn1 + rh = u → 0 ≤ rh → rh < 4294967296 → Q ≤ q → q ≤ 4294967297 → Ev (fun k => bits_Div64.l0 k y s yn1 yn0 u d u0 q rh) r := by
 have hrg := g.range
 have h1 := g.h1; have h2 := g.h2; have h3 := g.h3; have h4 := g.h4; have hd0 := g.hd0; have hd := g.hd
 intro m
 induction m with
 | zero =>
  intro q rh hm hq hr0 hrl hge hle
  obtain ⟨t1, t2⟩ := g.test hq hr0 hrl hge hle
  have hn : ¬ (q ≥ 4294967296 ∨ q * yn0 > 4294967296 * rh + d) := fun h => by have := (t1 h).1; omega
  have hqQ := t2 hn
  subst hqQ
  refine Ev.succ (Ev.succ (Ev.congr hr fun k => ?_))
  rw [bits_Div64.l0, if_neg (fun h => hn (.inl h)), dv_test q yn0 rh d hrg.1 h3 h4 hr0 hrl hd0 hd hrg.2, decide_eq_false (fun h => hn (.inr h)), bits_Div64.j1, if_neg (by decide)]
 | succ m ih =>
  intro q rh hm hq hr0 hrl hge hle
  obtain ⟨t1, t2⟩ := g.test hq hr0 hrl hge hle
  by_cases hc : q ≥ 4294967296 ∨ q * yn0 > 4294967296 * rh + d
  ·obtain ⟨a1, a2, a3⟩ := t1 hc
   have hhead : ∀ k, bits_Div64.l0 (k + 1 + 1) y s yn1 yn0 u d u0 q rh = bits_Div64.j1 (k + 1) y s yn1 yn0 u d u0 q rh true := by
    intro k
    rw [bits_Div64.l0]
    by_cases hb : q ≥ 4294967296
    ·rw [if_pos hb]
    ·rw [if_neg hb, dv_test q yn0 rh d (by omega) h3 h4 hr0 hrl hd0 hd (by omega), decide_eq_true (hc.elim (fun h => absurd h hb) id)]
   have e1 : IntKind.u64.wrap (rh + yn1) = rh + yn1 := u64 (by omega) (by omega)
   have e2 : IntKind.u64.wrap (q - 1) = q - 1 := u64 (by omega) (by omega)
   by_cases hb : 4294967296 ≤ rh + yn1
   ·have := a3 hb
    refine Ev.succ (Ev.succ (Ev.congr hr fun k => ?_))
    rw [hhead, bits_Div64.j1, if_pos rfl, e1, e2, if_pos hb, this]
   ·refine Ev.succ (Ev.succ (Ev.congr (ih (q - 1) (rh + yn1) (by omega) a2 (by omega) (by omega) a1 (by omega)) fun k => ?_))
    rw [hhead, bits_Div64.j1, if_pos rfl, e1, e2, if_neg hb]
  ·have hqQ := t2 hc
   subst hqQ
   refine Ev.succ (Ev.succ (Ev.congr hr fun k => ?_))
   rw [bits_Div64.l0, if_neg (fun h => hc (.inl h)), dv_test q yn0 rh d hrg.1 h3 h4 hr0 hrl hd0 hd hrg.2, decide_eq_false (fun h => hc (.inr h)), bits_Div64.j1, if_neg (by decide)]
theorem dv_loop2 {y s yn1 yn0 u d q1 Q : Int} (g : Guess y yn1 yn0 u d Q) {r : Int × Int} (hs : 0 ≤ s) (hr : some (IntKind.u64.wrap ((IntKind.u64.wrap (q1 * 4294967296)) + Q), shr .u64 (IntKind.u64.wrap ((IntKind.u64.wrap ((IntKind.u64.wrap (u * 4294967296)) + d)) - (IntKind.u64.wrap (Q * y)))) s) = some r) :
  ∀ (m : Nat) (q rh : Int), (q - Q).toNat ≤ m → q * yn1 + rh = u → 0 ≤ rh → rh < 4294967296 → Q ≤ q → q ≤ 4294967297 → Ev (fun k => bits_Div64.l1 k y s yn1 yn0 d q1 rh u q) r := by
 have hrg := g.range
 have h1 := g.h1; have h2 := g.h2; have h3 := g.h3; have h4 := g.h4; have hd0 := g.hd0; have hd := g.hd
 intro m
 induction m with
 | zero =>
  intro q rh hm hq hr0 hrl hge hle
  obtain ⟨t1, t2⟩ := g.test hq hr0 hrl hge hle
  have hn : ¬ (q ≥ 4294967296 ∨ q * yn0 > 4294967296 * rh + d) := fun h => by have := (t1 h).1; omega
  have hqQ := t2 hn
  subst hqQ
  refine Ev.succ (Ev.succ (Ev.congr (Ev.pure r) fun k => ?_))
  rw [bits_Div64.l1, if_neg (fun h => hn (.inl h)), dv_test q yn0 rh d hrg.1 h3 h4 hr0 hrl hd0 hd hrg.2, decide_eq_false (fun h => hn (.inr h)), bits_Div64.j4, if_neg (by decide), if_pos hs, hr]
 | succ m ih =>
  intro q rh hm hq hr0 hrl hge hle
  obtain ⟨t1, t2⟩ := g.test hq hr0 hrl hge hle
  by_cases hc : q ≥ 4294967296 ∨ q * yn0 > 4294967296 * rh + d
  ·obtain ⟨a1, a2, a3⟩ := t1 hc
   have hhead : ∀ k, bits_Div64.l1 (k + 1 + 1) y s yn1 yn0 d q1 rh u q = bits_Div64.j4 (k + 1) y s yn1 yn0 d q1 rh u q true := by
    intro k
    rw [bits_Div64.l1]
    by_cases hb : q ≥ 4294967296
    ·rw [if_pos hb]
    ·rw [if_neg hb, dv_test q yn0 rh d (by omega) h3 h4 hr0 hrl hd0 hd (by omega), decide_eq_true (hc.elim (fun h => absurd h hb) id)]
   have e1 : IntKind.u64.wrap (rh + yn1) = rh + yn1 := u64 (by omega) (by omega)
   have e2 : IntKind.u64.wrap (q - 1) = q - 1 := u64 (by omega) (by omega)
   by_cases hb : 4294967296 ≤ rh + yn1
   ·have := a3 hb
    refine Ev.succ (Ev.succ (Ev.congr (Ev.pure r) fun k => ?_))
    rw [hhead, bits_Div64.j4, if_pos rfl, e1, e2, if_pos hb, this, if_pos hs, hr]
   ·refine Ev.succ (Ev.succ (Ev.congr (ih (q - 1) (rh + yn1) (by omega) a2 (by omega) (by omega) a1 (by omega)) fun k => ?_))
    rw [hhead, bits_Div64.j4, if_pos rfl, e1, e2, if_neg hb]
  ·have hqQ := t2 hc
   subst hqQ
   refine Ev.succ (Ev.succ (Ev.congr (Ev.pure r) fun k => ?_))
   rw [bits_Div64.l1, if_neg (fun h => hc (.inl h)), dv_test q yn0 rh d hrg.1 h3 h4 hr0 hrl hd0 hd hrg.2, decide_eq_false (fun h => hc (.inr h)), bits_Div64.j4, if_neg (by decide), if_pos hs, hr]
end Go.Proofs.Ytbmddlldadbfnaa.BM
end
section
namespace Go.Proofs.Ytbmddlldadbfnaa.BM
open Go.RowKit Go.Proofs.YtbmddlldadbfnaaW.PrintWords Go.Proofs.YtbmddlldadbfnaaW.PrintLast Go.Proofs.YtbmddlldadbfnaaW.PrintMore
open Go.Proofs.Ytbmddlldadbfnaa.BA
theorem or_sum {a b : Int} {s : Nat} (ha : 0 ≤ a) (hb0 : 0 ≤ b) (hb : b < 2 ^ s) (ht : a * 2 ^ s + b < 18446744073709551616) : Go.bits .or .u64 (a * 2 ^ s) b = a * 2 ^ s + b := by
 obtain ⟨x, hx⟩ := Int.eq_ofNat_of_zero_le ha
 obtain ⟨z, hz⟩ := Int.eq_ofNat_of_zero_le hb0
 have hP : ((2 ^ s : Nat) : Int) = (2 : Int) ^ s := by rw [Int.natCast_pow]; rfl
 have e : a * 2 ^ s = ((2 ^ s * x : Nat) : Int) := by rw [Int.natCast_mul, hP, hx]; exact Int.mul_comm _ _
 have hz2 : z < 2 ^ s := by omega
 rw [e, hz] at ht ⊢
 rw [bits_or_u64_nat _ z (by omega) (by omega), ← Nat.two_pow_add_eq_or_of_lt hz2]
 omega
theorem wrap_mod (a d p r : Int) (h : a * 4294967296 + d - p = r) (h0 : 0 ≤ r) (h1 : r < 18446744073709551616) : IntKind.u64.wrap ((IntKind.u64.wrap ((IntKind.u64.wrap (a * 4294967296)) + d)) - (IntKind.u64.wrap p)) = r := by
 rw [u64m, u64m, u64m, u64m]
 omega
theorem dv_two {N P y y' u un10 un21 Q1 Q0 r : Int} (hP : 0 < P) (hy0 : 0 < y) (hy : y' = y * P) (hN : N * P = u * 18446744073709551616 + un10) (h1 : u * 4294967296 + un10 / 4294967296 = Q1 * y' + un21) (h2 : un21 * 4294967296 + un10 % 4294967296 = Q0 * y' + r)
  (hr0 : 0 ≤ r) (hr : r < y') : N / y = Q1 * 4294967296 + Q0 ∧ N % y = r / P := by
 have e : N * P = (Q1 * 4294967296 + Q0) * y' + r := by
  have hd := Int.mul_ediv_add_emod un10 4294967296
  rw [hN]
  have : (Q1 * 4294967296 + Q0) * y' = Q1 * y' * 4294967296 + Q0 * y' := by grind
  rw [this]
  omega
 have e2 : (N - (Q1 * 4294967296 + Q0) * y) * P = r := by
  rw [Int.sub_mul, e, hy]
  have : (Q1 * 4294967296 + Q0) * y * P = (Q1 * 4294967296 + Q0) * (y * P) := Int.mul_assoc _ _ _
  omega
 generalize hq : Q1 * 4294967296 + Q0 = Q at e2 ⊢
 generalize hrho : N - Q * y = rho at e2
 have hrho0 : 0 ≤ rho := by
  rcases Int.lt_or_le rho 0 with h | h
  ·have := Int.mul_lt_mul_of_pos_right h hP; rw [Int.zero_mul] at this; omega
  ·exact h
 have hrho1 : rho < y := by
  rcases Int.lt_or_le rho y with h | h
  ·exact h
  ·have := Int.mul_le_mul_of_nonneg_right h (Int.le_of_lt hP); rw [← hy] at this; omega
 have eN : N = rho + y * Q := by rw [Int.mul_comm y Q]; omega
 refine ⟨?_, ?_⟩
 ·rw [eN, Int.add_mul_ediv_left _ _ (by omega), Int.ediv_eq_zero_of_lt hrho0 hrho1, Int.zero_add]
 ·rw [eN, Int.add_mul_emod_self_left, Int.emod_eq_of_lt hrho0 hrho1, ← e2, Int.mul_ediv_cancel _ (by omega)]
theorem dv_split {hi lo : Int} {s : Nat} (hs : s ≤ 64) : (hi * 18446744073709551616 + lo) * 2 ^ s = (hi * 2 ^ s + lo / 2 ^ (64 - s)) * 18446744073709551616 + lo * 2 ^ s % 18446744073709551616 := by
 have hW : (18446744073709551616 : Int) = 2 ^ s * 2 ^ (64 - s) := by rw [← Int.pow_add, show s + (64 - s) = 64 by omega]; rfl
 have h1 := Int.mul_ediv_add_emod (lo * 2 ^ s) 18446744073709551616
 have h2 : lo * 2 ^ s / 18446744073709551616 = lo / 2 ^ (64 - s) := by
  rw [hW, Int.mul_comm lo]
  exact Int.mul_ediv_mul_of_pos _ _ (pow_pos' (by omega) s)
 rw [h2] at h1
 grind
theorem div64_ev {hi lo y : Int} (h0 : 0 ≤ hi) (h1 : hi < y) (hy : y < 18446744073709551616) (hl0 : 0 ≤ lo) (hl : lo < 18446744073709551616) :
  Ev (fun k => bits_Div64.f k hi lo y) ((hi * 18446744073709551616 + lo) / y, (hi * 18446744073709551616 + lo) % y) := by
 by_cases hz : hi = 0
 ·subst hz
  refine Ev.congr (Ev.pure _) fun k => ?_
  have a1 : IntKind.u64.wrap (Int.tdiv lo y) = lo / y := by
   rw [Int.tdiv_eq_ediv_of_nonneg hl0]
   have := Int.ediv_le_self y hl0
   exact u64 (Int.ediv_nonneg hl0 (by omega)) (by omega)
  unfold bits_Div64.f
  rw [if_neg (by omega), if_neg (by omega), if_pos rfl, a1, Int.tmod_eq_emod_of_nonneg hl0, Int.zero_mul, Int.zero_add]
 ·have hlz := lz_ev y (by omega) hy
  have hb64 := bitLen_le64 (x := y.toNat) (by omega)
  have hspec := bitLen_spec y.toNat
  obtain ⟨s, hs⟩ : ∃ s : Nat, s = 64 - bitLen y.toNat := ⟨_, rfl⟩
  have hs64 : (64 : Int) - (bitLen y.toNat : Int) = (s : Int) := by omega
  have hbp := bitLen_pos (x := y.toNat) (by omega)
  rw [hs64] at hlz
  have hpos : (0 : Int) < 2 ^ s := pow_pos' (by omega) s
  have hpos2 : (0 : Int) < 2 ^ (64 - s) := pow_pos' (by omega) _
  have hW : (2 : Int) ^ s * 2 ^ (64 - s) = 18446744073709551616 := by rw [← Int.pow_add, show s + (64 - s) = 64 by omega]; rfl
  have yup : y * 2 ^ s < 18446744073709551616 := by
   have : y < 2 ^ (64 - s) := by
    have h := hspec.1
    have e : ((2 ^ bitLen y.toNat : Nat) : Int) = (2 : Int) ^ (64 - s) := by rw [Int.natCast_pow, show 64 - s = bitLen y.toNat by omega]; rfl
    omega
   have := Int.mul_lt_mul_of_pos_right this hpos
   rw [Int.mul_comm ((2 : Int) ^ (64 - s))] at this
   omega
  have ylo : 9223372036854775808 ≤ y * 2 ^ s := by
   have h := hspec.2 (by omega)
   have e : ((2 ^ (bitLen y.toNat - 1) : Nat) : Int) = (2 : Int) ^ (63 - s) := by rw [Int.natCast_pow, show 63 - s = bitLen y.toNat - 1 by omega]; rfl
   have h2 : (2 : Int) ^ (63 - s) ≤ y := by omega
   have := Int.mul_le_mul_of_nonneg_right h2 (Int.le_of_lt hpos)
   have e2 : (2 : Int) ^ (63 - s) * 2 ^ s = 9223372036854775808 := by rw [← Int.pow_add, show 63 - s + s = 63 by omega]; rfl
   omega
  have hlow0 : 0 ≤ lo / 2 ^ (64 - s) := Int.ediv_nonneg hl0 (Int.le_of_lt hpos2)
  have hlow : lo / 2 ^ (64 - s) < 2 ^ s := by
   rw [Int.ediv_lt_iff_lt_mul hpos2, hW]; exact hl
  have hhi : hi * 2 ^ s + 2 ^ s ≤ y * 2 ^ s := by
   have := Int.mul_le_mul_of_nonneg_right (show hi + 1 ≤ y by omega) (Int.le_of_lt hpos)
   rw [Int.add_mul, Int.one_mul] at this
   exact this
  have hhi0 := Int.mul_nonneg h0 (Int.le_of_lt hpos)
  have hsplit := dv_split (hi := hi) (lo := lo) (s := s) (by omega)
  obtain ⟨u, hu⟩ : ∃ u, u = hi * 2 ^ s + lo / 2 ^ (64 - s) := ⟨_, rfl⟩
  obtain ⟨v, hv⟩ : ∃ v, v = lo * 2 ^ s % 18446744073709551616 := ⟨_, rfl⟩
  obtain ⟨y', hy'⟩ : ∃ y', y' = y * 2 ^ s := ⟨_, rfl⟩
  have hv0 : 0 ≤ v := by rw [hv]; exact Int.emod_nonneg _ (by omega)
  have hv1 : v < 18446744073709551616 := by rw [hv]; exact Int.emod_lt_of_pos _ (by omega)
  rw [← hu, ← hv] at hsplit
  have m1 : min ((s : Nat) : Int).toNat IntKind.u64.bits = s := by simp [IntKind.bits]; omega
  have m2 : min ((64 : Int) - (s : Int)).toNat IntKind.u64.bits = 64 - s := by show min ((64 : Int) - (s : Int)).toNat 64 = 64 - s; omega
  have f1 : shl .u64 y (s : Int) = y' := by unfold shl; rw [m1, hy']; exact u64 (by omega) yup
  have f2 : shl .u64 hi (s : Int) = hi * 2 ^ s := by unfold shl; rw [m1]; exact u64 hhi0 (by omega)
  have f3 : shr .u64 lo ((64 : Int) - (s : Int)) = lo / 2 ^ (64 - s) := by unfold shr; rw [m2]
  have f4 : shl .u64 lo (s : Int) = v := by unfold shl; rw [m1, u64m, hv]
  have f5 : Go.bits .or .u64 (hi * 2 ^ s) (lo / 2 ^ (64 - s)) = u := by rw [or_sum h0 hlow0 hlow (by omega), hu]
  have f6 : Go.bits .and .u64 y' 4294967295 = y' % 4294967296 := and_low32 y' (by omega) (by omega)
  have f7 : Go.bits .and .u64 v 4294967295 = v % 4294967296 := and_low32 v hv0 hv1
  have hu0 : 0 ≤ u := by omega
  have huy : u < y' := by omega
  have g1 : Guess y' (y' / 4294967296) (y' % 4294967296) u (v / 4294967296) ((u * 4294967296 + v / 4294967296) / y') := ⟨by omega, by omega, by omega, by omega, by omega, hu0, huy, by omega, by omega, rfl⟩
  obtain ⟨Q1, hQ1⟩ : ∃ Q1, Q1 = (u * 4294967296 + v / 4294967296) / y' := ⟨_, rfl⟩
  obtain ⟨w, hw⟩ : ∃ w, w = (u * 4294967296 + v / 4294967296) % y' := ⟨_, rfl⟩
  have hw0 : 0 ≤ w := by rw [hw]; exact Int.emod_nonneg _ (by omega)
  have hwy : w < y' := by rw [hw]; exact Int.emod_lt_of_pos _ (by omega)
  have ed1 : u * 4294967296 + v / 4294967296 = Q1 * y' + w := by have := Int.mul_ediv_add_emod (u * 4294967296 + v / 4294967296) y'; rw [← hQ1, ← hw, Int.mul_comm] at this; exact this.symm
  rw [← hQ1] at g1
  have g2 : Guess y' (y' / 4294967296) (y' % 4294967296) w (v % 4294967296) ((w * 4294967296 + v % 4294967296) / y') := ⟨by omega, by omega, by omega, by omega, by omega, hw0, hwy, by omega, by omega, rfl⟩
  obtain ⟨Q0, hQ0⟩ : ∃ Q0, Q0 = (w * 4294967296 + v % 4294967296) / y' := ⟨_, rfl⟩
  obtain ⟨r, hr⟩ : ∃ r, r = (w * 4294967296 + v % 4294967296) % y' := ⟨_, rfl⟩
  have hr0 : 0 ≤ r := by rw [hr]; exact Int.emod_nonneg _ (by omega)
  have hry : r < y' := by rw [hr]; exact Int.emod_lt_of_pos _ (by omega)
  have ed2 : w * 4294967296 + v % 4294967296 = Q0 * y' + r := by have := Int.mul_ediv_add_emod (w * 4294967296 + v % 4294967296) y'; rw [← hQ0, ← hr, Int.mul_comm] at this; exact this.symm
  rw [← hQ0] at g2
  obtain ⟨fin1, fin2⟩ := dv_two (N := hi * 18446744073709551616 + lo) hpos (by omega) hy' hsplit ed1 ed2 hr0 hry
  have hrg1 := g1.range
  have hrg2 := g2.range
  have hans : some (IntKind.u64.wrap ((IntKind.u64.wrap (Q1 * 4294967296)) + Q0), shr .u64 (IntKind.u64.wrap ((IntKind.u64.wrap ((IntKind.u64.wrap (w * 4294967296)) + v % 4294967296)) - (IntKind.u64.wrap (Q0 * y')))) (s : Int)) =
    some ((hi * 18446744073709551616 + lo) / y, (hi * 18446744073709551616 + lo) % y) := by
   rw [wrap_mod w (v % 4294967296) (Q0 * y') r (by omega) hr0 (by omega), u64 (n := Q1 * 4294967296) (by omega) (by omega), u64 (by omega) (by omega), fin1, fin2]
   unfold shr
   rw [m1]
  obtain ⟨b1, b2, b3, b4, b5, b6⟩ := g2.first
  have loop2 := dv_loop2 (s := (s : Int)) (q1 := Q1) g2 (Int.natCast_nonneg _) hans (w / (y' / 4294967296) - Q0).toNat (w / (y' / 4294967296)) (w % (y' / 4294967296)) (Nat.le_refl _) b3 b4 b5 b1 b2
  have j2 : Ev (fun k => bits_Div64.j2 k y' s (y' / 4294967296) (y' % 4294967296) u (v / 4294967296) (v % 4294967296) Q1) ((hi * 18446744073709551616 + lo) / y, (hi * 18446744073709551616 + lo) % y) := by
   refine Ev.succ (Ev.congr loop2 fun k => ?_)
   have hwm : IntKind.u64.wrap ((IntKind.u64.wrap ((IntKind.u64.wrap (u * 4294967296)) + v / 4294967296)) - (IntKind.u64.wrap (Q1 * y'))) = w := wrap_mod u (v / 4294967296) (Q1 * y') w (by omega) hw0 (by omega)
   have hq : IntKind.u64.wrap (Int.tdiv w (y' / 4294967296)) = w / (y' / 4294967296) := by rw [Int.tdiv_eq_ediv_of_nonneg hw0]; exact u64 b6 (by omega)
   have hrm : IntKind.u64.wrap (w - IntKind.u64.wrap (w / (y' / 4294967296) * (y' / 4294967296))) = w % (y' / 4294967296) := by rw [u64m, u64m]; omega
   rw [bits_Div64.j2, if_neg (by omega), hwm, hq, hrm]
  obtain ⟨a1, a2, a3, a4, a5, a6⟩ := g1.first
  have loop1 := dv_loop1 (s := (s : Int)) (u0 := v % 4294967296) g1 j2 (u / (y' / 4294967296) - Q1).toNat (u / (y' / 4294967296)) (u % (y' / 4294967296)) (Nat.le_refl _) a3 a4 a5 a1 a2
  refine Late.step (hlz.late) (fun k hk => ?_) loop1
  have hk' : bits_LeadingZeros64.f k y = some (s : Int) := hk
  have us : IntKind.u64.wrap (s : Int) = (s : Int) := u64 (by omega) (by omega)
  have us2 : IntKind.u64.wrap ((64 : Int) - (s : Int)) = (64 : Int) - (s : Int) := u64 (by omega) (by omega)
  have hq : IntKind.u64.wrap (Int.tdiv u (y' / 4294967296)) = u / (y' / 4294967296) := by rw [Int.tdiv_eq_ediv_of_nonneg hu0]; exact u64 a6 (by omega)
  have hrm : IntKind.u64.wrap (u - IntKind.u64.wrap (u / (y' / 4294967296) * (y' / 4294967296))) = u % (y' / 4294967296) := by rw [u64m, u64m]; omega
  have d1 : ¬ y = 0 := by omega
  have d2 : ¬ y ≤ hi := by omega
  have d3 : ¬ y' / 4294967296 = 0 := by omega
  have d4 : 0 ≤ (64 : Int) - (s : Int) := by omega
  unfold bits_Div64.f
  rw [if_neg d1, if_neg d2, if_neg hz, hk', Option.bind_some, us, us2, if_pos (Int.natCast_nonneg _), if_pos d4, f1, if_neg d3, f2, f3, f4, f5, f6, f7, hq, hrm]
end Go.Proofs.Ytbmddlldadbfnaa.BM
end
section
namespace Go.Proofs.Ytbmddlldadbfnaa.BM
open Go.RowKit Go.Proofs.YtbmddlldadbfnaaW.PrintWords Go.Proofs.YtbmddlldadbfnaaW.PrintLast Go.Proofs.YtbmddlldadbfnaaW.PrintMore
open Go.Proofs.Ytbmddlldadbfnaa.BA
theorem short_step (k : Nat) (l x6 : List Int) (d r : Int) (i : Nat) (q r' : Int) (hi : i < l.length) (h6 : i < x6.length) (hl : l.length < 1099511627776) (hd : bits_Div64.f k r (rd l i) d = some (q, r')) :
  big_short.l0 (k + 1) l d x6 r i = big_short.l0 k l d (x6.set i q) r' ((i : Int) - 1) := by
 have e : wrap64 ((i : Int) - 1) = (i : Int) - 1 := w64 (by omega) (by omega)
 rw [big_short.l0, if_pos (Int.natCast_nonneg _), if_pos (Int.natCast_nonneg _), if_pos (Int.ofNat_lt.2 hi), hd, Option.bind_some]
 show (if (i : Int) < (x6.length : Int) then _ else none) = _
 rw [if_pos (Int.ofNat_lt.2 h6), e]
 rfl
theorem short_alg (W vq d rem a q r' : Int) (h : rem * W + a = q * d + r') : a + W * (vq * d + rem) = (q + W * vq) * d + r' := by
 have : a + W * (vq * d + rem) = (rem * W + a) + W * vq * d := by grind
 rw [this, h]
 grind
theorem set_rep (i : Nat) (d : Int) (q : List Int) : (List.replicate (i + 1) 0 ++ q).set i d = List.replicate i 0 ++ (d :: q) := by
 rw [List.set_append_left _ _ (by simp), List.replicate_succ']
 have : (List.replicate i (0 : Int) ++ [0]).set i d = List.replicate i 0 ++ [d] := by
  have h := List.set_append_right (s := List.replicate i (0 : Int)) (t := [0]) i d (by simp)
  rw [h]; simp
 rw [this]; simp
theorem short_loop {l : List Int} (hdl : Dig 18446744073709551616 l) (hl : l.length < 100000000) {d : Int} (hd0 : 0 < d) (hd : d < 18446744073709551616) : ∀ (i : Nat) (q : List Int) (rem : Int),
  i ≤ l.length → q.length = l.length - i → Dig 18446744073709551616 q → 0 ≤ rem → rem < d → V 18446744073709551616 (l.drop i) = V 18446744073709551616 q * d + rem →
  ∃ t r, Ev (fun k => big_short.l0 k l d (List.replicate i 0 ++ q) rem ((i : Int) - 1)) (t, r) ∧ Can 18446744073709551616 t (V 18446744073709551616 l / d) ∧ r = V 18446744073709551616 l % d := by
 intro i
 induction i with
 | zero =>
  intro q rem hi hq hdq hr0 hr hv
  rw [List.drop_zero] at hv
  have e1 : V 18446744073709551616 l / d = V 18446744073709551616 q := by
   rw [hv, Int.add_comm, Int.add_mul_ediv_right _ _ (by omega), Int.ediv_eq_zero_of_lt hr0 hr, Int.zero_add]
  have e2 : V 18446744073709551616 l % d = rem := by
   rw [hv, Int.add_comm, Int.add_mul_emod_self_right, Int.emod_eq_of_lt hr0 hr]
  obtain ⟨t, ht, hc, _⟩ := trim_ev 18446744073709551616 q.length (l := q) (n := V 18446744073709551616 q) rfl (by omega) ⟨hdq, rfl⟩
  refine ⟨t, rem, Ev.succ (Ev.congr (Ev.bind (g := fun _ t121 => some (t121, rem)) ht (Ev.pure _)) fun k => ?_), by rw [e1]; exact hc, e2.symm⟩
  rw [big_short.l0, if_neg (by omega)]
  simp
 | succ i ih =>
  intro q rem hi hq hdq hr0 hr hv
  have ra := rd_dig hdl (i := (i : Int)) (by omega) (by omega)
  have hdiv := div64_ev (hi := rem) (lo := rd l (i : Int)) (y := d) hr0 hr hd ra.1 ra.2
  obtain ⟨Q, hQ⟩ : ∃ Q, Q = (rem * 18446744073709551616 + rd l (i : Int)) / d := ⟨_, rfl⟩
  obtain ⟨R, hR⟩ : ∃ R, R = (rem * 18446744073709551616 + rd l (i : Int)) % d := ⟨_, rfl⟩
  rw [← hQ, ← hR] at hdiv
  have hN : rem * 18446744073709551616 + rd l (i : Int) = Q * d + R := by have := Int.mul_ediv_add_emod (rem * 18446744073709551616 + rd l (i : Int)) d; rw [← hQ, ← hR, Int.mul_comm] at this; exact this.symm
  have hR0 : 0 ≤ R := by rw [hR]; exact Int.emod_nonneg _ (by omega)
  have hRd : R < d := by rw [hR]; exact Int.emod_lt_of_pos _ hd0
  have hQ0 : 0 ≤ Q := by rw [hQ]; exact Int.ediv_nonneg (by omega) (by omega)
  have hQW : Q < 18446744073709551616 := by
   rw [hQ, Int.ediv_lt_iff_lt_mul hd0]
   have := Int.mul_le_mul_of_nonneg_right (show rem + 1 ≤ d by omega) (show (0 : Int) ≤ 18446744073709551616 by omega)
   omega
  have hdrop : l.drop i = rd l (i : Int) :: l.drop (i + 1) := by rw [rd_nat l (by omega)]; exact List.drop_eq_getElem_cons (by omega)
  obtain ⟨t, r, he, hc, hrr⟩ := ih (Q :: q) R (by omega) (by simp; omega) (by
   intro a ha
   rcases List.mem_cons.1 ha with h | h
   ·subst h; exact ⟨hQ0, hQW⟩
   ·exact hdq a h) hR0 hRd (by
   rw [hdrop, V, V, hv]
   exact short_alg _ _ _ _ _ _ _ hN)
  refine ⟨t, r, Ev.succ (Late.step hdiv.late (fun k hk => ?_) he), hc, hrr⟩
  rw [show ((i + 1 : Nat) : Int) - 1 = (i : Int) by omega, short_step k l _ d rem i Q R (by omega) (by simp; omega) (by omega) hk, set_rep]
theorem short_ev {l : List Int} {n d : Int} (h : Can 18446744073709551616 l n) (hl : l.length < 100000000) (hd0 : 0 < d) (hd : d < 18446744073709551616) :
  ∃ t, Ev (fun k => big_short.f k l d) (t, n % d) ∧ Can 18446744073709551616 t (n / d) := by
 obtain ⟨t, r, he, hc, hr⟩ := short_loop h.1.1 hl hd0 hd l.length [] 0 (Nat.le_refl _) (by simp) (Dig_nil _) (by omega) (by omega) (by simp [V])
 rw [h.1.2] at hc hr
 subst hr
 refine ⟨t, Ev.congr he fun k => ?_, hc⟩
 have e : wrap64 ((l.length : Int) - 1) = (l.length : Int) - 1 := w64 (by omega) (by omega)
 have c : l.length ≤ 35184372088832 := by clear e; omega
 unfold big_short.f
 rw [if_pos (Int.natCast_nonneg _), Int.toNat_natCast, if_pos c, e]
 simp
theorem rev_step (k : Nat) (y : List Int) (i j : Nat) (h : i < j) (hj : j < y.length) (hl : y.length < 1099511627776) :
  sRev.l0 (k + 1) y i j = sRev.l0 k ((y.set i (rd y j)).set j (rd y i)) ((i + 1 : Nat) : Int) ((j : Int) - 1) := by
 have e1 : wrap64 ((i : Int) + 1) = ((i + 1 : Nat) : Int) := by rw [w64 (by omega) (by omega)]; omega
 have e2 : wrap64 ((j : Int) - 1) = (j : Int) - 1 := w64 (by omega) (by omega)
 have c : i < y.length := by clear e1 e2; omega
 rw [sRev.l0, if_pos (Int.ofNat_lt.2 h), if_pos (Int.natCast_nonneg _), if_pos (Int.ofNat_lt.2 hj), if_pos (Int.natCast_nonneg _), if_pos (Int.ofNat_lt.2 c), e1, e2, Int.toNat_natCast, Int.toNat_natCast]
theorem rev_loop (x : List Int) (hl : x.length < 1000000000000) : ∀ (m i : Nat) (y : List Int), x.length - 2 * i ≤ m → y.length = x.length → (∀ t : Nat, t < x.length → rd y (t : Int) = if t < i ∨ x.length ≤ t + i then rd x ((x.length - 1 - t : Nat) : Int) else rd x (t : Int)) →
  Ev (fun k => sRev.l0 k y i ((x.length : Int) - 1 - i)) x.reverse := by
 have fin : ∀ (i : Nat) (y : List Int), x.length ≤ 2 * i + 1 → y.length = x.length → (∀ t : Nat, t < x.length → rd y (t : Int) = if t < i ∨ x.length ≤ t + i then rd x ((x.length - 1 - t : Nat) : Int) else rd x (t : Int)) → Ev (fun k => sRev.l0 k y i ((x.length : Int) - 1 - i)) x.reverse := by
  intro i y hm hy hv
  refine Ev.succ (Ev.congr (Ev.pure _) fun k => ?_)
  rw [sRev.l0, if_neg (by omega)]
  congr 1
  apply List.ext_getElem
  ·simp [hy]
  ·intro t h1 h2
   have h := hv t (by omega)
   rw [rd_nat _ h1] at h
   rw [h, List.getElem_reverse]
   by_cases hc : t < i ∨ x.length ≤ t + i
   ·rw [if_pos hc, rd_nat _ (by omega)]
   ·rw [if_neg hc, rd_nat _ (by omega)]
    congr 1
    omega
 intro m
 induction m with
 | zero =>
  intro i y hm hy hv
  exact fin i y (by omega) hy hv
 | succ m ih =>
  intro i y hm hy hv
  by_cases hc : x.length ≤ 2 * i + 1
  ·exact fin i y hc hy hv
  ·obtain ⟨j, hj⟩ : ∃ j : Nat, j = x.length - 1 - i := ⟨_, rfl⟩
   have hij : i < j := by omega
   have hi := hv i (by omega)
   have hjv := hv j (by omega)
   rw [if_neg (by omega)] at hi hjv
   refine Ev.succ (Ev.congr (ih (i + 1) ((y.set i (rd y j)).set j (rd y i)) (by omega) (by simp [hy]) (fun t ht => ?_)) fun k => ?_)
   ·rw [rd_set _ _ _ _ (by simp; omega), rd_set _ _ _ _ (by omega)]
    by_cases h1 : t = j
    ·rw [if_pos h1, if_pos (by omega), hi, h1]
     congr 2
     omega
    ·rw [if_neg h1]
     by_cases h2 : t = i
     ·rw [if_pos h2, if_pos (by omega), hjv, h2]
      congr 2
     ·rw [if_neg h2, hv t ht]
      by_cases h3 : t < i ∨ x.length ≤ t + i
      ·rw [if_pos h3, if_pos (by omega)]
      ·rw [if_neg h3, if_neg (by omega)]
   ·rw [show (x.length : Int) - 1 - (i : Int) = (j : Int) by omega, rev_step k y i j hij (by omega) (by omega), show (j : Int) - 1 = (x.length : Int) - 1 - ((i + 1 : Nat) : Int) by omega]
theorem rev_ev (x : List Int) (hl : x.length < 1000000000000) : Ev (fun k => sRev.f k x) x.reverse := by
 have h := rev_loop x hl x.length 0 x (by omega) rfl (fun t ht => by rw [if_neg (by omega)])
 refine Ev.congr h fun k => ?_
 unfold sRev.f
 rw [w64 (by omega) (by omega)]
 simp
end Go.Proofs.Ytbmddlldadbfnaa.BM
end
section
namespace Go.Proofs.Ytbmddlldadbfnaa.BM
open Go.RowKit Go.Proofs.YtbmddlldadbfnaaW.PrintWords Go.Proofs.YtbmddlldadbfnaaW.PrintLast Go.Proofs.YtbmddlldadbfnaaW.PrintMore
open Go.Proofs.Ytbmddlldadbfnaa.BA
def outOf (neg : Bool) (ds : List Int) : ByteArray := strOfNums ((ds.map dgt ++ (if neg = true then [45] else [])).reverse)
structure Inv (b n : Int) (ds : List Int) (M : Int) : Prop where
 dig : Dig b ds
 val : V b ds + b ^ ds.length * M = n
 top : M = 0 → Top ds
 pos : 0 ≤ M
theorem Inv.len {b n : Int} {ds : List Int} {M : Int} (h : Inv b n ds M) (hb : 2 ≤ b) {L : Nat} (hn : n < b ^ L) (hM : 0 < M) : ds.length < L := by
 rcases Nat.lt_or_ge ds.length L with h1 | h1
 ·exact h1
 ·exfalso
  have h2 := pow_le' (show 1 ≤ b by omega) h1
  have h3 := Int.mul_le_mul_of_nonneg_left (show 1 ≤ M by omega) (Int.le_of_lt (pow_pos' (show 0 < b by omega) ds.length))
  have h4 := V_nonneg (show 0 < b by omega) h.dig
  have h5 := h.val
  omega
theorem Inv.can {b n : Int} {ds : List Int} (h : Inv b n ds 0) : Can b ds n := ⟨⟨h.dig, by have := h.val; omega⟩, h.top rfl⟩
theorem Inv.push {b n : Int} {ds : List Int} {M : Int} (h : Inv b n ds M) (hb : 2 ≤ b) (hM : 0 < M) : Inv b n (ds ++ [M % b]) (M / b) := by
 have h0 := Int.emod_nonneg M (show b ≠ 0 by omega)
 have h1 := Int.emod_lt_of_pos M (show 0 < b by omega)
 have he := Int.mul_ediv_add_emod M b
 refine ⟨Dig_snoc h.dig h0 h1, ?_, fun hz => ?_, Int.ediv_nonneg (by omega) (by omega)⟩
 ·rw [V_snoc, List.length_append, List.length_singleton, Int.pow_succ, ← h.val]
  conv => rhs; rw [← he]
  grind
 ·intro hne
  have hg : (ds ++ [M % b]).getLast hne = M % b := by simp
  rw [hg]
  rw [hz] at he
  omega
theorem l1_push (k : Nat) (b : Int) (neg : Bool) (c e : Int) (x7 q : List Int) (r : Int) (j : Nat) (hb : 2 ≤ b) (hb' : b ≤ 36) (hr0 : 0 ≤ r) (hr : r < 18446744073709551616) (hj : (j : Int) < e) (he : e ≤ 64) (h7 : x7.length < 140737488355328) (hq : ¬ (q = [] ∧ r = 0)) :
  bIText.l1 (k + 1) b neg c e x7 q r e j = bIText.l1 k b neg c e (x7 ++ [dgt (r % b)]) q (r / b) e ((j + 1 : Nat) : Int) := by
 have hm0 := Int.emod_nonneg r (show b ≠ 0 by omega)
 have hm1 := Int.emod_lt_of_pos r (show 0 < b by omega)
 have e1 : IntKind.u64.wrap b = b := u64 (by omega) (by omega)
 have e2 : Int.tmod r b = r % b := Int.tmod_eq_emod_of_nonneg hr0
 have e3 : IntKind.u64.wrap (Int.tdiv r b) = r / b := by
  rw [Int.tdiv_eq_ediv_of_nonneg hr0]
  have := Int.ediv_le_self b hr0
  exact u64 (Int.ediv_nonneg hr0 (by omega)) (by omega)
 have e4 : wrap64 ((j : Int) + 1) = ((j + 1 : Nat) : Int) := by rw [w64 (by omega) (by omega)]; omega
 have e5 : bt (⟨#[48, 49, 50, 51, 52, 53, 54, 55, 56, 57, 97, 98, 99, 100, 101, 102, 103, 104, 105, 106, 107, 108, 109, 110, 111, 112, 113, 114, 115, 116, 117, 118, 119, 120, 121, 122]⟩ : ByteArray) (r % b) = dgt (r % b) := by
  have h := allDigits_bt ⟨(r % b).toNat, by omega⟩
  have ht : (((r % b).toNat : Nat) : Int) = r % b := by omega
  simp only [ht] at h
  exact h
 have n1 : ¬ b = 0 := by omega
 have n2 : r % b < 36 := by omega
 rw [bIText.l1, if_pos hj, e1, e2, e3, e4, e5]
 by_cases h1 : (q.length : Int) = 0
 ·have h2 : ¬ r = 0 := fun h => hq ⟨List.eq_nil_of_length_eq_zero (Int.ofNat_inj.1 h1), h⟩
  rw [if_pos h1, if_neg h2, if_neg n1, if_pos hm0, if_pos n2, if_pos h7]
 ·rw [if_neg h1, if_neg n1, if_pos hm0, if_pos n2, if_pos h7]
theorem text_alg (r B Vq b : Int) (hb : 0 < b) : (r + B * b * Vq) % b = r % b ∧ (r + B * b * Vq) / b = r / b + B * Vq := by
 have e : r + B * b * Vq = r + b * (B * Vq) := by grind
 rw [e]
 exact ⟨Int.add_mul_emod_self_left _ _ _, Int.add_mul_ediv_left _ _ (by omega)⟩
theorem text_l1 {b n c : Int} {e L : Nat} (hb : 2 ≤ b) (hb' : b ≤ 36) (neg : Bool) (he : e ≤ 64) (hn : n < b ^ L) (hL : L < 100000000000) (hbe : b ^ e < 18446744073709551616) (q : List Int) (mq : Int) (hq : Can 18446744073709551616 q mq)
  (K : ∀ ds, Inv b n ds mq → ∃ ds', Can b ds' n ∧ Ev (fun k => bIText.l0 k b neg c e (ds.map dgt) q) (outOf neg ds')) :
  ∀ (m j : Nat) (ds : List Int) (r : Int), j + m = e → 0 ≤ r → r < b ^ m → Inv b n ds (r + b ^ m * mq) → ∃ ds', Can b ds' n ∧ Ev (fun k => bIText.l1 k b neg c e (ds.map dgt) q r e j) (outOf neg ds') := by
 have hmq := Can_nonneg (by omega) hq
 intro m
 induction m with
 | zero =>
  intro j ds r hj hr0 hr hi
  have : r = 0 := by simp at hr; omega
  subst this
  rw [Int.pow_zero, Int.one_mul, Int.zero_add] at hi
  obtain ⟨ds', hc, hev⟩ := K ds hi
  refine ⟨ds', hc, Ev.succ (Ev.congr hev fun k => ?_)⟩
  rw [bIText.l1, if_neg (by omega)]
 | succ m ih =>
  intro j ds r hj hr0 hr hi
  have hr64 : r < 18446744073709551616 := Int.lt_of_lt_of_le hr (Int.le_trans (pow_le' (by omega) (show m + 1 ≤ e by omega)) (Int.le_of_lt hbe))
  by_cases hz : q = [] ∧ r = 0
  ·obtain ⟨h1, h2⟩ := hz
   subst h1
   subst h2
   have hm0 : mq = 0 := by rw [← hq.1.2]; rfl
   subst hm0
   rw [Int.mul_zero, Int.zero_add] at hi
   obtain ⟨ds', hc, hev⟩ := K ds hi
   refine ⟨ds', hc, Ev.succ (Ev.congr hev fun k => ?_)⟩
   rw [bIText.l1, if_pos (by omega), if_pos (show ((([] : List Int).length : Nat) : Int) = 0 from rfl), if_pos rfl]
  ·have hbm := pow_pos' (show 0 < b by omega) (m + 1)
   have hM : 0 < r + b ^ (m + 1) * mq := by
    by_cases h1 : q = []
    ·have : r ≠ 0 := fun h => hz ⟨h1, h⟩
     have := Int.mul_nonneg (Int.le_of_lt hbm) hmq
     omega
    ·have h2 := Can_pos (by omega) hq h1
     have := Int.mul_pos hbm h2
     omega
   have hlen := hi.len hb hn hM
   have hpush := hi.push hb hM
   rw [Int.pow_succ] at hpush
   obtain ⟨a1, a2⟩ := text_alg r (b ^ m) mq b (by omega)
   rw [a1, a2] at hpush
   obtain ⟨ds', hc, hev⟩ := ih (j + 1) (ds ++ [r % b]) (r / b) (by omega) (Int.ediv_nonneg hr0 (by omega)) (by rw [Int.ediv_lt_iff_lt_mul (by omega), ← Int.pow_succ]; exact hr) hpush
   refine ⟨ds', hc, Ev.succ (Ev.congr hev fun k => ?_)⟩
   rw [l1_push k b neg c e (ds.map dgt) q r j hb hb' hr0 hr64 (by omega) (by omega) (by rw [List.length_map]; omega) hz, List.map_append]
   rfl
theorem text_l0 {b n : Int} {e L : Nat} (hb : 2 ≤ b) (hb' : b ≤ 36) (neg : Bool) (he1 : 1 ≤ e) (he : e ≤ 64) (hn : n < b ^ L) (hL : L < 100000000000) (hbe : b ^ e < 18446744073709551616) :
  ∀ (f : Nat) (q : List Int) (mq : Int), mq.toNat ≤ f → q.length < 100000000 → Can 18446744073709551616 q mq → ∀ ds, Inv b n ds mq → ∃ ds', Can b ds' n ∧ Ev (fun k => bIText.l0 k b neg (b ^ e) e (ds.map dgt) q) (outOf neg ds') := by
 have hfin : ∀ ds, Inv b n ds 0 → ∃ ds', Can b ds' n ∧ Ev (fun k => bIText.l0 k b neg (b ^ e) e (ds.map dgt) []) (outOf neg ds') := by
  intro ds hi
  have hc := hi.can
  have hlen := Can_len (by omega) hc hn
  refine ⟨ds, hc, ?_⟩
  cases neg
  ·have hrev := rev_ev (ds.map dgt) (by rw [List.length_map]; omega)
   refine Ev.succ (Late.step (g := fun _ => some (outOf false ds)) hrev.late (fun k hk => ?_) (Ev.pure _))
   have hk' : sRev.f k (ds.map dgt) = some (ds.map dgt).reverse := hk
   rw [bIText.l0, if_neg (by simp), if_neg (by decide), hk', Option.bind_some]
   unfold outOf
   rw [if_neg (by decide), List.append_nil]
  ·have hrev := rev_ev (ds.map dgt ++ [45]) (by simp; omega)
   refine Ev.succ (Late.step (g := fun _ => some (outOf true ds)) hrev.late (fun k hk => ?_) (Ev.pure _))
   have hk' : sRev.f k (ds.map dgt ++ [45]) = some (ds.map dgt ++ [45]).reverse := hk
   rw [bIText.l0, if_neg (by simp), if_pos rfl, if_pos (by rw [List.length_map]; omega), hk', Option.bind_some]
   unfold outOf
   rw [if_pos rfl]
 have hc2 : 2 ≤ b ^ e := by
  have := pow_le' (show 1 ≤ b by omega) he1
  rw [Int.pow_one] at this
  omega
 intro f
 induction f with
 | zero =>
  intro q mq hf hql hq ds hi
  have h0 := Can_nonneg (by omega) hq
  have : mq = 0 := by omega
  subst this
  rw [Can_zero (by omega) hq]
  exact hfin ds hi
 | succ f ih =>
  intro q mq hf hql hq ds hi
  by_cases h1 : q = []
  ·subst h1
   have : mq = 0 := by rw [← hq.1.2]; rfl
   subst this
   exact hfin ds hi
  ·have hpos := Can_pos (by omega) hq h1
   obtain ⟨t, ht, hct⟩ := short_ev hq hql (show 0 < b ^ e by omega) hbe
   have hdiv : mq / b ^ e < mq := by
    rw [Int.ediv_lt_iff_lt_mul (by omega)]
    have := Int.mul_le_mul_of_nonneg_left hc2 (show 0 ≤ mq by omega)
    omega
   have hdiv0 : 0 ≤ mq / b ^ e := Int.ediv_nonneg (by omega) (by omega)
   have htl : t.length ≤ q.length := by
    refine Can_len (by omega) hct ?_
    have h2 := V_lt (show (0 : Int) < 18446744073709551616 by omega) hq.1.1
    rw [hq.1.2] at h2
    omega
   have hmod0 := Int.emod_nonneg mq (show b ^ e ≠ 0 by omega)
   have hmod := Int.emod_lt_of_pos mq (show 0 < b ^ e by omega)
   have hed : mq % b ^ e + b ^ e * (mq / b ^ e) = mq := Int.emod_add_mul_ediv mq (b ^ e)
   obtain ⟨ds', hc, hev⟩ := text_l1 (c := b ^ e) hb hb' neg he hn hL hbe t (mq / b ^ e) hct (ih t (mq / b ^ e) (by omega) (by omega) hct) e 0 ds (mq % b ^ e) (by omega) hmod0 hmod (by rw [hed]; exact hi)
   refine ⟨ds', hc, Ev.succ (Late.step ht.late (fun k hk => ?_) hev)⟩
   have hk' : big_short.f k q (b ^ e) = some (t, mq % b ^ e) := hk
   have hlp : (q.length : Int) > 0 := by have := List.length_pos_iff.2 h1; omega
   rw [bIText.l0, if_pos hlp, hk', Option.bind_some]
   rfl
theorem text_ev {l : List Int} {n b : Int} (h : Can 18446744073709551616 l n) (hl : l.length < 100000000) (hne : l ≠ []) (hb : 2 ≤ b) (hb' : b ≤ 36) (neg : Bool) :
  ∃ ds, Can b ds n ∧ Ev (fun k => bIText.f k l b neg) (outOf neg ds) := by
 obtain ⟨e, h1, h2, h3, _, h5⟩ := chunk_ev b hb hb'
 have hn : n < b ^ (64 * l.length) := by
  have h6 := V_lt (show (0 : Int) < 18446744073709551616 by omega) h.1.1
  rw [h.1.2] at h6
  have h7 : (18446744073709551616 : Int) ≤ b ^ 64 := pow_mono (a := 2) (by omega) hb 64
  have h8 := pow_mono (show (0 : Int) ≤ 18446744073709551616 by omega) h7 l.length
  rw [← Int.pow_mul] at h8
  exact Int.lt_of_lt_of_le h6 h8
 obtain ⟨ds, hc, hev⟩ := text_l0 (n := n) hb hb' neg h1 h2 hn (by omega) h3 n.toNat l n (Nat.le_refl _) hl h [] ⟨Dig_nil _, by simp [V], fun _ h => absurd rfl h, Can_nonneg (by omega) h⟩
 refine ⟨ds, hc, Late.step (h5.late) (fun k hk => ?_) hev⟩
 have hk' : big_chunk.f k b = some (b ^ e, (e : Int)) := hk
 have hlp : ¬ (l.length : Int) = 0 := by have := List.length_pos_iff.2 hne; omega
 unfold bIText.f
 rw [if_neg hlp, hk', Option.bind_some]
 rfl
def textOf (neg : Bool) (ds : List Int) : ByteArray := if ds = [] then (⟨#[48]⟩ : ByteArray) else outOf neg ds
theorem right_can {l : List Int} {n : Int} (h : Can 18446744073709551616 l n) (hl : l.length ≤ 4096) (neg : Bool) : limb_Right.f neg l = some (!(neg && decide (l = []))) := by
 unfold limb_Right.f
 by_cases h0 : l = []
 ·subst h0
  cases neg <;> simp
 ·have hp := List.length_pos_iff.2 h0
  have ht := h.2 h0
  rw [getLast_rd] at ht
  have e : wrap64 ((l.length : Int) - 1) = (l.length : Int) - 1 := w64 (by omega) (by omega)
  have c1 : ¬ (l.length : Int) = 0 := by clear e; omega
  have c2 : (l.length : Int) > 0 := by clear e; omega
  have c3 : (l.length : Int) ≤ 4096 := by clear e; omega
  have c4 : 0 ≤ (l.length : Int) - 1 := by clear e; omega
  have c5 : (l.length : Int) - 1 < (l.length : Int) := by clear e; omega
  rw [if_neg c1, if_pos c2, if_pos c3, e, if_pos c4, if_pos c5, decide_eq_false h0]
  simp [ht]
theorem print_ev {l : List Int} {n b : Int} (h : Can 18446744073709551616 l n) (hl : l.length ≤ 4096) (hb : 2 ≤ b) (hb' : b ≤ 36) (neg : Bool) (hneg : l = [] → neg = false) :
  ∃ ds, Can b ds n ∧ Ev (fun k => base_Print.f k neg l b) (textOf neg ds, 0) := by
 have hright := right_can h hl neg
 have hr : (!(neg && decide (l = []))) = true := by
  by_cases h0 : l = []
  ·rw [hneg h0]; rfl
  ·simp [h0]
 rw [hr] at hright
 have hmay : base_may.f b = some true := may_true hb hb'
 have hint := exactInt_ev h (by omega) neg
 by_cases h0 : l = []
 ·subst h0
  have hn : n = 0 := by rw [← h.1.2]; rfl
  subst hn
  refine ⟨[], Can_nil b, Late.step (g := fun _ => some (textOf neg [], 0)) hint.late (fun k hk => ?_) (Ev.pure _)⟩
  have hk' : exact_Int.f k neg [] = some (neg && decide (0 < ([] : List Int).length), []) := hk
  unfold base_Print.f
  rw [hright, Option.bind_some, if_pos rfl, hmay, Option.bind_some, if_pos rfl, hk', Option.bind_some]
  rfl
 ·have hp := List.length_pos_iff.2 h0
  have hsg : (neg && decide (0 < l.length)) = neg := by simp [hp]
  rw [hsg] at hint
  obtain ⟨ds, hc, hev⟩ := text_ev h (by omega) h0 hb hb' neg
  have hne : ds ≠ [] := by
   intro hd
   subst hd
   have : n = 0 := by rw [← hc.1.2]; rfl
   have := Can_pos (by omega) h h0
   omega
  refine ⟨ds, hc, Late.step (g := fun _ => some (textOf neg ds, 0)) (hint.late.and hev.late) (fun k hk => ?_) (Ev.pure _)⟩
  have k1 : exact_Int.f k neg l = some (neg, l) := hk.1
  have k2 : bIText.f k l b neg = some (outOf neg ds) := hk.2
  unfold base_Print.f
  rw [hright, Option.bind_some, if_pos rfl, hmay, Option.bind_some, if_pos rfl, k1, Option.bind_some]
  show (bIText.f k l b neg).bind _ = _
  rw [k2, Option.bind_some]
  unfold textOf
  rw [if_neg hne]
end Go.Proofs.Ytbmddlldadbfnaa.BM
end
section
namespace Go.Proofs.Ytbmddlldadbfnaa.BM
open Go.RowKit Go.Proofs.YtbmddlldadbfnaaW.PrintWords Go.Proofs.YtbmddlldadbfnaaW.PrintLast Go.Proofs.YtbmddlldadbfnaaW.PrintMore
open Go.Proofs.Ytbmddlldadbfnaa.BA
theorem wv_dgt {d b : Int} (h0 : 0 ≤ d) (h1 : d < b) (hb : b ≤ 36) : wv (dgt d) b = d := by
 unfold wv dgt
 by_cases h : d < 10
 ·rw [if_pos h, if_pos (by omega)]; omega
 ·rw [if_neg h, if_neg (by omega), if_pos (by omega)]; omega
theorem dgt_range {d : Int} (h0 : 0 ≤ d) (h1 : d < 36) : 48 ≤ dgt d ∧ dgt d < 128 := by unfold dgt; split <;> omega
theorem scan_fine {s : ByteArray} {b : Int} {st : Nat} (hne : st ≠ s.size) (hg : ∀ j, st ≤ j → j < s.size → 0 ≤ wv (bt s (j : Int)) b) (h1 : ¬ (wv (bt s (st : Int)) b = 0 ∧ st = 1)) (h2 : st + 1 < s.size → bt s (st : Int) ≠ 48) :
  ∀ (m i : Nat), i + m = s.size → st ≤ i → scan s b st m i < 0
 | 0, i, hi, _ => by unfold scan; rw [if_neg hne]; omega
 | m + 1, i, hi, hs => by
  unfold scan
  have h3 := hg i hs (by omega)
  rw [if_neg (by omega), if_neg (fun h => h1 ⟨by rw [← h.2.1]; exact h.1, h.2.2⟩), if_neg (fun h => h2 (by omega) h.2)]
  exact scan_fine hne hg h1 h2 m (i + 1) (by omega) (by omega)
theorem bt_nums (xs : List Int) (h : ∀ x ∈ xs, 0 ≤ x ∧ x < 256) (i : Nat) (hi : i < xs.length) : bt (strOfNums xs) (i : Int) = rd xs (i : Int) := by
 have hsz : (strOfNums xs).size = xs.length := by simp [strOfNums, ByteArray.size]
 unfold bt
 have e : ((i : Nat) : Int).toNat = i := by omega
 simp only [e]
 rw [dif_pos (by omega), rd_nat xs hi]
 have hx := h _ (List.getElem_mem hi)
 have : (strOfNums xs)[i]'(by omega) = UInt8.ofNat (xs[i]'hi).toNat := by simp [strOfNums, ByteArray.getElem_eq_getElem_data]
 rw [this, UInt8.toNat_ofNat']
 omega
theorem nums_size (xs : List Int) : (strOfNums xs).size = xs.length := by simp [strOfNums, ByteArray.size]
end Go.Proofs.Ytbmddlldadbfnaa.BM
end
section
namespace Go.Proofs.Ytbmddlldadbfnaa.BM
open Go.RowKit Go.Proofs.YtbmddlldadbfnaaW.PrintWords Go.Proofs.YtbmddlldadbfnaaW.PrintLast Go.Proofs.YtbmddlldadbfnaaW.PrintMore
open Go.Proofs.Ytbmddlldadbfnaa.BA
def numOf (s : ByteArray) (b : Int) : Int := D b (fun i => wv (bt s ((startOf s + i : Nat) : Int)) b) (s.size - startOf s)
theorem parse_good (s : ByteArray) (b : Int) (hb : 2 ≤ b) (hb' : b ≤ 36) (hs : s.size ≤ 3000) (h : scan s b (startOf s) (s.size - startOf s) (startOf s) < 0) :
  ∃ l, Ev (fun k => base_Parse.f k s b) ((bt s 0 == 45) && decide (0 < l.length), l, 0, 0) ∧ Can 18446744073709551616 l (numOf s b) ∧ l.length ≤ s.size := by
 have c1 : ¬ (s.size : Int) > 1048576 := by omega
 have c2 : ¬ (s.size : Int) > 262145 := by omega
 have hst := start_le s
 have hw1 := wrong_ev s b hb hb' (by omega)
 obtain ⟨hne, hg⟩ := scan_ok _ _ h (by omega)
 have hbs := body_size s
 obtain ⟨l1, hr1, hc1⟩ := bigRead_ev s b hb hb' (by omega) (by omega) (fun i hi => by rw [body_bt s i hi]; exact hg _ (by omega) (by omega))
 have he : D b (fun i => wv (bt (bodyOf s) i) b) (bodyOf s).size = numOf s b := by
  unfold numOf
  rw [← hbs]
  exact D_congr (fun j hj => by show wv _ b = wv _ b; rw [body_bt s j hj])
 rw [he] at hc1
 have hlen : l1.length ≤ s.size - startOf s := by
  refine Can_len (by omega) hc1 ?_
  have h1 := D_lt (b := b) (g := fun i => wv (bt s ((startOf s + i : Nat) : Int)) b) (t := s.size - startOf s) (by omega) (fun j _ => wv_lt _ b (by omega))
  have h2 := pow_mono (show 0 ≤ b by omega) (show b ≤ 18446744073709551616 by omega) (s.size - startOf s)
  exact Int.lt_of_lt_of_le h1 h2
 refine ⟨l1, Late.step (g := fun _ => some ((bt s 0 == 45) && decide (0 < l1.length), l1, 0, 0)) (hw1.late.and hr1.late) (fun k hk => ?_) (Ev.pure _), hc1, by omega⟩
 have hk1 : base_wrong.f k s b = some (scan s b (startOf s) (s.size - startOf s) (startOf s)) := hk.1
 have hk2 : bigRead.f k s b = some ((bt s 0 == 45) && decide (0 < l1.length), l1, true) := hk.2
 have c0 : ¬ scan s b (startOf s) (s.size - startOf s) (startOf s) ≥ 0 := by omega
 unfold base_Parse.f
 rw [show base_may.f b = some true from may_true hb hb', Option.bind_some, if_pos rfl, if_neg c1, hk1, Option.bind_some, if_neg c0, if_neg c2, hk2, Option.bind_some, if_pos rfl]
theorem V_D (b : Int) (g : Nat → Int) : ∀ n : Nat, V b ((List.range n).map fun i => g (n - 1 - i)) = D b g n
 | 0 => rfl
 | n + 1 => by
  have e : (List.range (n + 1)).map (fun i => g (n + 1 - 1 - i)) = g n :: (List.range n).map (fun i => g (n - 1 - i)) := by
   rw [List.range_succ_eq_map, List.map_cons, List.map_map]
   congr 1
   apply List.map_congr_left
   intro i _
   show g (n + 1 - 1 - (i + 1)) = g (n - 1 - i)
   congr 1
   omega
  rw [e, V, V_D b g n, D, Int.mul_comm b]
  omega
structure Good (b : Int) (neg : Bool) (ds : List Int) : Prop where
 dig : Dig b ds
 ne : ds ≠ []
 top : 2 ≤ ds.length → Top ds
 sign : neg = true → Top ds
theorem out_size (neg : Bool) (ds : List Int) : (outOf neg ds).size = ds.length + (if neg = true then 1 else 0) := by
 unfold outOf
 rw [nums_size]
 cases neg <;> simp
theorem out_bt {b : Int} (hb' : b ≤ 36) {neg : Bool} {ds : List Int} (hd : Dig b ds) (j : Nat) (hj : j < ds.length) :
  bt (outOf neg ds) (((if neg = true then 1 else 0) + j : Nat) : Int) = dgt (rd ds ((ds.length - 1 - j : Nat) : Int)) := by
 have hall : ∀ x ∈ (ds.map dgt ++ (if neg = true then [45] else [])).reverse, 0 ≤ x ∧ x < 256 := by
  intro x hx
  rw [List.mem_reverse, List.mem_append] at hx
  rcases hx with hx | hx
  ·obtain ⟨d, hd', rfl⟩ := List.mem_map.1 hx
   have := hd d hd'
   have := dgt_range this.1 (by omega)
   omega
  ·cases neg
   ·simp at hx
   ·simp at hx; omega
 unfold outOf
 rw [bt_nums _ hall _ (by cases neg <;> simp <;> omega)]
 cases neg
 ·simp only [Bool.false_eq_true, if_false, List.append_nil, Nat.zero_add]
  rw [rd_nat _ (by simp; exact hj), List.getElem_reverse, rd_nat _ (by omega)]
  simp
 ·simp only [if_true, List.reverse_append, List.reverse_singleton]
  rw [rd_nat _ (by simp; omega), List.getElem_append_right (by simp), List.getElem_reverse, rd_nat _ (by omega)]
  simp
theorem out_sign {b : Int} (hb' : b ≤ 36) {neg : Bool} {ds : List Int} (hd : Dig b ds) (hne : ds ≠ []) : (bt (outOf neg ds) 0 == 45) = neg ∧ startOf (outOf neg ds) = (if neg = true then 1 else 0) := by
 have hp := List.length_pos_iff.2 hne
 cases neg
 ·have h := out_bt (neg := false) hb' hd 0 hp
  have hr := rd_dig hd (i := ((ds.length - 1 - 0 : Nat) : Int)) (by omega) (by omega)
  have h2 := dgt_range hr.1 (by omega)
  have h3 : bt (outOf false ds) 0 = dgt (rd ds ((ds.length - 1 - 0 : Nat) : Int)) := h
  refine ⟨beq_false_of_ne (by omega), ?_⟩
  unfold startOf
  rw [if_neg (by omega)]
  rfl
 ·have h : bt (outOf true ds) 0 = 45 := by
   unfold outOf
   simp only [if_true, List.reverse_append, List.reverse_singleton]
   have := bt_nums ([45] ++ (ds.map dgt).reverse) (by
    intro x hx
    rcases List.mem_append.1 hx with hx | hx
    ·simp at hx; omega
    ·rw [List.mem_reverse] at hx
     obtain ⟨d, hd', rfl⟩ := List.mem_map.1 hx
     have := hd d hd'
     have := dgt_range this.1 (by omega)
     omega) 0 (by simp)
   exact this
  refine ⟨by rw [h]; rfl, ?_⟩
  unfold startOf
  rw [if_pos h]
  rfl
theorem out_fine {b : Int} (hb : 2 ≤ b) (hb' : b ≤ 36) {neg : Bool} {ds : List Int} (g : Good b neg ds) :
  scan (outOf neg ds) b (startOf (outOf neg ds)) ((outOf neg ds).size - startOf (outOf neg ds)) (startOf (outOf neg ds)) < 0 ∧ numOf (outOf neg ds) b = V b ds := by
 have hp := List.length_pos_iff.2 g.ne
 have hsz := out_size neg ds
 obtain ⟨hsg, hst⟩ := out_sign (neg := neg) hb' g.dig g.ne
 have hn : (outOf neg ds).size - startOf (outOf neg ds) = ds.length := by rw [hst, hsz]; omega
 have hbt : ∀ j : Nat, j < ds.length → wv (bt (outOf neg ds) ((startOf (outOf neg ds) + j : Nat) : Int)) b = rd ds ((ds.length - 1 - j : Nat) : Int) := by
  intro j hj
  have hr := rd_dig g.dig (i := ((ds.length - 1 - j : Nat) : Int)) (by omega) (by omega)
  rw [hst, out_bt hb' g.dig j hj, wv_dgt hr.1 hr.2 hb']
 have htop : Top ds → rd ds ((ds.length - 1 - 0 : Nat) : Int) ≠ 0 := by
  intro ht
  have := ht g.ne
  rw [getLast_rd] at this
  rwa [show ((ds.length - 1 - 0 : Nat) : Int) = (ds.length : Int) - 1 by omega]
 have h0 := hbt 0 hp
 rw [Nat.add_zero] at h0
 refine ⟨scan_fine (by omega) (fun j h1 h2 => ?_) (fun h => ?_) (fun h1 h2 => ?_) _ _ (by omega) (Nat.le_refl _), ?_⟩
 ·have := hbt (j - startOf (outOf neg ds)) (by omega)
  rw [show startOf (outOf neg ds) + (j - startOf (outOf neg ds)) = j by omega] at this
  rw [this]
  exact (rd_dig g.dig (by omega) (by omega)).1
 ·have hneg : neg = true := by
   cases neg
   ·rw [hst] at h; exact absurd h.2 (by decide)
   ·rfl
  exact htop (g.sign hneg) (by rw [← h0]; exact h.1)
 ·have h3 : wv (bt (outOf neg ds) (startOf (outOf neg ds) : Int)) b = 0 := by
   rw [h2]; unfold wv; rw [if_pos (by omega)]; rfl
  exact htop (g.top (by omega)) (by rw [← h0]; exact h3)
 ·unfold numOf
  rw [hn, D_congr (g' := fun i => rd ds ((ds.length - 1 - i : Nat) : Int)) (fun j hj => hbt j hj), ← V_D]
  congr 1
  apply List.ext_getElem
  ·simp
  ·intro i h1 h2
   simp only [List.getElem_map, List.getElem_range]
   rw [rd_nat _ (by omega)]
   congr 1
   omega
end Go.Proofs.Ytbmddlldadbfnaa.BM
end
section
namespace Go.Proofs.Ytbmddlldadbfnaa.BM
open Go.RowKit Go.Proofs.YtbmddlldadbfnaaW.PrintWords Go.Proofs.YtbmddlldadbfnaaW.PrintLast Go.Proofs.YtbmddlldadbfnaaW.PrintMore
open Go.Proofs.Ytbmddlldadbfnaa.BA
theorem Good.zero {b : Int} {neg : Bool} {ds : List Int} (g : Good b neg ds) (hb : 2 ≤ b) (hv : V b ds = 0) : ds = [0] ∧ neg = false := by
 have ht : ¬ Top ds := fun ht => by
  have hc : Can b ds 0 := ⟨⟨g.dig, hv⟩, ht⟩
  exact g.ne (Can_zero (by omega) hc)
 have hl : ds.length < 2 := by
  rcases Nat.lt_or_ge ds.length 2 with h | h
  ·exact h
  ·exact absurd (g.top h) ht
 refine ⟨?_, ?_⟩
 ·match ds, g.ne, hl, hv with
  | [d], _, _, hv =>
   simp [V] at hv
   rw [hv]
 ·cases neg
  ·rfl
  ·exact absurd (g.sign rfl) ht
theorem good_can {b n : Int} {neg : Bool} {ds : List Int} (h : Can b ds n) (hne : ds ≠ []) : Good b neg ds := ⟨h.1.1, hne, fun _ => h.2, fun _ => h.2⟩
theorem good_zero {b : Int} (hb : 2 ≤ b) : Good b false [0] := ⟨Dig_one (by omega) (by omega), by simp, fun h => absurd h (by simp), fun h => by cases h⟩
theorem text_zero : (⟨#[48]⟩ : ByteArray) = outOf false [0] := by
 apply ByteArray.ext
 rfl
theorem text_good {b n : Int} {neg : Bool} {ds : List Int} (hb : 2 ≤ b) (h : Can b ds n) (hneg : n = 0 → neg = false) : ∃ ws, Good b neg ws ∧ V b ws = n ∧ textOf neg ds = outOf neg ws ∧ ws.length ≤ max ds.length 1 := by
 by_cases h0 : ds = []
 ·subst h0
  have hn : n = 0 := by rw [← h.1.2]; rfl
  have := hneg hn
  subst this
  refine ⟨[0], good_zero hb, by rw [hn]; simp [V], ?_, by simp⟩
  unfold textOf
  rw [if_pos rfl, text_zero]
 ·refine ⟨ds, good_can h h0, h.1.2, ?_, by omega⟩
  unfold textOf
  rw [if_neg h0]
theorem parse_out {b n : Int} (hb : 2 ≤ b) (hb' : b ≤ 36) {neg : Bool} {ws l : List Int} (g : Good b neg ws) (hv : V b ws = n) (hl : Can 18446744073709551616 l n) (hneg : l = [] → neg = false) (hs : (outOf neg ws).size ≤ 3000) :
  Ev (fun k => base_Parse.f k (outOf neg ws) b) (neg, l, 0, 0) := by
 obtain ⟨hsc, hnum⟩ := out_fine hb hb' g
 obtain ⟨l', he, hc, _⟩ := parse_good (outOf neg ws) b hb hb' hs hsc
 rw [hnum, hv] at hc
 have := Can_unique (by omega) hc hl
 subst this
 rw [(out_sign (neg := neg) hb' g.dig g.ne).1] at he
 have e : (neg && decide (0 < l'.length)) = neg := by
  by_cases h : l' = []
  ·rw [hneg h]; rfl
  ·have := List.length_pos_iff.2 h
   simp [this]
 rwa [e] at he
end Go.Proofs.Ytbmddlldadbfnaa.BM
end
section
namespace Go.Proofs.Ytbmddlldadbfnaa.BM
open Go.RowKit Go.Proofs.YtbmddlldadbfnaaW.PrintWords Go.Proofs.YtbmddlldadbfnaaW.PrintLast Go.Proofs.YtbmddlldadbfnaaW.PrintMore
open Go.Proofs.Ytbmddlldadbfnaa.BA Go.Proofs.Ytbmddlldadbfnaa.BB Go.Proofs.Ytbmddlldadbfnaa.BD
theorem of_f (a : Int) : ∃ b, w19of.f a = some b ∧ 2 ≤ b ∧ b ≤ 36 := by
 have hp : ∃ p, rkPick.f a 35 = some p ∧ 0 ≤ p ∧ p < 35 := by
  have ht : -35 < Int.tmod a 35 ∧ Int.tmod a 35 < 35 := by
   have h2 := Int.tmod_lt_of_pos a (show (0 : Int) < 35 by omega)
   have h3 := Int.lt_tmod_of_pos a (show (0 : Int) < 35 by omega)
   omega
  unfold rkPick.f
  rw [if_neg (by omega), if_neg (by omega)]
  by_cases h : Int.tmod a 35 < 0
  ·rw [if_pos h, w64 (by omega) (by omega)]
   exact ⟨_, rfl, by omega, by omega⟩
  ·rw [if_neg h]
   exact ⟨_, rfl, by omega, by omega⟩
 obtain ⟨p, hp, p0, p1⟩ := hp
 refine ⟨2 + p, ?_, by omega, by omega⟩
 unfold w19of.f
 rw [hp, Option.bind_some, w64 (by omega) (by omega)]
theorem whole_int_ev {l : List Int} (hd : Dig 18446744073709551616 l) (neg : Bool) : ∃ t n, Ev (fun k => rmWhole_Int.f k neg l 40) (neg && decide (0 < t.length), t) ∧ Can 18446744073709551616 t n ∧ t.length ≤ 40 := by
 have fin : ∀ (k : Nat) (t : List Int), (if neg = true then some (decide (0 < t.length), t) else some (false, t)) = some (neg && decide (0 < t.length), t) := by
  intro k t
  cases neg <;> rfl
 by_cases h : (l.length : Int) > 40
 ·obtain ⟨t, ht, hc, htl⟩ := nattrim_ev 18446744073709551616 (l := l.take 40) (n := V 18446744073709551616 (l.take 40)) (by rw [List.length_take]; omega) ⟨Dig_take hd 40, rfl⟩
  refine ⟨t, _, Late.step (g := fun _ => some (neg && decide (0 < t.length), t)) ht.late (fun k hk => ?_) (Ev.pure _), hc, by rw [List.length_take] at htl; omega⟩
  have hk' : r00NatTrim.f k (l.take (40 : Int).toNat) = some t := hk
  unfold rmWhole_Int.f
  rw [if_pos h, if_pos (by omega), if_pos (by omega), hk', Option.bind_some]
  exact fin k t
 ·obtain ⟨t, ht, hc, htl⟩ := nattrim_ev 18446744073709551616 (l := l) (n := V 18446744073709551616 l) (by omega) ⟨hd, rfl⟩
  refine ⟨t, _, Late.step (g := fun _ => some (neg && decide (0 < t.length), t)) ht.late (fun k hk => ?_) (Ev.pure _), hc, by omega⟩
  have hk' : r00NatTrim.f k l = some t := hk
  unfold rmWhole_Int.f
  rw [if_neg h, hk', Option.bind_some]
  exact fin k t
theorem told_read {l : List Int} {n b : Int} (hc : Can 18446744073709551616 l n) (hl : l.length ≤ 40) (hb : 2 ≤ b) (hb' : b ≤ 36) (neg : Bool) (hneg : l = [] → neg = false) :
  ∃ s, Ev (fun k => base_Print.f k neg l b) (s, 0) ∧ Ev (fun k => base_Parse.f k s b) (neg, l, 0, 0) ∧ s.size ≤ 3000 := by
 obtain ⟨ds, hds, hp⟩ := print_ev hc (by omega) hb hb' neg hneg
 have hn0 : n = 0 → neg = false := fun h => hneg (by subst h; exact Can_zero (by omega) hc)
 obtain ⟨ws, g, hv, ht, hlen⟩ := text_good hb hds hn0
 have hdl : ds.length ≤ 2560 := by
  refine Can_len (by omega) hds ?_
  have h6 := V_lt (show (0 : Int) < 18446744073709551616 by omega) hc.1.1
  rw [hc.1.2] at h6
  have h7 : (18446744073709551616 : Int) ≤ b ^ 64 := pow_mono (a := 2) (by omega) hb 64
  have h8 := pow_mono (show (0 : Int) ≤ 18446744073709551616 by omega) h7 40
  rw [← Int.pow_mul] at h8
  have h9 := pow_le' (B := 18446744073709551616) (by omega) hl
  exact Int.lt_of_lt_of_le h6 (Int.le_trans h9 h8)
 have hsz := out_size neg ws
 have hs : (outOf neg ws).size ≤ 3000 := by rw [hsz]; split <;> omega
 rw [ht] at hp
 exact ⟨outOf neg ws, hp, parse_out hb hb' g hv hc hneg hs, hs⟩
end Go.Proofs.Ytbmddlldadbfnaa.BM
end

/- Part of the proof that the limits and examples of package base: bases at their ends, faults and where they stand, the longest number and one digit more. -/
import Derived.Laws.MathBits
import Derived.Test.YtbmddlldadbfnaaCF2
section
namespace Go.Proofs.Ytbmddlldadbfnaa.BB
open Go.RowKit Go.Proofs.Ytbmddlldadbfnaa.BA Go.Proofs.YtbmddlldadbfnaaW.PrintWords Go.Proofs.YtbmddlldadbfnaaW.PrintLast Go.Proofs.YtbmddlldadbfnaaW.PrintMore
attribute [local go_sem] ZU ZS max_two min_two ZP ZO ZT ZR
set_option linter.unusedVariables false
set_option linter.unusedSimpArgs false
def stringslite_HasPrefix.f (a0 : ByteArray) (a1 : ByteArray) : Option (Bool) := if (a0.size : Int) ≥ (a1.size : Int) then (if 0 ≤ (a1.size : Int) then (if (a1.size : Int) ≤ (a0.size : Int) then (some ((a0.extract 0 ((a1.size : Int) : Int).toNat).toList == a1.toList)) else (none)) else (none)) else (some false)
set_option maxHeartbeats 8000000 in
set_option maxRecDepth 100000 in
theorem stringslite_HasPrefix.calls (a0 : ByteArray) (a1 : ByteArray) (r : Bool) (w : World) (h : stringslite_HasPrefix.f a0 a1 = some r) :
  Calls Try.prog 67 #[.string a0, .string a1] w fun e w' => e = .returned (.bool r) ∧ Zq w w' := by
 have H : (if (a0.size : Int) ≥ (a1.size : Int) then (if 0 ≤ (a1.size : Int) then (if (a1.size : Int) ≤ (a0.size : Int) then (some ((a0.extract 0 ((a1.size : Int) : Int).toNat).toList == a1.toList)) else (none)) else (none)) else (some false)) = some r := h
 clear h
 by_cases c3 : (a0.size : Int) ≥ (a1.size : Int)
 ·rw [if_pos c3] at H
  have c3b0 : decide ((a1.size : Int) ≤ (a0.size : Int)) = true := decide_eq_true c3
  have c3b1 : decide (a1.size ≤ a0.size) = true := decide_eq_true (Int.ofNat_le.mp c3)
  clear c3
  by_cases c4 : 0 ≤ (a1.size : Int)
  ·rw [if_pos c4] at H
   have c4b0 := eq_true c4
   have c4b1 : decide (0 ≤ (a1.size : Int)) = true := decide_eq_true c4
   clear c4
   by_cases c5 : (a1.size : Int) ≤ (a0.size : Int)
   ·rw [if_pos c5] at H
    have c5b0 := eq_true c5
    have c5b1 : decide ((a1.size : Int) ≤ (a0.size : Int)) = true := decide_eq_true c5
    clear c5
    obtain rfl := Option.some.inj H
    go_enter Try.func67, Try.ntmps67
    go_wp2
    go_ret
    exact ⟨by first | rfl | (simp; done) | (simp [*]; done), by repeat (first | exact Zq.refl _ | apply Zq.step)⟩
   ·rw [if_neg c5] at H
    exact absurd H (by simp)
  ·rw [if_neg c4] at H
   exact absurd H (by simp)
 ·rw [if_neg c3] at H
  have c3b0 : decide ((a1.size : Int) ≤ (a0.size : Int)) = false := decide_eq_false c3
  have c3b1 : decide (a1.size ≤ a0.size) = false := decide_eq_false (fun h => c3 (Int.ofNat_le.mpr h))
  clear c3
  obtain rfl := Option.some.inj H
  go_enter Try.func67, Try.ntmps67
  go_wp2
  go_ret
  exact ⟨by first | rfl | (simp; done) | (simp [*]; done), by repeat (first | exact Zq.refl _ | apply Zq.step)⟩
def stringslite_TrimPrefix.f (a0 : ByteArray) (a1 : ByteArray) : Option (ByteArray) := (stringslite_HasPrefix.f a0 a1).bind fun t101 => (if t101 = true then (if 0 ≤ (a1.size : Int) then (if (a1.size : Int) ≤ (a0.size : Int) then (some (a0.extract ((a1.size : Int) : Int).toNat a0.size)) else (none)) else (none)) else (some a0))
set_option maxHeartbeats 8000000 in
set_option maxRecDepth 100000 in
theorem stringslite_TrimPrefix.calls (a0 : ByteArray) (a1 : ByteArray) (r : ByteArray) (w : World) (h : stringslite_TrimPrefix.f a0 a1 = some r) :
  Calls Try.prog 66 #[.string a0, .string a1] w fun e w' => e = .returned (.string r) ∧ Zq w w' := by
 have H : ((stringslite_HasPrefix.f a0 a1).bind fun t101 => (if t101 = true then (if 0 ≤ (a1.size : Int) then (if (a1.size : Int) ≤ (a0.size : Int) then (some (a0.extract ((a1.size : Int) : Int).toNat a0.size)) else (none)) else (none)) else (some a0))) = some r := h
 clear h
 replace H := Option.bind_eq_some_iff.mp H
 obtain ⟨t101, A30, H⟩ := H
 replace H : (if t101 = true then (if 0 ≤ (a1.size : Int) then (if (a1.size : Int) ≤ (a0.size : Int) then (some (a0.extract ((a1.size : Int) : Int).toNat a0.size)) else (none)) else (none)) else (some a0)) = some r := H
 have A3 := Zb.mk A30
 clear A30
 by_cases c4 : t101 = true
 ·subst c4
  have H1 : (if 0 ≤ (a1.size : Int) then (if (a1.size : Int) ≤ (a0.size : Int) then (some (a0.extract ((a1.size : Int) : Int).toNat a0.size)) else (none)) else (none)) = some r := by rw [if_pos rfl] at H; exact H
  clear H
  have H := H1
  clear H1
  by_cases c5 : 0 ≤ (a1.size : Int)
  ·rw [if_pos c5] at H
   have c5b0 := eq_true c5
   have c5b1 : decide (0 ≤ (a1.size : Int)) = true := decide_eq_true c5
   clear c5
   by_cases c6 : (a1.size : Int) ≤ (a0.size : Int)
   ·rw [if_pos c6] at H
    have c6b0 := eq_true c6
    have c6b1 : decide ((a1.size : Int) ≤ (a0.size : Int)) = true := decide_eq_true c6
    clear c6
    obtain rfl := Option.some.inj H
    go_enter Try.func66, Try.ntmps66
    go_wp2_with (first | ((with_reducible refine Zp (f := 67) rfl ?_); refine ZB (some 7) rfl rfl Try.func67 (by kernel_rfl) rfl #[.string a0, .string a1] rfl (by (try simp only [List.map_toArray, List.map_cons, List.map_nil]); first | done | rfl | (simp only [List.length_drop, List.length_take]; rfl)) ?_; (with_reducible refine (stringslite_HasPrefix.calls a0 a1 true _ A3.out).mono ?_); rintro e w' ⟨rfl, ⟨nd, rfl⟩⟩; refine ⟨_, rfl, ?_⟩))
    go_ret
    exact ⟨by first | rfl | (simp; done) | (simp [*]; done), by repeat (first | exact Zq.refl _ | apply Zq.step)⟩
   ·rw [if_neg c6] at H
    exact absurd H (by simp)
  ·rw [if_neg c5] at H
   exact absurd H (by simp)
 ·replace c4 := Bool.eq_false_iff.mpr c4
  subst c4
  have H1 : (some a0) = some r := by rw [if_neg (show ¬ (false = true) by decide)] at H; exact H
  clear H
  have H := H1
  clear H1
  obtain rfl := Option.some.inj H
  go_enter Try.func66, Try.ntmps66
  go_wp2_with (first | ((with_reducible refine Zp (f := 67) rfl ?_); refine ZB (some 7) rfl rfl Try.func67 (by kernel_rfl) rfl #[.string a0, .string a1] rfl (by (try simp only [List.map_toArray, List.map_cons, List.map_nil]); first | done | rfl | (simp only [List.length_drop, List.length_take]; rfl)) ?_; (with_reducible refine (stringslite_HasPrefix.calls a0 a1 false _ A3.out).mono ?_); rintro e w' ⟨rfl, ⟨nd, rfl⟩⟩; refine ⟨_, rfl, ?_⟩))
  go_ret
  exact ⟨by first | rfl | (simp; done) | (simp [*]; done), by repeat (first | exact Zq.refl _ | apply Zq.step)⟩
def strings_TrimPrefix.f (a0 : ByteArray) (a1 : ByteArray) : Option (ByteArray) := (stringslite_TrimPrefix.f a0 a1).bind fun t102 => (some t102)
set_option maxHeartbeats 8000000 in
set_option maxRecDepth 100000 in
theorem strings_TrimPrefix.calls (a0 : ByteArray) (a1 : ByteArray) (r : ByteArray) (w : World) (h : strings_TrimPrefix.f a0 a1 = some r) :
  Calls Try.prog 31 #[.string a0, .string a1] w fun e w' => e = .returned (.string r) ∧ Zq w w' := by
 have H : ((stringslite_TrimPrefix.f a0 a1).bind fun t102 => (some t102)) = some r := h
 clear h
 replace H := Option.bind_eq_some_iff.mp H
 obtain ⟨t102, A30, H⟩ := H
 replace H : (some t102) = some r := H
 have A3 := Zb.mk A30
 clear A30
 obtain rfl := Option.some.inj H
 go_enter Try.func31, Try.ntmps31
 go_wp2_with (first | ((with_reducible refine Zp (f := 66) rfl ?_); refine ZB (some 7) rfl rfl Try.func66 (by kernel_rfl) rfl #[.string a0, .string a1] rfl (by (try simp only [List.map_toArray, List.map_cons, List.map_nil]); first | done | rfl | (simp only [List.length_drop, List.length_take]; rfl)) ?_; (with_reducible refine (stringslite_TrimPrefix.calls a0 a1 t102 _ A3.out).mono ?_); rintro e w' ⟨rfl, ⟨nd, rfl⟩⟩; refine ⟨_, rfl, ?_⟩))
 go_ret
 exact ⟨by first | rfl | (simp; done) | (simp [*]; done), by repeat (first | exact Zq.refl _ | apply Zq.step)⟩
def base_Count.f (k : Nat) (a0_0 : Bool) (l0_1 : List Int) (a1 : Int) : Option (Int × Int) := (base_Print.f k a0_0 l0_1 a1).bind fun bt104 => ((strings_TrimPrefix.f bt104.1 (⟨#[45]⟩ : ByteArray)).bind fun t106 => (some ((t106.size : Int), bt104.2)))
theorem base_Count.mono : ∀ a0 a1 a2 k, LeO (base_Count.f k a0 a1 a2) (base_Count.f (k + 1) a0 a1 a2) := by
 intro a0 a1 a2 k
 unfold base_Count.f
 repeat' first
   | (with_reducible exact base_Print.mono _ _ _ _)
   | (with_reducible exact LeO.refl _)
   | (with_reducible exact LeO.none _)
   | (with_reducible refine LeO.ite ?_ ?_)
   | (with_reducible refine LeO.bind ?_ (fun _ => ?_))
   | exact base_Print.mono _ _ _ _
   | exact LeO.none _
   | refine LeO.ite ?_ ?_
   | refine LeO.bind ?_ (fun _ => ?_)
set_option maxHeartbeats 8000000 in
set_option maxRecDepth 100000 in
theorem base_Count.calls (k : Nat) (a0_0 : Bool) (A0_1 : Option Addr) (c0_1 : Nat) (l0_1 : List Int) (a1 : Int) (r1 : Int) (r2 : Int) (w : World) (hr0_1 : Kd.C (Kd.int .u64) w A0_1 l0_1.length l0_1) (hc0_1 : l0_1.length ≤ c0_1) (h : base_Count.f k a0_0 l0_1 a1 = some (r1, r2)) :
  Calls Try.prog 14 #[.agg #[.bool a0_0, .slice A0_1 l0_1.length c0_1], .int .i64 a1] w fun e w' => e = .returned (.tuple #[.int .i64 r1, .int .i64 r2]) ∧ Below w.heap.size w w' := by
 have hu24 := Try.underlying24
 have HR0_1 := Zb.mk hr0_1
 have HC0_1 := Zb.mk hc0_1
 clear hr0_1 hc0_1
 have HB := Zb.mk (Below.refl w.heap.size w)
 have H : ((base_Print.f k a0_0 l0_1 a1).bind fun bt104 => ((strings_TrimPrefix.f bt104.1 (⟨#[45]⟩ : ByteArray)).bind fun t106 => (some ((t106.size : Int), bt104.2)))) = some (r1, r2) := h
 clear h
 replace H := Option.bind_eq_some_iff.mp H
 obtain ⟨⟨t104, t105⟩, A30, H⟩ := H
 replace H : ((strings_TrimPrefix.f t104 (⟨#[45]⟩ : ByteArray)).bind fun t106 => (some ((t106.size : Int), t105))) = some (r1, r2) := H
 have A3 := Zb.mk A30
 clear A30
 replace H := Option.bind_eq_some_iff.mp H
 obtain ⟨t106, A40, H⟩ := H
 replace H : (some ((t106.size : Int), t105)) = some (r1, r2) := H
 have A4 := Zb.mk A40
 clear A40
 simp only [Option.some.injEq, Prod.mk.injEq] at H
 obtain ⟨rfl, rfl⟩ := H
 go_enter Try.func14, Try.ntmps14
 go_wp2_with (first | ((with_reducible refine Zt (N := 2) rfl ?_); refine Zs ?hg (N := 2) ?hd (cs := #[.bool a0_0, .slice A0_1 l0_1.length c0_1]) (t := 24) ?hr ?_; (case hd => rfl); (case hg => rfl); (case hr => first | (go_simp; done) | (go_simp; rfl)); intro gb103 hg w5 hbox hb; have n0_ := Zb.mk (Zl (by repeat (with_reducible first | exact HB.out | apply Zc | apply Za | apply Zd)) hb); have n1_ := Zb.mk (hbox); have n2_ := Zb.mk ((by rw [hg]; exact (Zi (by repeat (with_reducible first | exact HB.out | apply Zc | apply Za | apply Zd))) : w.heap.size ≤ gb103)); have n3_ := Zb.mk ((by rw [hg]; exact (Zi (by repeat (with_reducible first | exact HB.out | apply Zc | apply Za | apply Zd))) : w.heap.size ≤ gb103)); clear HB; have HB := n0_; have BK103 := n1_; have GW103 := n2_; have GE103 := n3_; clear n0_ n1_ n2_ n3_; clear hb hbox hg; have hcz6_0 : w5.cell? ⟨gb103, 0, none⟩ = some (.bool a0_0) := (Zk BK103.out 0).trans rfl; have hcz6_1 : w5.cell? ⟨gb103, 1, none⟩ = some (.slice A0_1 l0_1.length c0_1) := (Zk BK103.out 1).trans rfl; have hfz6_0 := Zj BK103.out 0; have hfz6_1 := Zj BK103.out 1) | ((with_reducible refine Zp (f := 12) rfl ?_); refine ZB (some 11) rfl rfl Try.func12 (by kernel_rfl) rfl #[.agg #[.bool a0_0, .slice A0_1 l0_1.length c0_1], .int .i64 a1] rfl (by (try simp only [List.map_toArray, List.map_cons, List.map_nil]); first | done | rfl | (simp only [List.length_drop, List.length_take]; rfl)) ?_; (with_reducible refine (base_Print.calls k a0_0 _ _ l0_1 a1 t104 t105 _ ?side1 ?side2 A3.out).mono ?_); (case side1 => repeat (first | exact (Kd.C_below HR0_1.out HB.out) | (with_reducible refine Kd.ZC ?_ _) | (with_reducible refine Kd.ZF ?_ _) | (with_reducible refine Kd.ZN ?_))); (case side2 => exact HC0_1.out); rintro e w7 ⟨rfl, hb⟩; refine ⟨_, rfl, ?_⟩; have n0_ := Zb.mk (Zn (g := gb103) (o := .cells #[.bool a0_0, .slice A0_1 l0_1.length c0_1] 24 (0, 0)) (by (with_reducible repeat first | refine Ze ?_ _ | refine Zg ?_ | refine Zf ?_ _); exact BK103.out) hb); have n1_ := Zb.mk (Zl (by repeat (with_reducible first | exact HB.out | apply Zc | apply Za | apply Zd | refine Zh ?_ GE103.out)) hb); clear BK103; clear HB; have BK103 := n0_; have HB := n1_; clear n0_ n1_; (try clear hb); (try clear hb2); (try clear hk); (try clear hi)) | ((with_reducible refine Zp (f := 31) rfl ?_); refine ZB (some 15) rfl rfl Try.func31 (by kernel_rfl) rfl #[.string t104, .string (⟨#[45]⟩ : ByteArray)] rfl (by (try simp only [List.map_toArray, List.map_cons, List.map_nil]); first | done | rfl | (simp only [List.length_drop, List.length_take]; rfl)) ?_; (with_reducible refine (strings_TrimPrefix.calls t104 (⟨#[45]⟩ : ByteArray) t106 _ A4.out).mono ?_); rintro e w' ⟨rfl, ⟨nd, rfl⟩⟩; refine ⟨_, rfl, ?_⟩))
 go_ret2
 exact ⟨by first | rfl | (simp [errW_none, errW_some] <;> rfl) | (simp [*, errW_none, errW_some] <;> rfl), by repeat (with_reducible first | exact HB.out | apply Zc | apply Za | apply Zd | refine Zh ?_ GE103.out)⟩
def rkSameLimbs.l0 : Nat → List Int → List Int → Int → Option (Bool)
 | 0, _, _, _ => none
 | k + 1, x0, x1, x5 => if x5 < (x0.length : Int) then (if 0 ≤ x5 then (if x5 < (x1.length : Int) then (if (rd x0 x5) = (rd x1 x5) then (rkSameLimbs.l0 k x0 x1 (wrap64 (x5 + 1))) else (some false)) else (none)) else (none)) else (some true)
def rkSameLimbs.f (k : Nat) (l0 : List Int) (l1 : List Int) : Option (Bool) := if (l0.length : Int) = (l1.length : Int) then (rkSameLimbs.l0 k l0 l1 0) else (some false)
theorem rkSameLimbs.mono_l : ∀ k, (∀ y0 y1 y2, LeO (rkSameLimbs.l0 k y0 y1 y2) (rkSameLimbs.l0 (k + 1) y0 y1 y2))
 | 0 => fun _ _ _ r h => by simp [rkSameLimbs.l0] at h
 | k + 1 => by
  have ih0 := rkSameLimbs.mono_l k
  ·intro y0 y1 y2
   unfold rkSameLimbs.l0
   repeat' first
   | (with_reducible exact ih0 _ _ _)
   | (with_reducible exact LeO.refl _)
   | (with_reducible exact LeO.none _)
   | (with_reducible refine LeO.ite ?_ ?_)
   | (with_reducible refine LeO.bind ?_ (fun _ => ?_))
   | exact ih0 _ _ _
   | exact LeO.none _
   | refine LeO.ite ?_ ?_
   | refine LeO.bind ?_ (fun _ => ?_)
theorem rkSameLimbs.mono : ∀ a0 a1 k, LeO (rkSameLimbs.f k a0 a1) (rkSameLimbs.f (k + 1) a0 a1) := by
 intro a0 a1 k
 have ih0 := rkSameLimbs.mono_l k
 unfold rkSameLimbs.f
 repeat' first
   | (with_reducible exact ih0 _ _ _)
   | (with_reducible exact LeO.refl _)
   | (with_reducible exact LeO.none _)
   | (with_reducible refine LeO.ite ?_ ?_)
   | (with_reducible refine LeO.bind ?_ (fun _ => ?_))
   | exact ih0 _ _ _
   | exact LeO.none _
   | refine LeO.ite ?_ ?_
   | refine LeO.bind ?_ (fun _ => ?_)
set_option maxHeartbeats 8000000 in
set_option maxRecDepth 100000 in
theorem rkSameLimbs.calls (k : Nat) (A0 : Option Addr) (c0 : Nat) (l0 : List Int) (A1 : Option Addr) (c1 : Nat) (l1 : List Int) (r : Bool) (w : World) (hr0 : Kd.C (Kd.int .u64) w A0 l0.length l0) (hc0 : l0.length ≤ c0) (hr1 : Kd.C (Kd.int .u64) w A1 l1.length l1) (hc1 : l1.length ≤ c1) (h : rkSameLimbs.f k l0 l1 = some r) :
  Calls Try.prog 52 #[.slice A0 l0.length c0, .slice A1 l1.length c1] w fun e w' => e = .returned (.bool r) ∧ Zq w w' := by
 have HR0 := Zb.mk hr0
 have HC0 := Zb.mk hc0
 clear hr0 hc0
 have HR1 := Zb.mk hr1
 have HC1 := Zb.mk hc1
 clear hr1 hc1
 have H : (if (l0.length : Int) = (l1.length : Int) then (rkSameLimbs.l0 k l0 l1 0) else (some false)) = some r := h
 clear h
 by_cases c3 : (l0.length : Int) = (l1.length : Int)
 ·rw [if_pos c3] at H
  have c3b0 : ((l0.length : Int) == (l1.length : Int)) = true := beq_iff_eq.mpr c3
  have c3b1 : ((l0.length : Int) != (l1.length : Int)) = false := bne_eq_false_iff_eq.mpr c3
  have c3b2 : (l0.length == l1.length) = true := by first | simpa using c3 | (simp at c3 ⊢; omega)
  clear c3
  have H' := Zb.mk H
  clear H
  go_enter Try.func52, Try.ntmps52
  go_wp2
  repeat (go_quiet (fail); try go_wp2)
  go_loopg [5] k (fun kq v5 w' => ∃ (x5_1 : Int), v5 = .int .i64 x5_1 ∧ Zb (rkSameLimbs.l0 kq l0 l1 x5_1 = some r) ∧ Zb (kq ≤ k) ∧ Zq w w')
  case atStart => exact ⟨(0), (by first | rfl | (simp; done) | (simp [*]; done)), H', ⟨Nat.le_refl _⟩, by repeat (first | exact Zq.refl _ | apply Zq.step)⟩
  case round =>
   clear H'
   try clear c1
   try clear p2
   try clear c3
   try clear c3b0
   try clear c3b1
   try clear c3b2
   obtain ⟨x5_1, rfl, HA, HK1, ⟨m1, rfl⟩⟩ := hrel
   cases gk with
   | zero => exact absurd HA.out (by simp [rkSameLimbs.l0])
   | succ k1 =>
    have H := HA.out
    clear HA
    simp only [rkSameLimbs.l0] at H
    by_cases c4 : x5_1 < (l0.length : Int)
    ·rw [if_pos c4] at H
     have c4b0 : decide (x5_1 < (l0.length : Int)) = true := decide_eq_true c4
     clear c4
     by_cases c5 : 0 ≤ x5_1
     ·rw [if_pos c5] at H
      have c5b0 : decide (0 ≤ x5_1) = true := decide_eq_true c5
      clear c5
      by_cases c6 : x5_1 < (l1.length : Int)
      ·rw [if_pos c6] at H
       have c6b0 : decide (x5_1 < (l1.length : Int)) = true := decide_eq_true c6
       clear c6
       by_cases c7 : (rd l0 x5_1) = (rd l1 x5_1)
       ·rw [if_pos c7] at H
        have c7b0 : ((rd l0 x5_1) == (rd l1 x5_1)) = true := beq_iff_eq.mpr c7
        have c7b1 : ((rd l0 x5_1) != (rd l1 x5_1)) = false := bne_eq_false_iff_eq.mpr c7
        clear c7
        have H' := Zb.mk H
        clear H
        have p107 : 0 ≤ (x5_1 : Int) := of_decide_eq_true (by first | (with_reducible assumption) | assumption)
        have q107 : x5_1 < (l0.length : Int) := of_decide_eq_true (by first | (with_reducible assumption) | assumption)
        obtain ⟨ad107, e107, hx107_0⟩ := Kd.at_int HR0.out x5_1 p107 q107
        cases e107
        replace p107 := eq_true p107
        replace q107 := eq_true q107
        have p108 : 0 ≤ (x5_1 : Int) := of_decide_eq_true (by first | (with_reducible assumption) | assumption)
        have q108 : x5_1 < (l1.length : Int) := of_decide_eq_true (by first | (with_reducible assumption) | assumption)
        obtain ⟨ad108, e108, hx108_0⟩ := Kd.at_int HR1.out x5_1 p108 q108
        cases e108
        replace p108 := eq_true p108
        replace q108 := eq_true q108
        go_wp2
        repeat (go_quiet (fail); try go_wp2)
        go_roundg k1
        case measure => have := HK1.out; omega
        case rel => exact ⟨(wrap64 (x5_1 + 1)), (by first | rfl | (simp; done) | (simp [*]; done)), H', ⟨by have := HK1.out; omega⟩, by repeat (first | exact Zq.refl _ | apply Zq.step)⟩
       ·rw [if_neg c7] at H
        have c7b0 : ((rd l0 x5_1) == (rd l1 x5_1)) = false := beq_eq_false_iff_ne.mpr c7
        have c7b1 : ((rd l0 x5_1) != (rd l1 x5_1)) = true := bne_iff_ne.mpr c7
        obtain rfl := Option.some.inj H
        have p107 : 0 ≤ (x5_1 : Int) := of_decide_eq_true (by first | (with_reducible assumption) | assumption)
        have q107 : x5_1 < (l0.length : Int) := of_decide_eq_true (by first | (with_reducible assumption) | assumption)
        obtain ⟨ad107, e107, hx107_0⟩ := Kd.at_int HR0.out x5_1 p107 q107
        cases e107
        replace p107 := eq_true p107
        replace q107 := eq_true q107
        have p108 : 0 ≤ (x5_1 : Int) := of_decide_eq_true (by first | (with_reducible assumption) | assumption)
        have q108 : x5_1 < (l1.length : Int) := of_decide_eq_true (by first | (with_reducible assumption) | assumption)
        obtain ⟨ad108, e108, hx108_0⟩ := Kd.at_int HR1.out x5_1 p108 q108
        cases e108
        replace p108 := eq_true p108
        replace q108 := eq_true q108
        go_wp2
        repeat (go_quiet (fail); try go_wp2)
        go_ret
        exact ⟨by first | rfl | (simp; done) | (simp [*]; done), by repeat (first | exact Zq.refl _ | apply Zq.step)⟩
      ·rw [if_neg c6] at H
       exact absurd H (by simp)
     ·rw [if_neg c5] at H
      exact absurd H (by simp)
    ·rw [if_neg c4] at H
     have c4b0 : decide (x5_1 < (l0.length : Int)) = false := decide_eq_false c4
     clear c4
     obtain rfl := Option.some.inj H
     go_wp2
     repeat (go_quiet (fail); try go_wp2)
     go_ret
     exact ⟨by first | rfl | (simp; done) | (simp [*]; done), by repeat (first | exact Zq.refl _ | apply Zq.step)⟩
 ·rw [if_neg c3] at H
  have c3b0 : ((l0.length : Int) == (l1.length : Int)) = false := beq_eq_false_iff_ne.mpr c3
  have c3b1 : ((l0.length : Int) != (l1.length : Int)) = true := bne_iff_ne.mpr c3
  have c3b2 : (l0.length == l1.length) = false := by first | simpa using c3 | (simp at c3 ⊢; omega)
  obtain rfl := Option.some.inj H
  go_enter Try.func52, Try.ntmps52
  go_wp2
  repeat (go_quiet (fail); try go_wp2)
  go_ret
  exact ⟨by first | rfl | (simp; done) | (simp [*]; done), by repeat (first | exact Zq.refl _ | apply Zq.step)⟩
def rkSameInt.f (k : Nat) (a0_0 : Bool) (l0_1 : List Int) (a1_0 : Bool) (l1_1 : List Int) : Option (Bool) := if (a0_0 == a1_0) = true then ((rkSameLimbs.f k l0_1 l1_1).bind fun t111 => (some t111)) else (some false)
theorem rkSameInt.mono : ∀ a0 a1 a2 a3 k, LeO (rkSameInt.f k a0 a1 a2 a3) (rkSameInt.f (k + 1) a0 a1 a2 a3) := by
 intro a0 a1 a2 a3 k
 unfold rkSameInt.f
 repeat' first
   | (with_reducible exact rkSameLimbs.mono _ _ _)
   | (with_reducible exact LeO.refl _)
   | (with_reducible exact LeO.none _)
   | (with_reducible refine LeO.ite ?_ ?_)
   | (with_reducible refine LeO.bind ?_ (fun _ => ?_))
   | exact rkSameLimbs.mono _ _ _
   | exact LeO.none _
   | refine LeO.ite ?_ ?_
   | refine LeO.bind ?_ (fun _ => ?_)
set_option maxHeartbeats 8000000 in
set_option maxRecDepth 100000 in
theorem rkSameInt.calls (k : Nat) (a0_0 : Bool) (A0_1 : Option Addr) (c0_1 : Nat) (l0_1 : List Int) (a1_0 : Bool) (A1_1 : Option Addr) (c1_1 : Nat) (l1_1 : List Int) (r : Bool) (w : World) (hr0_1 : Kd.C (Kd.int .u64) w A0_1 l0_1.length l0_1) (hc0_1 : l0_1.length ≤ c0_1) (hr1_1 : Kd.C (Kd.int .u64) w A1_1 l1_1.length l1_1) (hc1_1 : l1_1.length ≤ c1_1) (h : rkSameInt.f k a0_0 l0_1 a1_0 l1_1 = some r) :
  Calls Try.prog 19 #[.agg #[.bool a0_0, .slice A0_1 l0_1.length c0_1], .agg #[.bool a1_0, .slice A1_1 l1_1.length c1_1]] w fun e w' => e = .returned (.bool r) ∧ Below w.heap.size w w' := by
 have hu24 := Try.underlying24
 have HR0_1 := Zb.mk hr0_1
 have HC0_1 := Zb.mk hc0_1
 clear hr0_1 hc0_1
 have HR1_1 := Zb.mk hr1_1
 have HC1_1 := Zb.mk hc1_1
 clear hr1_1 hc1_1
 have HB := Zb.mk (Below.refl w.heap.size w)
 have H : (if (a0_0 == a1_0) = true then ((rkSameLimbs.f k l0_1 l1_1).bind fun t111 => (some t111)) else (some false)) = some r := h
 clear h
 by_cases c3 : (a0_0 == a1_0) = true
 ·rw [if_pos c3] at H
  have c3b0 : (a0_0 == a1_0) = true := c3
  (try (have c3b1 : decide (a0_0 = a1_0) = true := by simpa using c3))
  (try (have c3b2 : (a0_0 == a1_0) = true := by simpa using c3))
  clear c3
  replace H := Option.bind_eq_some_iff.mp H
  obtain ⟨t111, A40, H⟩ := H
  replace H : (some t111) = some r := H
  have A4 := Zb.mk A40
  clear A40
  obtain rfl := Option.some.inj H
  go_enter Try.func19, Try.ntmps19
  go_wp2_with (first | ((with_reducible refine Zt (N := 2) rfl ?_); refine Zs ?hg (N := 2) ?hd (cs := #[.bool a0_0, .slice A0_1 l0_1.length c0_1]) (t := 24) ?hr ?_; (case hd => rfl); (case hg => rfl); (case hr => first | (go_simp; done) | (go_simp; rfl)); intro gb109 hg w5 hbox hb; have n0_ := Zb.mk (Zl (by repeat (with_reducible first | exact HB.out | apply Zc | apply Za | apply Zd)) hb); have n1_ := Zb.mk (hbox); have n2_ := Zb.mk ((by rw [hg]; exact (Zi (by repeat (with_reducible first | exact HB.out | apply Zc | apply Za | apply Zd))) : w.heap.size ≤ gb109)); have n3_ := Zb.mk ((by rw [hg]; exact (Zi (by repeat (with_reducible first | exact HB.out | apply Zc | apply Za | apply Zd))) : w.heap.size ≤ gb109)); clear HB; have HB := n0_; have BK109 := n1_; have GW109 := n2_; have GE109 := n3_; clear n0_ n1_ n2_ n3_; clear hb hbox hg) | ((with_reducible refine Zt (N := 3) rfl ?_); refine Zs ?hg (N := 3) ?hd (cs := #[.bool a1_0, .slice A1_1 l1_1.length c1_1]) (t := 24) ?hr ?_; (case hd => rfl); (case hg => rfl); (case hr => first | (go_simp; done) | (go_simp; rfl)); intro gb110 hg w6 hbox hb; have n0_ := Zb.mk (Zn (g := gb109) (o := .cells #[.bool a0_0, .slice A0_1 l0_1.length c0_1] 24 (0, 0)) (by (with_reducible repeat first | refine Ze ?_ _ | refine Zg ?_ | refine Zf ?_ _); exact BK109.out) hb); have n1_ := Zb.mk (Zl (by repeat (with_reducible first | exact HB.out | apply Zc | apply Za | apply Zd | refine Zh ?_ GE109.out)) hb); have n2_ := Zb.mk (hbox); have n3_ := Zb.mk ((by rw [hg]; exact (Zi (by repeat (with_reducible first | exact HB.out | apply Zc | apply Za | apply Zd | refine Zh ?_ GE109.out))) : w.heap.size ≤ gb110)); have n4_ := Zb.mk ((by rw [hg]; exact (Zi (by repeat (with_reducible first | exact HB.out | apply Zc | apply Za | apply Zd | refine Zh ?_ GE109.out))) : w.heap.size ≤ gb110)); have n5_ := Zb.mk ((by rw [hg]; exact Nat.ne_of_lt (Zw (g := gb109) (o := .cells #[.bool a0_0, .slice A0_1 l0_1.length c0_1] 24 (0, 0)) (by (with_reducible repeat first | refine Ze ?_ _ | refine Zg ?_ | refine Zf ?_ _); exact BK109.out)) : gb109 ≠ gb110)); have n6_ := Zb.mk ((by rw [hg]; exact Nat.ne_of_gt (Zw (g := gb109) (o := .cells #[.bool a0_0, .slice A0_1 l0_1.length c0_1] 24 (0, 0)) (by (with_reducible repeat first | refine Ze ?_ _ | refine Zg ?_ | refine Zf ?_ _); exact BK109.out)) : gb110 ≠ gb109)); clear BK109; clear HB; have BK109 := n0_; have HB := n1_; have BK110 := n2_; have GW110 := n3_; have GE110 := n4_; have NB109_110 := n5_; have NB110_109 := n6_; clear n0_ n1_ n2_ n3_ n4_ n5_ n6_; clear hb hbox hg; have hnb7 := NB109_110.out; have hnc7 := NB110_109.out; have hcz8_0 : w6.cell? ⟨gb109, 0, none⟩ = some (.bool a0_0) := (Zk BK109.out 0).trans rfl; have hcz8_1 : w6.cell? ⟨gb109, 1, none⟩ = some (.slice A0_1 l0_1.length c0_1) := (Zk BK109.out 1).trans rfl; have hfz8_0 := Zj BK109.out 0; have hfz8_1 := Zj BK109.out 1; have hcz9_0 : w6.cell? ⟨gb110, 0, none⟩ = some (.bool a1_0) := (Zk BK110.out 0).trans rfl; have hcz9_1 : w6.cell? ⟨gb110, 1, none⟩ = some (.slice A1_1 l1_1.length c1_1) := (Zk BK110.out 1).trans rfl; have hfz9_0 := Zj BK110.out 0; have hfz9_1 := Zj BK110.out 1) | (go_at_call 52; (with_reducible refine (rkSameLimbs.calls k _ _ l0_1 _ _ l1_1 t111 _ ?side1 ?side2 ?side3 ?side4 A4.out).mono ?_); (case side1 => repeat (first | exact (Kd.C_below HR0_1.out HB.out) | (with_reducible refine Kd.ZC ?_ _) | (with_reducible refine Kd.ZF ?_ _) | (with_reducible refine Kd.ZN ?_))); (case side2 => exact HC0_1.out); (case side3 => repeat (first | exact (Kd.C_below HR1_1.out HB.out) | (with_reducible refine Kd.ZC ?_ _) | (with_reducible refine Kd.ZF ?_ _) | (with_reducible refine Kd.ZN ?_))); (case side4 => exact HC1_1.out); rintro e w' ⟨rfl, ⟨nd, rfl⟩⟩))
  go_ret
  exact ⟨by first | rfl | (simp [errW_none, errW_some] <;> rfl) | (simp [*, errW_none, errW_some] <;> rfl), by repeat (with_reducible first | exact HB.out | apply Zc | apply Za | apply Zd | refine Zh ?_ GE109.out | refine Zh ?_ GE110.out)⟩
 ·rw [if_neg c3] at H
  have c3b0 : (a0_0 == a1_0) = false := by simpa using c3
  (try (have c3b1 : decide (a0_0 = a1_0) = false := by simpa using c3))
  (try (have c3b2 : (a0_0 == a1_0) = false := by simpa using c3))
  (try (have c3b3 : ¬ (a0_0 = a1_0) := by simpa using c3))
  clear c3
  obtain rfl := Option.some.inj H
  go_enter Try.func19, Try.ntmps19
  go_wp2_with (first | ((with_reducible refine Zt (N := 2) rfl ?_); refine Zs ?hg (N := 2) ?hd (cs := #[.bool a0_0, .slice A0_1 l0_1.length c0_1]) (t := 24) ?hr ?_; (case hd => rfl); (case hg => rfl); (case hr => first | (go_simp; done) | (go_simp; rfl)); intro gb109 hg w10 hbox hb; have n0_ := Zb.mk (Zl (by repeat (with_reducible first | exact HB.out | apply Zc | apply Za | apply Zd)) hb); have n1_ := Zb.mk (hbox); have n2_ := Zb.mk ((by rw [hg]; exact (Zi (by repeat (with_reducible first | exact HB.out | apply Zc | apply Za | apply Zd))) : w.heap.size ≤ gb109)); have n3_ := Zb.mk ((by rw [hg]; exact (Zi (by repeat (with_reducible first | exact HB.out | apply Zc | apply Za | apply Zd))) : w.heap.size ≤ gb109)); clear HB; have HB := n0_; have BK109 := n1_; have GW109 := n2_; have GE109 := n3_; clear n0_ n1_ n2_ n3_; clear hb hbox hg) | ((with_reducible refine Zt (N := 3) rfl ?_); refine Zs ?hg (N := 3) ?hd (cs := #[.bool a1_0, .slice A1_1 l1_1.length c1_1]) (t := 24) ?hr ?_; (case hd => rfl); (case hg => rfl); (case hr => first | (go_simp; done) | (go_simp; rfl)); intro gb110 hg w11 hbox hb; have n0_ := Zb.mk (Zn (g := gb109) (o := .cells #[.bool a0_0, .slice A0_1 l0_1.length c0_1] 24 (0, 0)) (by (with_reducible repeat first | refine Ze ?_ _ | refine Zg ?_ | refine Zf ?_ _); exact BK109.out) hb); have n1_ := Zb.mk (Zl (by repeat (with_reducible first | exact HB.out | apply Zc | apply Za | apply Zd | refine Zh ?_ GE109.out)) hb); have n2_ := Zb.mk (hbox); have n3_ := Zb.mk ((by rw [hg]; exact (Zi (by repeat (with_reducible first | exact HB.out | apply Zc | apply Za | apply Zd | refine Zh ?_ GE109.out))) : w.heap.size ≤ gb110)); have n4_ := Zb.mk ((by rw [hg]; exact (Zi (by repeat (with_reducible first | exact HB.out | apply Zc | apply Za | apply Zd | refine Zh ?_ GE109.out))) : w.heap.size ≤ gb110)); have n5_ := Zb.mk ((by rw [hg]; exact Nat.ne_of_lt (Zw (g := gb109) (o := .cells #[.bool a0_0, .slice A0_1 l0_1.length c0_1] 24 (0, 0)) (by (with_reducible repeat first | refine Ze ?_ _ | refine Zg ?_ | refine Zf ?_ _); exact BK109.out)) : gb109 ≠ gb110)); have n6_ := Zb.mk ((by rw [hg]; exact Nat.ne_of_gt (Zw (g := gb109) (o := .cells #[.bool a0_0, .slice A0_1 l0_1.length c0_1] 24 (0, 0)) (by (with_reducible repeat first | refine Ze ?_ _ | refine Zg ?_ | refine Zf ?_ _); exact BK109.out)) : gb110 ≠ gb109)); clear BK109; clear HB; have BK109 := n0_; have HB := n1_; have BK110 := n2_; have GW110 := n3_; have GE110 := n4_; have NB109_110 := n5_; have NB110_109 := n6_; clear n0_ n1_ n2_ n3_ n4_ n5_ n6_; clear hb hbox hg; have hnb12 := NB109_110.out; have hnc12 := NB110_109.out; have hcz13_0 : w11.cell? ⟨gb109, 0, none⟩ = some (.bool a0_0) := (Zk BK109.out 0).trans rfl; have hcz13_1 : w11.cell? ⟨gb109, 1, none⟩ = some (.slice A0_1 l0_1.length c0_1) := (Zk BK109.out 1).trans rfl; have hfz13_0 := Zj BK109.out 0; have hfz13_1 := Zj BK109.out 1; have hcz14_0 : w11.cell? ⟨gb110, 0, none⟩ = some (.bool a1_0) := (Zk BK110.out 0).trans rfl; have hcz14_1 : w11.cell? ⟨gb110, 1, none⟩ = some (.slice A1_1 l1_1.length c1_1) := (Zk BK110.out 1).trans rfl; have hfz14_0 := Zj BK110.out 0; have hfz14_1 := Zj BK110.out 1))
  go_ret
  exact ⟨by first | rfl | (simp [errW_none, errW_some] <;> rfl) | (simp [*, errW_none, errW_some] <;> rfl), by repeat (with_reducible first | exact HB.out | apply Zc | apply Za | apply Zd | refine Zh ?_ GE109.out | refine Zh ?_ GE110.out)⟩
def r00NatTrim.l0 : Nat → List Int → Int → Option (List Int)
 | 0, _, _ => none
 | k + 1, x0, x3 => if x3 > 0 then (if 0 ≤ (wrap64 (x3 - 1)) then (if (wrap64 (x3 - 1)) < (x0.length : Int) then (if (rd x0 (wrap64 (x3 - 1))) = 0 then (r00NatTrim.l0 k x0 (wrap64 (x3 - 1))) else (if 0 ≤ x3 then (if x3 ≤ (x0.length : Int) then (if ([] : List Int).length + (x0.take (x3 : Int).toNat).length < 17592186044416 then (some (([] : List Int) ++ (x0.take (x3 : Int).toNat))) else (none)) else (none)) else (none))) else (none)) else (none)) else (if 0 ≤ x3 then (if x3 ≤ (x0.length : Int) then (if ([] : List Int).length + (x0.take (x3 : Int).toNat).length < 17592186044416 then (some (([] : List Int) ++ (x0.take (x3 : Int).toNat))) else (none)) else (none)) else (none))
def r00NatTrim.f (k : Nat) (l0 : List Int) : Option (List Int) := r00NatTrim.l0 k l0 (l0.length : Int)
theorem r00NatTrim.mono_l : ∀ k, (∀ y0 y1, LeO (r00NatTrim.l0 k y0 y1) (r00NatTrim.l0 (k + 1) y0 y1))
 | 0 => fun _ _ r h => by simp [r00NatTrim.l0] at h
 | k + 1 => by
  have ih0 := r00NatTrim.mono_l k
  ·intro y0 y1
   unfold r00NatTrim.l0
   repeat' first
   | (with_reducible exact ih0 _ _)
   | (with_reducible exact LeO.refl _)
   | (with_reducible exact LeO.none _)
   | (with_reducible refine LeO.ite ?_ ?_)
   | (with_reducible refine LeO.bind ?_ (fun _ => ?_))
   | exact ih0 _ _
   | exact LeO.none _
   | refine LeO.ite ?_ ?_
   | refine LeO.bind ?_ (fun _ => ?_)
theorem r00NatTrim.mono : ∀ a0 k, LeO (r00NatTrim.f k a0) (r00NatTrim.f (k + 1) a0) := by
 intro a0 k
 have ih0 := r00NatTrim.mono_l k
 unfold r00NatTrim.f
 repeat' first
   | (with_reducible exact ih0 _ _)
   | (with_reducible exact LeO.refl _)
   | (with_reducible exact LeO.none _)
   | (with_reducible refine LeO.ite ?_ ?_)
   | (with_reducible refine LeO.bind ?_ (fun _ => ?_))
   | exact ih0 _ _
   | exact LeO.none _
   | refine LeO.ite ?_ ?_
   | refine LeO.bind ?_ (fun _ => ?_)
set_option maxHeartbeats 8000000 in
set_option maxRecDepth 100000 in
theorem r00NatTrim.calls (k : Nat) (A0 : Option Addr) (c0 : Nat) (l0 : List Int) (r : List Int) (w : World) (hr0 : Kd.C (Kd.int .u64) w A0 l0.length l0) (hc0 : l0.length ≤ c0) (h : r00NatTrim.f k l0 = some r) :
  Calls Try.prog 53 #[.slice A0 l0.length c0] w fun e w' => ∃ v0_ : Value, e = .returned (v0_) ∧ Kd.R (Kd.int .u64) 46 w' w.heap.size (fun _ => True) v0_ r ∧ Below w.heap.size w w' := by
 have HR0 := Zb.mk hr0
 have HC0 := Zb.mk hc0
 clear hr0 hc0
 have HB := Zb.mk (Below.refl w.heap.size w)
 have H : (r00NatTrim.l0 k l0 (l0.length : Int)) = some r := h
 clear h
 have H' := Zb.mk H
 clear H
 go_enter Try.func53, Try.ntmps53
 go_wp2
 go_loopg [3] k (fun kq v3 w' => ∃ (x3_1 : Int), v3 = .int .i64 x3_1 ∧ Zb (r00NatTrim.l0 kq l0 x3_1 = some r) ∧ Zb (kq ≤ k) ∧ Zb (Below w.heap.size w w'))
 case atStart => exact ⟨((l0.length : Int)), (by first | rfl | (simp; done) | (simp [*]; done)), H', ⟨Nat.le_refl _⟩, ⟨by repeat (with_reducible first | exact HB.out | apply Zc | apply Za | apply Zd)⟩⟩
 case round =>
  clear H'
  obtain ⟨x3_1, rfl, HA, HK1, HB⟩ := hrel
  cases gk with
  | zero => exact absurd HA.out (by simp [r00NatTrim.l0])
  | succ k1 =>
   have H := HA.out
   clear HA
   simp only [r00NatTrim.l0] at H
   by_cases c2 : x3_1 > 0
   ·rw [if_pos c2] at H
    have c2b0 : decide (0 < x3_1) = true := decide_eq_true c2
    clear c2
    obtain ⟨ji3, hji3⟩ : ∃ j_ : Int, (wrap64 (x3_1 - 1)) = j_ := ⟨_, rfl⟩
    replace H : (if 0 ≤ (ji3) then (if (ji3) < (l0.length : Int) then (if (rd l0 (ji3)) = 0 then (r00NatTrim.l0 k1 l0 ji3) else (if 0 ≤ x3_1 then (if x3_1 ≤ (l0.length : Int) then (if ([] : List Int).length + (l0.take (x3_1 : Int).toNat).length < 17592186044416 then (some (([] : List Int) ++ (l0.take (x3_1 : Int).toNat))) else (none)) else (none)) else (none))) else (none)) else (none)) = some r := by first | (rw [hji3] at H; exact H) | (simp only [hji3] at H ⊢; exact H)
    have hji3w : (IntKind.i64.wrap (x3_1 - 1)) = ji3 := (Zx _).trans hji3
    by_cases c4 : 0 ≤ (ji3)
    ·rw [if_pos c4] at H
     have c4b0 : decide (0 ≤ (ji3)) = true := decide_eq_true c4
     clear c4
     by_cases c5 : (ji3) < (l0.length : Int)
     ·rw [if_pos c5] at H
      have c5b0 : decide ((ji3) < (l0.length : Int)) = true := decide_eq_true c5
      clear c5
      by_cases c6 : (rd l0 (ji3)) = 0
      ·rw [if_pos c6] at H
       have c6b0 : ((rd l0 (ji3)) == 0) = true := beq_iff_eq.mpr c6
       have c6b1 : ((rd l0 (ji3)) != 0) = false := bne_eq_false_iff_eq.mpr c6
       clear c6
       have H' := Zb.mk H
       clear H
       have p112 : 0 ≤ ((ji3) : Int) := of_decide_eq_true (by first | (with_reducible assumption) | assumption)
       have q112 : (ji3) < (l0.length : Int) := of_decide_eq_true (by first | (with_reducible assumption) | assumption)
       obtain ⟨ad112, e112, hx112_0⟩ := Kd.at_int HR0.out (ji3) p112 q112
       cases e112
       replace hx112_0 := (HB.out.cell (World.block_lt_of_cell? w _ hx112_0)).trans hx112_0
       replace p112 := eq_true p112
       replace q112 := eq_true q112
       go_wp2
       go_roundg k1
       case measure => have := HK1.out; omega
       case rel => exact ⟨(ji3), (by first | rfl | (simp; done) | (simp only [← hji3] <;> (first | rfl | simp)) | (simp [*]; done)), H', ⟨by have := HK1.out; omega⟩, ⟨by repeat (with_reducible first | exact HB.out | apply Zc | apply Za | apply Zd)⟩⟩
      ·rw [if_neg c6] at H
       have c6b0 : ((rd l0 (ji3)) == 0) = false := beq_eq_false_iff_ne.mpr c6
       have c6b1 : ((rd l0 (ji3)) != 0) = true := bne_iff_ne.mpr c6
       by_cases c7 : 0 ≤ x3_1
       ·rw [if_pos c7] at H
        have c7b0 := eq_true c7
        have c7b1 : decide (0 ≤ x3_1) = true := decide_eq_true c7
        clear c7
        by_cases c8 : x3_1 ≤ (l0.length : Int)
        ·rw [if_pos c8] at H
         have c8b0 := eq_true c8
         have c8b1 : decide (x3_1 ≤ (l0.length : Int)) = true := decide_eq_true c8
         clear c8
         by_cases c9 : ([] : List Int).length + (l0.take (x3_1 : Int).toNat).length < 17592186044416
         ·rw [if_pos c9] at H
          have LMc9 := Zb.mk c9
          clear c9
          obtain ⟨y114, hy114⟩ : ∃ y_ : List Int, y_ = (([] : List Int) ++ (l0.take (x3_1 : Int).toNat)) := ⟨_, rfl⟩
          replace H : (some y114) = some r := by first | (rw [hy114]; with_reducible exact H) | (have H2_ := (Option.bind_some _ _).symm.trans H; rw [hy114]; with_reducible exact H2_) | (have H2_ := (Option.bind_some _ _).symm.trans H; with_reducible exact H2_) | with_reducible exact H | (rw [hy114]; exact H) | exact H
          have Ny114 := Zb.mk hy114
          clear hy114
          obtain rfl := Option.some.inj H
          have p112 : 0 ≤ ((ji3) : Int) := of_decide_eq_true (by first | (with_reducible assumption) | assumption)
          have q112 : (ji3) < (l0.length : Int) := of_decide_eq_true (by first | (with_reducible assumption) | assumption)
          obtain ⟨ad112, e112, hx112_0⟩ := Kd.at_int HR0.out (ji3) p112 q112
          cases e112
          replace hx112_0 := (HB.out.cell (World.block_lt_of_cell? w _ hx112_0)).trans hx112_0
          replace p112 := eq_true p112
          replace q112 := eq_true q112
          obtain ⟨i010, hi010, _, hsz10, _⟩ := info_parts info46
          obtain ⟨hcut10, hA10, hC10⟩ := print_take_of (P := Try.prog) (Value.int .u64) 0 22 46 .i64 Try.underlying22 hi010 hsz10 (some ad112) c0 l0 x3_1 (of_decide_eq_true (by first | (with_reducible assumption) | assumption)) (of_decide_eq_true (by first | (with_reducible assumption) | assumption)) HC0.out
          have HR113 := Zb.mk (Kd.C_of_reads (h1 := fun _ => rfl) (hA10 _ (Kd.reads_of_C HR0.out)))
          have HC113 := Zb.mk hC10
          clear hA10 hC10 hi010 hsz10
          go_wp2_with (first | ((with_reducible refine gate_builtin (b := .append) (xs := #[.tmp 19, .tmp 22]) rfl ?_); at_builtin; refine Kd.R_append_rows (Kd.int .u64) (w0 := w) w.heap.size rfl (.tmp 19) (.tmp 22) 22 46 (.int .u64 0) 8 rfl Try.underlying22 info46 rfl (by decide) (by omega) (.slice none 0 0) ([] : List Int) (l0.take (x3_1 : Int).toNat) _ _ _ (fun _ => True) (fun _ => False) rfl rfl ?aO ?aR (fun _ _ h => h) (fun _ h => h.elim) ?aF ?aB ?aS ?aL ?_; (case aR => first | (have hz_ := (Kd.C_below HR113.out HB.out); rw [show (l0.take (x3_1 : Int).toNat).length = x3_1.toNat from (by rw [List.length_take]; have h_ : (x3_1 : Int) ≤ (l0.length : Int) := of_decide_eq_true (by first | (with_reducible assumption) | assumption); omega)] at hz_; exact hz_) | (rw [← show (l0.take (x3_1 : Int).toNat).length = x3_1.toNat from (by rw [List.length_take]; have h_ : (x3_1 : Int) ≤ (l0.length : Int) := of_decide_eq_true (by first | (with_reducible assumption) | assumption); omega)]; repeat (first | exact (Kd.C_below HR113.out HB.out) | (with_reducible refine Kd.ZC ?_ _) | (with_reducible refine Kd.ZF ?_ _) | (with_reducible refine Kd.ZN ?_))) | (repeat (first | exact (Kd.C_below HR113.out HB.out) | (with_reducible refine Kd.ZC ?_ _) | (with_reducible refine Kd.ZF ?_ _) | (with_reducible refine Kd.ZN ?_)))); (case aB => exact (by repeat (with_reducible first | exact HB.out | apply Zc | apply Za | apply Zd))); (case aF => exact (fun _ _ => trivial)); (case aO => exact ((Kd.R_nil _ _ _ _ (fun _ => True)))); (case aS => exact (Zi (by repeat (with_reducible first | exact HB.out | apply Zc | apply Za | apply Zd)))); (case aL => have := LMc9.out; have hlx_ := (show (l0.take (x3_1 : Int).toNat).length = x3_1.toNat from (by rw [List.length_take]; have h_ : (x3_1 : Int) ≤ (l0.length : Int) := of_decide_eq_true (by first | (with_reducible assumption) | assumption); omega)); omega); intro v115 w11 ho hb hg hat; rw [← Ny114.out] at ho; have n0_ := Zb.mk (hb); have n1_ := Zb.mk (ho); clear HB; have HB := n0_; have HO116 := n1_; clear n0_ n1_; clear ho hb hg hat))
          go_ret
          exact ⟨_, by first | rfl | (simp [errW_none, errW_some] <;> rfl) | (simp only [← hji3]; first | rfl | (simp [errW_none, errW_some] <;> rfl)) | (simp [*, errW_none, errW_some] <;> rfl), by (with_reducible repeat first | apply Kd.Zm | apply Kd.Zo); exact HO116.out, by repeat (with_reducible first | exact HB.out | apply Zc | apply Za | apply Zd)⟩
         ·rw [if_neg c9] at H
          exact absurd H (by simp)
        ·rw [if_neg c8] at H
         exact absurd H (by simp)
       ·rw [if_neg c7] at H
        exact absurd H (by simp)
     ·rw [if_neg c5] at H
      exact absurd H (by simp)
    ·rw [if_neg c4] at H
     exact absurd H (by simp)
   ·rw [if_neg c2] at H
    have c2b0 : decide (0 < x3_1) = false := decide_eq_false c2
    clear c2
    by_cases c12 : 0 ≤ x3_1
    ·rw [if_pos c12] at H
     have c12b0 := eq_true c12
     have c12b1 : decide (0 ≤ x3_1) = true := decide_eq_true c12
     clear c12
     by_cases c13 : x3_1 ≤ (l0.length : Int)
     ·rw [if_pos c13] at H
      have c13b0 := eq_true c13
      have c13b1 : decide (x3_1 ≤ (l0.length : Int)) = true := decide_eq_true c13
      clear c13
      by_cases c14 : ([] : List Int).length + (l0.take (x3_1 : Int).toNat).length < 17592186044416
      ·rw [if_pos c14] at H
       have LMc14 := Zb.mk c14
       clear c14
       obtain ⟨y118, hy118⟩ : ∃ y_ : List Int, y_ = (([] : List Int) ++ (l0.take (x3_1 : Int).toNat)) := ⟨_, rfl⟩
       replace H : (some y118) = some r := by first | (rw [hy118]; with_reducible exact H) | (have H2_ := (Option.bind_some _ _).symm.trans H; rw [hy118]; with_reducible exact H2_) | (have H2_ := (Option.bind_some _ _).symm.trans H; with_reducible exact H2_) | with_reducible exact H | (rw [hy118]; exact H) | exact H
       have Ny118 := Zb.mk hy118
       clear hy118
       obtain rfl := Option.some.inj H
       obtain ⟨i015, hi015, _, hsz15, _⟩ := info_parts info46
       obtain ⟨hcut15, hA15, hC15⟩ := print_take_of (P := Try.prog) (Value.int .u64) 0 22 46 .i64 Try.underlying22 hi015 hsz15 A0 c0 l0 x3_1 (of_decide_eq_true (by first | (with_reducible assumption) | assumption)) (of_decide_eq_true (by first | (with_reducible assumption) | assumption)) HC0.out
       have HR117 := Zb.mk (Kd.C_of_reads (h1 := fun _ => rfl) (hA15 _ (Kd.reads_of_C HR0.out)))
       have HC117 := Zb.mk hC15
       clear hA15 hC15 hi015 hsz15
       go_wp2_with (first | ((with_reducible refine gate_builtin (b := .append) (xs := #[.tmp 19, .tmp 22]) rfl ?_); at_builtin; refine Kd.R_append_rows (Kd.int .u64) (w0 := w) w.heap.size rfl (.tmp 19) (.tmp 22) 22 46 (.int .u64 0) 8 rfl Try.underlying22 info46 rfl (by decide) (by omega) (.slice none 0 0) ([] : List Int) (l0.take (x3_1 : Int).toNat) _ _ _ (fun _ => True) (fun _ => False) rfl rfl ?aO ?aR (fun _ _ h => h) (fun _ h => h.elim) ?aF ?aB ?aS ?aL ?_; (case aR => first | (have hz_ := (Kd.C_below HR117.out HB.out); rw [show (l0.take (x3_1 : Int).toNat).length = x3_1.toNat from (by rw [List.length_take]; have h_ : (x3_1 : Int) ≤ (l0.length : Int) := of_decide_eq_true (by first | (with_reducible assumption) | assumption); omega)] at hz_; exact hz_) | (rw [← show (l0.take (x3_1 : Int).toNat).length = x3_1.toNat from (by rw [List.length_take]; have h_ : (x3_1 : Int) ≤ (l0.length : Int) := of_decide_eq_true (by first | (with_reducible assumption) | assumption); omega)]; repeat (first | exact (Kd.C_below HR117.out HB.out) | (with_reducible refine Kd.ZC ?_ _) | (with_reducible refine Kd.ZF ?_ _) | (with_reducible refine Kd.ZN ?_))) | (repeat (first | exact (Kd.C_below HR117.out HB.out) | (with_reducible refine Kd.ZC ?_ _) | (with_reducible refine Kd.ZF ?_ _) | (with_reducible refine Kd.ZN ?_)))); (case aB => exact (by repeat (with_reducible first | exact HB.out | apply Zc | apply Za | apply Zd))); (case aF => exact (fun _ _ => trivial)); (case aO => exact ((Kd.R_nil _ _ _ _ (fun _ => True)))); (case aS => exact (Zi (by repeat (with_reducible first | exact HB.out | apply Zc | apply Za | apply Zd)))); (case aL => have := LMc14.out; have hlx_ := (show (l0.take (x3_1 : Int).toNat).length = x3_1.toNat from (by rw [List.length_take]; have h_ : (x3_1 : Int) ≤ (l0.length : Int) := of_decide_eq_true (by first | (with_reducible assumption) | assumption); omega)); omega); intro v119 w16 ho hb hg hat; rw [← Ny118.out] at ho; have n0_ := Zb.mk (hb); have n1_ := Zb.mk (ho); clear HB; have HB := n0_; have HO120 := n1_; clear n0_ n1_; clear ho hb hg hat))
       go_ret
       exact ⟨_, by first | rfl | (simp [errW_none, errW_some] <;> rfl) | (simp [*, errW_none, errW_some] <;> rfl), by (with_reducible repeat first | apply Kd.Zm | apply Kd.Zo); exact HO120.out, by repeat (with_reducible first | exact HB.out | apply Zc | apply Za | apply Zd)⟩
      ·rw [if_neg c14] at H
       exact absurd H (by simp)
     ·rw [if_neg c13] at H
      exact absurd H (by simp)
    ·rw [if_neg c12] at H
     exact absurd H (by simp)
def r00NatOf.f (k : Nat) (a0 : Int) : Option (List Int) := (r00NatTrim.f k (([a0] : List Int))).bind fun t124 => (some t124)
theorem r00NatOf.mono : ∀ a0 k, LeO (r00NatOf.f k a0) (r00NatOf.f (k + 1) a0) := by
 intro a0 k
 unfold r00NatOf.f
 repeat' first
   | (with_reducible exact r00NatTrim.mono _ _)
   | (with_reducible exact LeO.refl _)
   | (with_reducible exact LeO.none _)
   | (with_reducible refine LeO.ite ?_ ?_)
   | (with_reducible refine LeO.bind ?_ (fun _ => ?_))
   | exact r00NatTrim.mono _ _
   | exact LeO.none _
   | refine LeO.ite ?_ ?_
   | refine LeO.bind ?_ (fun _ => ?_)
set_option maxHeartbeats 8000000 in
set_option maxRecDepth 100000 in
theorem r00NatOf.calls (k : Nat) (a0 : Int) (r : List Int) (w : World) (h : r00NatOf.f k a0 = some r) :
  Calls Try.prog 23 #[.int .u64 a0] w fun e w' => ∃ v0_ : Value, e = .returned (v0_) ∧ Kd.R (Kd.int .u64) 46 w' w.heap.size (fun _ => True) v0_ r ∧ Below w.heap.size w w' := by
 have HB := Zb.mk (Below.refl w.heap.size w)
 have H : ((r00NatTrim.f k (([a0] : List Int))).bind fun t124 => (some t124)) = some r := h
 clear h
 obtain ⟨y121, hy121⟩ : ∃ y_ : List Int, y_ = (([a0] : List Int)) := ⟨_, rfl⟩
 replace H : ((r00NatTrim.f k y121).bind fun t124 => (some t124)) = some r := by first | (rw [hy121]; with_reducible exact H) | (have H2_ := (Option.bind_some _ _).symm.trans H; rw [hy121]; with_reducible exact H2_) | (have H2_ := (Option.bind_some _ _).symm.trans H; with_reducible exact H2_) | with_reducible exact H | (rw [hy121]; exact H) | exact H
 have Ny121 := Zb.mk hy121
 clear hy121
 replace H := Option.bind_eq_some_iff.mp H
 obtain ⟨t124, A20, H⟩ := H
 replace H : (some t124) = some r := H
 have A2 := Zb.mk A20
 clear A20
 obtain rfl := Option.some.inj H
 go_enter Try.func23, Try.ntmps23
 go_wp2_with (first | ((with_reducible refine Zt (N := 4) rfl ?_); refine Kd.R_lit (Kd.int .u64) _ 46 ?hg (N := 4) ?hd (xs := ([a0] : List Int)) (inner := [.int .u64 a0]) (ok := fun _ => True) (okp := fun _ => True) ?hr ?hp (fun _ hk => hk) trivial (Below.refl _ _) (Nat.le_refl _) (by simp) ?_; (case hd => rfl); (case hg => rfl); (case hr => first | (go_simp; done) | (go_simp; rfl)); (case hp => exact (Reps.one (show Kd.M (Kd.int .u64) _ _ _ a0 [.int .u64 a0] from rfl) (Reps.none _ _))); intro v122 w3 ho4 hb hg_ hnew_; clear hg_ hnew_; (first | rw [← Ny121.out] at ho4 | (simp only [Int.reduceToNat] at ho4; rw [← Ny121.out] at ho4)); have n0_ := Zb.mk (Kd.ZG ho4 (Zi (by repeat (with_reducible first | exact HB.out | apply Zc | apply Za | apply Zd)))); have n1_ := Zb.mk (Zl (by repeat (with_reducible first | exact HB.out | apply Zc | apply Za | apply Zd)) hb); clear HB; have HO123 := n0_; have HB := n1_; clear n0_ n1_; clear hb ho4; obtain ⟨Ao5, co5, eo5⟩ := Kd.Zy HO123.out; subst eo5) | ((with_reducible refine Zp (f := 53) rfl ?_); refine ZB (some 5) rfl rfl Try.func53 (by kernel_rfl) rfl #[.slice Ao5 y121.length co5] rfl (by (try simp only [List.map_toArray, List.map_cons, List.map_nil]); first | done | rfl | (simp only [List.length_drop, List.length_take]; rfl)) ?_; (with_reducible refine (r00NatTrim.calls k _ _ y121 t124 _ ?side1 ?side2 A2.out).mono ?_); (case side1 => repeat (first | exact (Kd.Zv HO123.out).2.2 | (with_reducible refine Kd.ZC ?_ _) | (with_reducible refine Kd.ZF ?_ _) | (with_reducible refine Kd.ZN ?_))); (case side2 => exact (Kd.Zv HO123.out).2.1); rintro e w6 ⟨v125, rfl, ho0, hb⟩; refine ⟨_, rfl, ?_⟩; have n0_ := Zb.mk (Kd.ZJ (by (with_reducible repeat first | apply Kd.Zm | apply Kd.Zo); exact HO123.out) (Kd.ZV ho0) hb); have n1_ := Zb.mk (Kd.ZG (Kd.R_new' ho0 (Kd.R_lt (by (with_reducible repeat first | apply Kd.Zm | apply Kd.Zo); exact HO123.out))) (Zi (by repeat (with_reducible first | exact HB.out | apply Zc | apply Za | apply Zd)))); have n2_ := Zb.mk (Zl (by repeat (with_reducible first | exact HB.out | apply Zc | apply Za | apply Zd)) hb); clear HO123; clear HB; have HO123 := n0_; have HO126 := n1_; have HB := n2_; clear n0_ n1_ n2_; (try clear hb); (try clear hb2); (try clear hk); (try clear hi); (try clear ho0)))
 go_ret
 exact ⟨_, by first | rfl | (simp [errW_none, errW_some] <;> rfl) | (simp [*, errW_none, errW_some] <;> rfl), by (with_reducible repeat first | apply Kd.Zm | apply Kd.Zo); exact Kd.ZE HO126.out (fun _ hk => trivial), by repeat (with_reducible first | exact HB.out | apply Zc | apply Za | apply Zd)⟩
def r00Whole.f (k : Nat) (a0 : Int) : Option (Bool × List Int × Int) := if a0 < 0 then ((r00NatOf.f k (IntKind.u64.wrap (-(IntKind.u64.wrap (a0))))).bind fun t128 => (some (true, t128, 0))) else ((r00NatOf.f k (IntKind.u64.wrap (a0))).bind fun t131 => (some (false, t131, 0)))
theorem r00Whole.mono : ∀ a0 k, LeO (r00Whole.f k a0) (r00Whole.f (k + 1) a0) := by
 intro a0 k
 unfold r00Whole.f
 repeat' first
   | (with_reducible exact r00NatOf.mono _ _)
   | (with_reducible exact LeO.refl _)
   | (with_reducible exact LeO.none _)
   | (with_reducible refine LeO.ite ?_ ?_)
   | (with_reducible refine LeO.bind ?_ (fun _ => ?_))
   | exact r00NatOf.mono _ _
   | exact LeO.none _
   | refine LeO.ite ?_ ?_
   | refine LeO.bind ?_ (fun _ => ?_)
set_option maxHeartbeats 8000000 in
set_option maxRecDepth 100000 in
theorem r00Whole.calls (k : Nat) (a0 : Int) (r1 : Bool) (r2 : List Int) (r3 : Int) (w : World) (h : r00Whole.f k a0 = some (r1, r2, r3)) :
  Calls Try.prog 27 #[.int .i64 a0] w fun e w' => ∃ v1_ : Value, e = .returned (.agg #[.bool r1, v1_, .int .i64 r3]) ∧ Kd.R (Kd.int .u64) 46 w' w.heap.size (fun _ => True) v1_ r2 ∧ Below w.heap.size w w' := by
 have hu48 := Try.underlying48
 have HB := Zb.mk (Below.refl w.heap.size w)
 have H : (if a0 < 0 then ((r00NatOf.f k (IntKind.u64.wrap (-(IntKind.u64.wrap (a0))))).bind fun t128 => (some (true, t128, 0))) else ((r00NatOf.f k (IntKind.u64.wrap (a0))).bind fun t131 => (some (false, t131, 0)))) = some (r1, r2, r3) := h
 clear h
 by_cases c2 : a0 < 0
 ·rw [if_pos c2] at H
  have c2b0 : decide (a0 < 0) = true := decide_eq_true c2
  clear c2
  replace H := Option.bind_eq_some_iff.mp H
  obtain ⟨t128, A30, H⟩ := H
  replace H : (some (true, t128, 0)) = some (r1, r2, r3) := H
  have A3 := Zb.mk A30
  clear A30
  simp only [Option.some.injEq, Prod.mk.injEq] at H
  obtain ⟨rfl, rfl, rfl⟩ := H
  go_enter Try.func27, Try.ntmps27
  go_wp2_with (first | ((with_reducible refine Zt (N := 2) rfl ?_); refine Zs ?hg (N := 2) ?hd (cs := #[.bool false, .slice none 0 0, .int .i64 0]) (t := 48) ?hr ?_; (case hd => rfl); (case hg => rfl); (case hr => first | (go_simp; done) | (go_simp; rfl)); intro gb127 hg w4 hbox hb; have n0_ := Zb.mk (Zl (by repeat (with_reducible first | exact HB.out | apply Zc | apply Za | apply Zd)) hb); have n1_ := Zb.mk (hbox); have n2_ := Zb.mk ((by rw [hg]; exact (Zi (by repeat (with_reducible first | exact HB.out | apply Zc | apply Za | apply Zd))) : w.heap.size ≤ gb127)); have n3_ := Zb.mk ((by rw [hg]; exact (Zi (by repeat (with_reducible first | exact HB.out | apply Zc | apply Za | apply Zd))) : w.heap.size ≤ gb127)); clear HB; have HB := n0_; have BK127 := n1_; have GW127 := n2_; have GE127 := n3_; clear n0_ n1_ n2_ n3_; clear hb hbox hg) | ((with_reducible refine Zp (f := 23) rfl ?_); refine ZB (some 13) rfl rfl Try.func23 (by kernel_rfl) rfl #[.int .u64 (IntKind.u64.wrap (-(IntKind.u64.wrap (a0))))] rfl (by (try simp only [List.map_toArray, List.map_cons, List.map_nil]); first | done | rfl | (simp only [List.length_drop, List.length_take]; rfl)) ?_; (with_reducible refine (r00NatOf.calls k (IntKind.u64.wrap (-(IntKind.u64.wrap (a0)))) t128 _ A3.out).mono ?_); rintro e w5 ⟨v129, rfl, ho0, hb⟩; refine ⟨_, rfl, ?_⟩; have n0_ := Zb.mk (Kd.ZG ho0 (Zi (by repeat (with_reducible first | exact HB.out | apply Zc | apply Za | apply Zd | refine Zh ?_ GE127.out)))); have n1_ := Zb.mk (Zn (g := gb127) (o := .cells #[.bool false, .slice none 0 0, .int .i64 0] 48 (0, 0)) (by (with_reducible repeat first | refine Ze ?_ _ | refine Zg ?_ | refine Zf ?_ _); exact BK127.out) hb); have n2_ := Zb.mk (Zl (by repeat (with_reducible first | exact HB.out | apply Zc | apply Za | apply Zd | refine Zh ?_ GE127.out)) hb); clear BK127; clear HB; have HO130 := n0_; have BK127 := n1_; have HB := n2_; clear n0_ n1_ n2_; (try clear hb); (try clear hb2); (try clear hk); (try clear hi); (try clear ho0); obtain ⟨Ao6, co6, eo6⟩ := Kd.Zy HO130.out; subst eo6; have hcz7_0 : w5.cell? ⟨gb127, 0, none⟩ = some (.bool false) := (Zk BK127.out 0).trans rfl; have hcz7_1 : w5.cell? ⟨gb127, 1, none⟩ = some (.slice none 0 0) := (Zk BK127.out 1).trans rfl; have hcz7_2 : w5.cell? ⟨gb127, 2, none⟩ = some (.int .i64 0) := (Zk BK127.out 2).trans rfl; have hfz7_0 := Zj BK127.out 0; have hfz7_1 := Zj BK127.out 1; have hfz7_2 := Zj BK127.out 2))
  refine bodyPost_ret (results_cell_row rfl _ _ gb127 48 #[.bool true, .slice Ao6 t128.length co6, .int .i64 0] (0, 0) _ rfl (by (with_reducible repeat first | refine Ze ?_ _ | refine Zg ?_ | refine Zf ?_ _); refine Zu (cs := #[.bool true, .slice Ao6 t128.length co6, .int .i64 0]) ?_ 2 _ rfl; (with_reducible repeat first | refine Ze ?_ _ | refine Zg ?_ | refine Zf ?_ _); refine Zu (cs := #[.bool true, .slice none 0 0, .int .i64 0]) ?_ 1 _ rfl; (with_reducible repeat first | refine Ze ?_ _ | refine Zg ?_ | refine Zf ?_ _); refine Zu (cs := #[.bool false, .slice none 0 0, .int .i64 0]) ?_ 0 _ rfl; (with_reducible repeat first | refine Ze ?_ _ | refine Zg ?_ | refine Zf ?_ _); exact BK127.out) Try.underlying48 rfl (by kernel_rfl)) rfl ?_
  exact ⟨_, by first | rfl | (simp [errW_none, errW_some] <;> rfl) | (simp [*, errW_none, errW_some] <;> rfl), by (with_reducible repeat first | apply Kd.Zm | apply Kd.Zo); exact Kd.ZE (Kd.ZH (p := ⟨gb127, 2, none⟩) (Kd.ZH (p := ⟨gb127, 1, none⟩) (Kd.ZH (p := ⟨gb127, 0, none⟩) (Kd.ZI HO130.out BK127.out (by decide)) (fun _ hk => hk.2) (.bool true)) (fun _ hk => hk.2) (.slice Ao6 t128.length co6)) (fun _ hk => hk.2) (.int .i64 0)) (fun _ hk => trivial), by repeat (with_reducible first | exact HB.out | apply Zc | apply Za | apply Zd | refine Zh ?_ GE127.out)⟩
 ·rw [if_neg c2] at H
  have c2b0 : decide (a0 < 0) = false := decide_eq_false c2
  clear c2
  replace H := Option.bind_eq_some_iff.mp H
  obtain ⟨t131, A80, H⟩ := H
  replace H : (some (false, t131, 0)) = some (r1, r2, r3) := H
  have A8 := Zb.mk A80
  clear A80
  simp only [Option.some.injEq, Prod.mk.injEq] at H
  obtain ⟨rfl, rfl, rfl⟩ := H
  go_enter Try.func27, Try.ntmps27
  go_wp2_with (first | ((with_reducible refine Zt (N := 2) rfl ?_); refine Zs ?hg (N := 2) ?hd (cs := #[.bool false, .slice none 0 0, .int .i64 0]) (t := 48) ?hr ?_; (case hd => rfl); (case hg => rfl); (case hr => first | (go_simp; done) | (go_simp; rfl)); intro gb127 hg w9 hbox hb; have n0_ := Zb.mk (Zl (by repeat (with_reducible first | exact HB.out | apply Zc | apply Za | apply Zd)) hb); have n1_ := Zb.mk (hbox); have n2_ := Zb.mk ((by rw [hg]; exact (Zi (by repeat (with_reducible first | exact HB.out | apply Zc | apply Za | apply Zd))) : w.heap.size ≤ gb127)); have n3_ := Zb.mk ((by rw [hg]; exact (Zi (by repeat (with_reducible first | exact HB.out | apply Zc | apply Za | apply Zd))) : w.heap.size ≤ gb127)); clear HB; have HB := n0_; have BK127 := n1_; have GW127 := n2_; have GE127 := n3_; clear n0_ n1_ n2_ n3_; clear hb hbox hg) | ((with_reducible refine Zp (f := 23) rfl ?_); refine ZB (some 13) rfl rfl Try.func23 (by kernel_rfl) rfl #[.int .u64 (IntKind.u64.wrap (a0))] rfl (by (try simp only [List.map_toArray, List.map_cons, List.map_nil]); first | done | rfl | (simp only [List.length_drop, List.length_take]; rfl)) ?_; (with_reducible refine (r00NatOf.calls k (IntKind.u64.wrap (a0)) t131 _ A8.out).mono ?_); rintro e w10 ⟨v132, rfl, ho0, hb⟩; refine ⟨_, rfl, ?_⟩; have n0_ := Zb.mk (Kd.ZG ho0 (Zi (by repeat (with_reducible first | exact HB.out | apply Zc | apply Za | apply Zd | refine Zh ?_ GE127.out)))); have n1_ := Zb.mk (Zn (g := gb127) (o := .cells #[.bool false, .slice none 0 0, .int .i64 0] 48 (0, 0)) (by (with_reducible repeat first | refine Ze ?_ _ | refine Zg ?_ | refine Zf ?_ _); exact BK127.out) hb); have n2_ := Zb.mk (Zl (by repeat (with_reducible first | exact HB.out | apply Zc | apply Za | apply Zd | refine Zh ?_ GE127.out)) hb); clear BK127; clear HB; have HO133 := n0_; have BK127 := n1_; have HB := n2_; clear n0_ n1_ n2_; (try clear hb); (try clear hb2); (try clear hk); (try clear hi); (try clear ho0); obtain ⟨Ao11, co11, eo11⟩ := Kd.Zy HO133.out; subst eo11; have hcz12_0 : w10.cell? ⟨gb127, 0, none⟩ = some (.bool false) := (Zk BK127.out 0).trans rfl; have hcz12_1 : w10.cell? ⟨gb127, 1, none⟩ = some (.slice none 0 0) := (Zk BK127.out 1).trans rfl; have hcz12_2 : w10.cell? ⟨gb127, 2, none⟩ = some (.int .i64 0) := (Zk BK127.out 2).trans rfl; have hfz12_0 := Zj BK127.out 0; have hfz12_1 := Zj BK127.out 1; have hfz12_2 := Zj BK127.out 2))
  refine bodyPost_ret (results_cell_row rfl _ _ gb127 48 #[.bool false, .slice Ao11 t131.length co11, .int .i64 0] (0, 0) _ rfl (by (with_reducible repeat first | refine Ze ?_ _ | refine Zg ?_ | refine Zf ?_ _); refine Zu (cs := #[.bool false, .slice Ao11 t131.length co11, .int .i64 0]) ?_ 2 _ rfl; (with_reducible repeat first | refine Ze ?_ _ | refine Zg ?_ | refine Zf ?_ _); refine Zu (cs := #[.bool false, .slice none 0 0, .int .i64 0]) ?_ 1 _ rfl; (with_reducible repeat first | refine Ze ?_ _ | refine Zg ?_ | refine Zf ?_ _); refine Zu (cs := #[.bool false, .slice none 0 0, .int .i64 0]) ?_ 0 _ rfl; (with_reducible repeat first | refine Ze ?_ _ | refine Zg ?_ | refine Zf ?_ _); exact BK127.out) Try.underlying48 rfl (by kernel_rfl)) rfl ?_
  exact ⟨_, by first | rfl | (simp [errW_none, errW_some] <;> rfl) | (simp [*, errW_none, errW_some] <;> rfl), by (with_reducible repeat first | apply Kd.Zm | apply Kd.Zo); exact Kd.ZE (Kd.ZH (p := ⟨gb127, 2, none⟩) (Kd.ZH (p := ⟨gb127, 1, none⟩) (Kd.ZH (p := ⟨gb127, 0, none⟩) (Kd.ZI HO133.out BK127.out (by decide)) (fun _ hk => hk.2) (.bool false)) (fun _ hk => hk.2) (.slice Ao11 t131.length co11)) (fun _ hk => hk.2) (.int .i64 0)) (fun _ hk => trivial), by repeat (with_reducible first | exact HB.out | apply Zc | apply Za | apply Zd | refine Zh ?_ GE127.out)⟩
def r00NatBits.l0 : Nat → Int → Int → Option (Int)
 | 0, _, _ => none
 | k + 1, x4, x5 => if x5 > 0 then (r00NatBits.l0 k (wrap64 (x4 + 1)) (IntKind.u64.wrap (Int.tdiv x5 2))) else (some x4)
def r00NatBits.f (k : Nat) (l0 : List Int) : Option (Int) := (r00NatTrim.f k l0).bind fun t134 => (if (t134.length : Int) = 0 then (some 0) else (if 0 ≤ (wrap64 ((t134.length : Int) - 1)) then (if (wrap64 ((t134.length : Int) - 1)) < (t134.length : Int) then (r00NatBits.l0 k (wrap64 (64 * (wrap64 ((t134.length : Int) - 1)))) (rd t134 (wrap64 ((t134.length : Int) - 1)))) else (none)) else (none)))
theorem r00NatBits.mono_l : ∀ k, (∀ y0 y1, LeO (r00NatBits.l0 k y0 y1) (r00NatBits.l0 (k + 1) y0 y1))
 | 0 => fun _ _ r h => by simp [r00NatBits.l0] at h
 | k + 1 => by
  have ih0 := r00NatBits.mono_l k
  ·intro y0 y1
   unfold r00NatBits.l0
   repeat' first
   | (with_reducible exact ih0 _ _)
   | (with_reducible exact r00NatTrim.mono _ _)
   | (with_reducible exact LeO.refl _)
   | (with_reducible exact LeO.none _)
   | (with_reducible refine LeO.ite ?_ ?_)
   | (with_reducible refine LeO.bind ?_ (fun _ => ?_))
   | exact ih0 _ _
   | exact r00NatTrim.mono _ _
   | exact LeO.none _
   | refine LeO.ite ?_ ?_
   | refine LeO.bind ?_ (fun _ => ?_)
theorem r00NatBits.mono : ∀ a0 k, LeO (r00NatBits.f k a0) (r00NatBits.f (k + 1) a0) := by
 intro a0 k
 have ih0 := r00NatBits.mono_l k
 unfold r00NatBits.f
 repeat' first
   | (with_reducible exact ih0 _ _)
   | (with_reducible exact r00NatTrim.mono _ _)
   | (with_reducible exact LeO.refl _)
   | (with_reducible exact LeO.none _)
   | (with_reducible refine LeO.ite ?_ ?_)
   | (with_reducible refine LeO.bind ?_ (fun _ => ?_))
   | exact ih0 _ _
   | exact r00NatTrim.mono _ _
   | exact LeO.none _
   | refine LeO.ite ?_ ?_
   | refine LeO.bind ?_ (fun _ => ?_)
set_option maxHeartbeats 8000000 in
set_option maxRecDepth 100000 in
theorem r00NatBits.calls (k : Nat) (A0 : Option Addr) (c0 : Nat) (l0 : List Int) (r : Int) (w : World) (hr0 : Kd.C (Kd.int .u64) w A0 l0.length l0) (hc0 : l0.length ≤ c0) (h : r00NatBits.f k l0 = some r) :
  Calls Try.prog 80 #[.slice A0 l0.length c0] w fun e w' => e = .returned (.int .i64 r) ∧ Below w.heap.size w w' := by
 have HR0 := Zb.mk hr0
 have HC0 := Zb.mk hc0
 clear hr0 hc0
 have HB := Zb.mk (Below.refl w.heap.size w)
 have H : ((r00NatTrim.f k l0).bind fun t134 => (if (t134.length : Int) = 0 then (some 0) else (if 0 ≤ (wrap64 ((t134.length : Int) - 1)) then (if (wrap64 ((t134.length : Int) - 1)) < (t134.length : Int) then (r00NatBits.l0 k (wrap64 (64 * (wrap64 ((t134.length : Int) - 1)))) (rd t134 (wrap64 ((t134.length : Int) - 1)))) else (none)) else (none)))) = some r := h
 clear h
 replace H := Option.bind_eq_some_iff.mp H
 obtain ⟨t134, A20, H⟩ := H
 replace H : (if (t134.length : Int) = 0 then (some 0) else (if 0 ≤ (wrap64 ((t134.length : Int) - 1)) then (if (wrap64 ((t134.length : Int) - 1)) < (t134.length : Int) then (r00NatBits.l0 k (wrap64 (64 * (wrap64 ((t134.length : Int) - 1)))) (rd t134 (wrap64 ((t134.length : Int) - 1)))) else (none)) else (none))) = some r := H
 have A2 := Zb.mk A20
 clear A20
 by_cases c3 : (t134.length : Int) = 0
 ·rw [if_pos c3] at H
  have c3b0 : ((t134.length : Int) == 0) = true := beq_iff_eq.mpr c3
  have c3b1 : ((t134.length : Int) != 0) = false := bne_eq_false_iff_eq.mpr c3
  clear c3
  obtain rfl := Option.some.inj H
  go_enter Try.func80, Try.ntmps80
  go_wp2_with (first | ((with_reducible refine Zp (f := 53) rfl ?_); refine ZB (some 7) rfl rfl Try.func53 (by kernel_rfl) rfl #[.slice A0 l0.length c0] rfl (by (try simp only [List.map_toArray, List.map_cons, List.map_nil]); first | done | rfl | (simp only [List.length_drop, List.length_take]; rfl)) ?_; (with_reducible refine (r00NatTrim.calls k _ _ l0 t134 _ ?side1 ?side2 A2.out).mono ?_); (case side1 => repeat (first | exact HR0.out | (with_reducible refine Kd.ZC ?_ _) | (with_reducible refine Kd.ZF ?_ _) | (with_reducible refine Kd.ZN ?_))); (case side2 => exact HC0.out); rintro e w4 ⟨v135, rfl, ho0, hb⟩; refine ⟨_, rfl, ?_⟩; have n0_ := Zb.mk (Kd.ZG ho0 (Zi (by repeat (with_reducible first | exact HB.out | apply Zc | apply Za | apply Zd)))); have n1_ := Zb.mk (Zl (by repeat (with_reducible first | exact HB.out | apply Zc | apply Za | apply Zd)) hb); clear HB; have HO136 := n0_; have HB := n1_; clear n0_ n1_; (try clear hb); (try clear hb2); (try clear hk); (try clear hi); (try clear ho0); obtain ⟨Ao5, co5, eo5⟩ := Kd.Zy HO136.out; subst eo5))
  go_ret
  exact ⟨by first | rfl | (simp [errW_none, errW_some] <;> rfl) | (simp [*, errW_none, errW_some] <;> rfl), by repeat (with_reducible first | exact HB.out | apply Zc | apply Za | apply Zd)⟩
 ·rw [if_neg c3] at H
  have c3b0 : ((t134.length : Int) == 0) = false := beq_eq_false_iff_ne.mpr c3
  have c3b1 : ((t134.length : Int) != 0) = true := bne_iff_ne.mpr c3
  have c3b2 : ¬ (t134 = []) := fun h_ => c3 (by rw [h_]; rfl)
  obtain ⟨ji6, hji6⟩ : ∃ j_ : Int, (wrap64 ((t134.length : Int) - 1)) = j_ := ⟨_, rfl⟩
  replace H : (if 0 ≤ (ji6) then (if (ji6) < (t134.length : Int) then (r00NatBits.l0 k (wrap64 (64 * (ji6))) (rd t134 (ji6))) else (none)) else (none)) = some r := by first | (rw [hji6] at H; exact H) | (simp only [hji6] at H ⊢; exact H)
  (try rw [hji6] at A2)
  have hji6w : (IntKind.i64.wrap ((t134.length : Int) - 1)) = ji6 := (Zx _).trans hji6
  by_cases c7 : 0 ≤ (ji6)
  ·rw [if_pos c7] at H
   have c7b0 : decide (0 ≤ (ji6)) = true := decide_eq_true c7
   clear c7
   by_cases c8 : (ji6) < (t134.length : Int)
   ·rw [if_pos c8] at H
    have c8b0 : decide ((ji6) < (t134.length : Int)) = true := decide_eq_true c8
    clear c8
    have H' := Zb.mk H
    clear H
    go_enter Try.func80, Try.ntmps80
    go_wp2_with (first | ((with_reducible refine Zp (f := 53) rfl ?_); refine ZB (some 7) rfl rfl Try.func53 (by kernel_rfl) rfl #[.slice A0 l0.length c0] rfl (by (try simp only [List.map_toArray, List.map_cons, List.map_nil]); first | done | rfl | (simp only [List.length_drop, List.length_take]; rfl)) ?_; (with_reducible refine (r00NatTrim.calls k _ _ l0 t134 _ ?side1 ?side2 A2.out).mono ?_); (case side1 => repeat (first | exact HR0.out | (with_reducible refine Kd.ZC ?_ _) | (with_reducible refine Kd.ZF ?_ _) | (with_reducible refine Kd.ZN ?_))); (case side2 => exact HC0.out); rintro e w9 ⟨v135, rfl, ho0, hb⟩; refine ⟨_, rfl, ?_⟩; have n0_ := Zb.mk (Kd.ZG ho0 (Zi (by repeat (with_reducible first | exact HB.out | apply Zc | apply Za | apply Zd)))); have n1_ := Zb.mk (Zl (by repeat (with_reducible first | exact HB.out | apply Zc | apply Za | apply Zd)) hb); clear HB; have HO136 := n0_; have HB := n1_; clear n0_ n1_; (try clear hb); (try clear hb2); (try clear hk); (try clear hi); (try clear ho0); obtain ⟨Ao10, co10, eo10⟩ := Kd.Zy HO136.out; subst eo10; have p137 : 0 ≤ ((ji6) : Int) := of_decide_eq_true (by first | (with_reducible assumption) | assumption); have q137 : (ji6) < (t134.length : Int) := of_decide_eq_true (by first | (with_reducible assumption) | assumption); obtain ⟨ad137, e137, hx137_0⟩ := Kd.at_int (Kd.Zv HO136.out).2.2 (ji6) p137 q137; cases e137; replace p137 := eq_true p137; replace q137 := eq_true q137))
    go_loopg [4, 5] k (fun kq v4 v5 w' => ∃ (x4_1 : Int) (x5_1 : Int), v4 = .int .i64 x4_1 ∧ v5 = .int .u64 x5_1 ∧ Zb (r00NatBits.l0 kq x4_1 x5_1 = some r) ∧ Zb (kq ≤ k) ∧ Zb (Below w.heap.size w w'))
    case atStart => exact ⟨(wrap64 (64 * (ji6))), (rd t134 (ji6)), (by first | rfl | (simp; done) | (simp only [← hji6] <;> (first | rfl | simp)) | (simp [*]; done)), (by first | rfl | (simp; done) | (simp only [← hji6] <;> (first | rfl | simp)) | (simp [*]; done)), H', ⟨Nat.le_refl _⟩, ⟨by repeat (with_reducible first | exact HB.out | apply Zc | apply Za | apply Zd)⟩⟩
    case round =>
     clear H'
     try clear p1
     try clear q1
     try clear hx1
     try clear p2
     try clear c3
     try clear c3b0
     try clear c3b1
     try clear c3b2
     try clear c5
     try clear p6
     try clear c7
     try clear c7b0
     try clear c8
     try clear c8b0
     try clear hx137_0
     try clear p137
     try clear q137
     obtain ⟨x4_1, x5_1, rfl, rfl, HA, HK1, HB⟩ := hrel
     cases gk with
     | zero => exact absurd HA.out (by simp [r00NatBits.l0])
     | succ k1 =>
      have H := HA.out
      clear HA
      simp only [r00NatBits.l0] at H
      by_cases c11 : x5_1 > 0
      ·rw [if_pos c11] at H
       have c11b0 : decide (0 < x5_1) = true := decide_eq_true c11
       clear c11
       have H' := Zb.mk H
       clear H
       go_wp2
       go_roundg k1
       case measure => have := HK1.out; omega
       case rel => exact ⟨(wrap64 (x4_1 + 1)), (IntKind.u64.wrap (Int.tdiv x5_1 2)), (by first | rfl | (simp; done) | (simp [*]; done)), (by first | rfl | (simp; done) | (simp [*]; done)), H', ⟨by have := HK1.out; omega⟩, ⟨by repeat (with_reducible first | exact HB.out | apply Zc | apply Za | apply Zd)⟩⟩
      ·rw [if_neg c11] at H
       have c11b0 : decide (0 < x5_1) = false := decide_eq_false c11
       clear c11
       obtain rfl := Option.some.inj H
       go_wp2
       go_ret
       exact ⟨by first | rfl | (simp [errW_none, errW_some] <;> rfl) | (simp only [← hji6]; first | rfl | (simp [errW_none, errW_some] <;> rfl)) | (simp [*, errW_none, errW_some] <;> rfl), by repeat (with_reducible first | exact HB.out | apply Zc | apply Za | apply Zd)⟩
   ·rw [if_neg c8] at H
    exact absurd H (by simp)
  ·rw [if_neg c7] at H
   exact absurd H (by simp)
def r00Num_Zero.f (k : Nat) (a0_0 : Bool) (l0_1 : List Int) (a0_2 : Int) : Option (Bool) := (r00NatBits.f k l0_1).bind fun t139 => (some (t139 == 0))
theorem r00Num_Zero.mono : ∀ a0 a1 a2 k, LeO (r00Num_Zero.f k a0 a1 a2) (r00Num_Zero.f (k + 1) a0 a1 a2) := by
 intro a0 a1 a2 k
 unfold r00Num_Zero.f
 repeat' first
   | (with_reducible exact r00NatBits.mono _ _)
   | (with_reducible exact LeO.refl _)
   | (with_reducible exact LeO.none _)
   | (with_reducible refine LeO.ite ?_ ?_)
   | (with_reducible refine LeO.bind ?_ (fun _ => ?_))
   | exact r00NatBits.mono _ _
   | exact LeO.none _
   | refine LeO.ite ?_ ?_
   | refine LeO.bind ?_ (fun _ => ?_)
set_option maxHeartbeats 8000000 in
set_option maxRecDepth 100000 in
theorem r00Num_Zero.calls (k : Nat) (a0_0 : Bool) (A0_1 : Option Addr) (c0_1 : Nat) (l0_1 : List Int) (a0_2 : Int) (r : Bool) (w : World) (hr0_1 : Kd.C (Kd.int .u64) w A0_1 l0_1.length l0_1) (hc0_1 : l0_1.length ≤ c0_1) (h : r00Num_Zero.f k a0_0 l0_1 a0_2 = some r) :
  Calls Try.prog 54 #[.agg #[.bool a0_0, .slice A0_1 l0_1.length c0_1, .int .i64 a0_2]] w fun e w' => e = .returned (.bool r) ∧ Below w.heap.size w w' := by
 have hu48 := Try.underlying48
 have HR0_1 := Zb.mk hr0_1
 have HC0_1 := Zb.mk hc0_1
 clear hr0_1 hc0_1
 have HB := Zb.mk (Below.refl w.heap.size w)
 have H : ((r00NatBits.f k l0_1).bind fun t139 => (some (t139 == 0))) = some r := h
 clear h
 replace H := Option.bind_eq_some_iff.mp H
 obtain ⟨t139, A20, H⟩ := H
 replace H : (some (t139 == 0)) = some r := H
 have A2 := Zb.mk A20
 clear A20
 obtain rfl := Option.some.inj H
 go_enter Try.func54, Try.ntmps54
 go_wp2_with (first | ((with_reducible refine Zt (N := 1) rfl ?_); refine Zs ?hg (N := 1) ?hd (cs := #[.bool a0_0, .slice A0_1 l0_1.length c0_1, .int .i64 a0_2]) (t := 48) ?hr ?_; (case hd => rfl); (case hg => rfl); (case hr => first | (go_simp; done) | (go_simp; rfl)); intro gb138 hg w3 hbox hb; have n0_ := Zb.mk (Zl (by repeat (with_reducible first | exact HB.out | apply Zc | apply Za | apply Zd)) hb); have n1_ := Zb.mk (hbox); have n2_ := Zb.mk ((by rw [hg]; exact (Zi (by repeat (with_reducible first | exact HB.out | apply Zc | apply Za | apply Zd))) : w.heap.size ≤ gb138)); have n3_ := Zb.mk ((by rw [hg]; exact (Zi (by repeat (with_reducible first | exact HB.out | apply Zc | apply Za | apply Zd))) : w.heap.size ≤ gb138)); clear HB; have HB := n0_; have BK138 := n1_; have GW138 := n2_; have GE138 := n3_; clear n0_ n1_ n2_ n3_; clear hb hbox hg; have hcz4_0 : w3.cell? ⟨gb138, 0, none⟩ = some (.bool a0_0) := (Zk BK138.out 0).trans rfl; have hcz4_1 : w3.cell? ⟨gb138, 1, none⟩ = some (.slice A0_1 l0_1.length c0_1) := (Zk BK138.out 1).trans rfl; have hcz4_2 : w3.cell? ⟨gb138, 2, none⟩ = some (.int .i64 a0_2) := (Zk BK138.out 2).trans rfl; have hfz4_0 := Zj BK138.out 0; have hfz4_1 := Zj BK138.out 1; have hfz4_2 := Zj BK138.out 2) | ((with_reducible refine Zp (f := 80) rfl ?_); refine ZB (some 5) rfl rfl Try.func80 (by kernel_rfl) rfl #[.slice A0_1 l0_1.length c0_1] rfl (by (try simp only [List.map_toArray, List.map_cons, List.map_nil]); first | done | rfl | (simp only [List.length_drop, List.length_take]; rfl)) ?_; (with_reducible refine (r00NatBits.calls k _ _ l0_1 t139 _ ?side1 ?side2 A2.out).mono ?_); (case side1 => repeat (first | exact (Kd.C_below HR0_1.out HB.out) | (with_reducible refine Kd.ZC ?_ _) | (with_reducible refine Kd.ZF ?_ _) | (with_reducible refine Kd.ZN ?_))); (case side2 => exact HC0_1.out); rintro e w5 ⟨rfl, hb⟩; refine ⟨_, rfl, ?_⟩; have n0_ := Zb.mk (Zn (g := gb138) (o := .cells #[.bool a0_0, .slice A0_1 l0_1.length c0_1, .int .i64 a0_2] 48 (0, 0)) (by (with_reducible repeat first | refine Ze ?_ _ | refine Zg ?_ | refine Zf ?_ _); exact BK138.out) hb); have n1_ := Zb.mk (Zl (by repeat (with_reducible first | exact HB.out | apply Zc | apply Za | apply Zd | refine Zh ?_ GE138.out)) hb); clear BK138; clear HB; have BK138 := n0_; have HB := n1_; clear n0_ n1_; (try clear hb); (try clear hb2); (try clear hk); (try clear hi)))
 go_ret
 exact ⟨by first | rfl | (simp [errW_none, errW_some] <;> rfl) | (simp [*, errW_none, errW_some] <;> rfl), by repeat (with_reducible first | exact HB.out | apply Zc | apply Za | apply Zd | refine Zh ?_ GE138.out)⟩
end Go.Proofs.Ytbmddlldadbfnaa.BB
end
section
namespace Go.Proofs.Ytbmddlldadbfnaa.BB
open Go.RowKit Go.Proofs.Ytbmddlldadbfnaa.BA Go.Proofs.YtbmddlldadbfnaaW.PrintWords Go.Proofs.YtbmddlldadbfnaaW.PrintLast Go.Proofs.YtbmddlldadbfnaaW.PrintMore
attribute [local go_sem] ZU ZS max_two min_two ZP ZO ZT ZR
set_option linter.unusedVariables false
set_option linter.unusedSimpArgs false
def r00low.l0 : Nat → List Int → Int → Option (List Int)
 | 0, _, _ => none
 | k + 1, x0, x3 => if x3 > 0 then (if 0 ≤ (wrap64 (x3 - 1)) then (if (wrap64 (x3 - 1)) < (x0.length : Int) then (if (rd x0 (wrap64 (x3 - 1))) = 0 then (r00low.l0 k x0 (wrap64 (x3 - 1))) else (if 0 ≤ x3 then (if x3 ≤ (x0.length : Int) then (some (x0.take (x3 : Int).toNat)) else (none)) else (none))) else (none)) else (none)) else (if 0 ≤ x3 then (if x3 ≤ (x0.length : Int) then (some (x0.take (x3 : Int).toNat)) else (none)) else (none))
def r00low.f (k : Nat) (l0 : List Int) : Option (List Int) := r00low.l0 k l0 (l0.length : Int)
theorem r00low.mono_l : ∀ k, (∀ y0 y1, LeO (r00low.l0 k y0 y1) (r00low.l0 (k + 1) y0 y1))
 | 0 => fun _ _ r h => by simp [r00low.l0] at h
 | k + 1 => by
  have ih0 := r00low.mono_l k
  ·intro y0 y1
   unfold r00low.l0
   repeat' first
   | (with_reducible exact ih0 _ _)
   | (with_reducible exact LeO.refl _)
   | (with_reducible exact LeO.none _)
   | (with_reducible refine LeO.ite ?_ ?_)
   | (with_reducible refine LeO.bind ?_ (fun _ => ?_))
   | exact ih0 _ _
   | exact LeO.none _
   | refine LeO.ite ?_ ?_
   | refine LeO.bind ?_ (fun _ => ?_)
theorem r00low.mono : ∀ a0 k, LeO (r00low.f k a0) (r00low.f (k + 1) a0) := by
 intro a0 k
 have ih0 := r00low.mono_l k
 unfold r00low.f
 repeat' first
   | (with_reducible exact ih0 _ _)
   | (with_reducible exact LeO.refl _)
   | (with_reducible exact LeO.none _)
   | (with_reducible refine LeO.ite ?_ ?_)
   | (with_reducible refine LeO.bind ?_ (fun _ => ?_))
   | exact ih0 _ _
   | exact LeO.none _
   | refine LeO.ite ?_ ?_
   | refine LeO.bind ?_ (fun _ => ?_)
set_option maxHeartbeats 8000000 in
set_option maxRecDepth 100000 in
theorem r00low.calls (k : Nat) (P0_ : Nat → Prop) (u9000_ : Value) (l0 : List Int) (r : List Int) (w0 w : World) (hB : Below w0.heap.size w0 w) (ho0 : Kd.R (Kd.int .u64) 46 w w0.heap.size P0_ u9000_ l0) (h : r00low.f k l0 = some r) :
  Calls Try.prog 122 #[u9000_] w fun e w' => ∃ v0_ : Value, e = .returned (v0_) ∧ Kd.R (Kd.int .u64) 46 w' w0.heap.size (fun k_ => (P0_ k_ ∨ w.heap.size ≤ k_)) v0_ r ∧ Below w0.heap.size w0 w' ∧ Kept w w' (fun k_ => P0_ k_) := by
 have HO0 := Zb.mk (show Kd.R (Kd.int .u64) 46 w w0.heap.size (fun k_ => (P0_ k_ ∨ w.heap.size ≤ k_)) u9000_ l0 from Kd.ZE ho0 (fun k_ hk => (.inl hk)))
 have HK := Zb.mk (Kept.refl w (fun k_ => P0_ k_))
 have HW0 := Zb.mk hB.size
 have HB := Zb.mk hB
 clear hB
 have H : (r00low.l0 k l0 (l0.length : Int)) = some r := h
 clear h
 have H' := Zb.mk H
 clear H
 obtain ⟨Ao2, co2, eo2⟩ := Kd.Zy HO0.out
 subst eo2
 go_enter Try.func122, Try.ntmps122
 go_wp2
 go_loopg [3] k (fun kq v3 w' => ∃ (x3_1 : Int), v3 = .int .i64 x3_1 ∧ Zb (r00low.l0 kq l0 x3_1 = some r) ∧ Zb (kq ≤ k) ∧ Zb (Kd.R (Kd.int .u64) 46 w' w0.heap.size (fun k_ => (P0_ k_ ∨ w.heap.size ≤ k_)) (.slice Ao2 l0.length co2) l0) ∧ Zb (Kept w w' (fun k_ => P0_ k_)) ∧ Zb (Below w0.heap.size w0 w'))
 case atStart => exact ⟨((l0.length : Int)), (by first | rfl | (simp; done) | (simp [*]; done)), H', ⟨Nat.le_refl _⟩, ⟨by (with_reducible repeat first | apply Kd.Zm | apply Kd.Zo); exact HO0.out⟩, ⟨by repeat (with_reducible first | exact HK.out | apply Kept.alloc | apply Kept.drewN | apply Kept.drew)⟩, ⟨by repeat (with_reducible first | exact HB.out | apply Zc | apply Za | apply Zd)⟩⟩
 case round =>
  clear H'
  try clear c1
  try clear p2
  obtain ⟨x3_1, rfl, HA, HK1, HO_0, HK, HB⟩ := hrel
  cases gk with
  | zero => exact absurd HA.out (by simp [r00low.l0])
  | succ k1 =>
   have H := HA.out
   clear HA
   simp only [r00low.l0] at H
   by_cases c3 : x3_1 > 0
   ·rw [if_pos c3] at H
    have c3b0 : decide (0 < x3_1) = true := decide_eq_true c3
    clear c3
    obtain ⟨ji4, hji4⟩ : ∃ j_ : Int, (wrap64 (x3_1 - 1)) = j_ := ⟨_, rfl⟩
    replace H : (if 0 ≤ (ji4) then (if (ji4) < (l0.length : Int) then (if (rd l0 (ji4)) = 0 then (r00low.l0 k1 l0 ji4) else (if 0 ≤ x3_1 then (if x3_1 ≤ (l0.length : Int) then (some (l0.take (x3_1 : Int).toNat)) else (none)) else (none))) else (none)) else (none)) = some r := by first | (rw [hji4] at H; exact H) | (simp only [hji4] at H ⊢; exact H)
    have hji4w : (IntKind.i64.wrap (x3_1 - 1)) = ji4 := (Zx _).trans hji4
    by_cases c5 : 0 ≤ (ji4)
    ·rw [if_pos c5] at H
     have c5b0 : decide (0 ≤ (ji4)) = true := decide_eq_true c5
     clear c5
     by_cases c6 : (ji4) < (l0.length : Int)
     ·rw [if_pos c6] at H
      have c6b0 : decide ((ji4) < (l0.length : Int)) = true := decide_eq_true c6
      clear c6
      by_cases c7 : (rd l0 (ji4)) = 0
      ·rw [if_pos c7] at H
       have c7b0 : ((rd l0 (ji4)) == 0) = true := beq_iff_eq.mpr c7
       have c7b1 : ((rd l0 (ji4)) != 0) = false := bne_eq_false_iff_eq.mpr c7
       clear c7
       have H' := Zb.mk H
       clear H
       have p140 : 0 ≤ ((ji4) : Int) := of_decide_eq_true (by first | (with_reducible assumption) | assumption)
       have q140 : (ji4) < (l0.length : Int) := of_decide_eq_true (by first | (with_reducible assumption) | assumption)
       obtain ⟨ad140, e140, hx140_0⟩ := Kd.at_int (Kd.Zv HO_0.out).2.2 (ji4) p140 q140
       cases e140
       replace p140 := eq_true p140
       replace q140 := eq_true q140
       go_wp2
       go_roundg k1
       case measure => have := HK1.out; omega
       case rel => exact ⟨(ji4), (by first | rfl | (simp; done) | (simp only [← hji4] <;> (first | rfl | simp)) | (simp [*]; done)), H', ⟨by have := HK1.out; omega⟩, ⟨by (with_reducible repeat first | apply Kd.Zm | apply Kd.Zo); exact HO_0.out⟩, ⟨by repeat (with_reducible first | exact HK.out | apply Kept.alloc | apply Kept.drewN | apply Kept.drew)⟩, ⟨by repeat (with_reducible first | exact HB.out | apply Zc | apply Za | apply Zd)⟩⟩
      ·rw [if_neg c7] at H
       have c7b0 : ((rd l0 (ji4)) == 0) = false := beq_eq_false_iff_ne.mpr c7
       have c7b1 : ((rd l0 (ji4)) != 0) = true := bne_iff_ne.mpr c7
       by_cases c8 : 0 ≤ x3_1
       ·rw [if_pos c8] at H
        have c8b0 := eq_true c8
        have c8b1 : decide (0 ≤ x3_1) = true := decide_eq_true c8
        clear c8
        by_cases c9 : x3_1 ≤ (l0.length : Int)
        ·rw [if_pos c9] at H
         have c9b0 := eq_true c9
         have c9b1 : decide (x3_1 ≤ (l0.length : Int)) = true := decide_eq_true c9
         clear c9
         obtain ⟨y141, hy141⟩ : ∃ y_ : List Int, y_ = (l0.take (x3_1 : Int).toNat) := ⟨_, rfl⟩
         replace H : (some y141) = some r := by first | (rw [hy141]; with_reducible exact H) | (have H2_ := (Option.bind_some _ _).symm.trans H; rw [hy141]; with_reducible exact H2_) | (have H2_ := (Option.bind_some _ _).symm.trans H; with_reducible exact H2_) | with_reducible exact H | (rw [hy141]; exact H) | exact H
         have Ny141 := Zb.mk hy141
         clear hy141
         obtain rfl := Option.some.inj H
         have p140 : 0 ≤ ((ji4) : Int) := of_decide_eq_true (by first | (with_reducible assumption) | assumption)
         have q140 : (ji4) < (l0.length : Int) := of_decide_eq_true (by first | (with_reducible assumption) | assumption)
         obtain ⟨ad140, e140, hx140_0⟩ := Kd.at_int (Kd.Zv HO_0.out).2.2 (ji4) p140 q140
         cases e140
         replace p140 := eq_true p140
         replace q140 := eq_true q140
         have q10 : (x3_1 : Int) ≤ ((l0.length : Int) : Int) := of_decide_eq_true (by first | (with_reducible assumption) | assumption)
         obtain ⟨i010, hi010, _, hsz10, _⟩ := info_parts info46
         have hcut10 := cut_to (P := Try.prog) 22 46 .i64 Try.underlying22 hi010 (some ad140) l0.length co2 x3_1 (of_decide_eq_true (by first | (with_reducible assumption) | assumption)) q10 (Kd.Zv HO_0.out).2.1
         have hr10 := Kd.R_take (m := (x3_1 : Int).toNat) HO_0.out (by omega)
         have hy10 : y141.length = (x3_1 : Int).toNat := (by rw [Ny141.out, List.length_take]; omega)
         rw [← Ny141.out] at hr10
         rw [← hy10] at hr10 hcut10
         clear hy10 hi010 hsz10 HO_0
         have HO143 := Zb.mk hr10
         clear hr10
         replace q10 := eq_true q10
         go_wp2
         go_ret
         exact ⟨_, by first | rfl | (simp [errW_none, errW_some] <;> rfl) | (simp only [← hji4]; first | rfl | (simp [errW_none, errW_some] <;> rfl)) | (simp [*, errW_none, errW_some] <;> rfl), by (with_reducible repeat first | apply Kd.Zm | apply Kd.Zo); exact HO143.out, by repeat (with_reducible first | exact HB.out | apply Zc | apply Za | apply Zd), by repeat (with_reducible first | exact HK.out | apply Kept.alloc | apply Kept.drewN | apply Kept.drew)⟩
        ·rw [if_neg c9] at H
         exact absurd H (by simp)
       ·rw [if_neg c8] at H
        exact absurd H (by simp)
     ·rw [if_neg c6] at H
      exact absurd H (by simp)
    ·rw [if_neg c5] at H
     exact absurd H (by simp)
   ·rw [if_neg c3] at H
    have c3b0 : decide (0 < x3_1) = false := decide_eq_false c3
    clear c3
    by_cases c11 : 0 ≤ x3_1
    ·rw [if_pos c11] at H
     have c11b0 := eq_true c11
     have c11b1 : decide (0 ≤ x3_1) = true := decide_eq_true c11
     clear c11
     by_cases c12 : x3_1 ≤ (l0.length : Int)
     ·rw [if_pos c12] at H
      have c12b0 := eq_true c12
      have c12b1 : decide (x3_1 ≤ (l0.length : Int)) = true := decide_eq_true c12
      clear c12
      obtain ⟨y144, hy144⟩ : ∃ y_ : List Int, y_ = (l0.take (x3_1 : Int).toNat) := ⟨_, rfl⟩
      replace H : (some y144) = some r := by first | (rw [hy144]; with_reducible exact H) | (have H2_ := (Option.bind_some _ _).symm.trans H; rw [hy144]; with_reducible exact H2_) | (have H2_ := (Option.bind_some _ _).symm.trans H; with_reducible exact H2_) | with_reducible exact H | (rw [hy144]; exact H) | exact H
      have Ny144 := Zb.mk hy144
      clear hy144
      obtain rfl := Option.some.inj H
      have q13 : (x3_1 : Int) ≤ ((l0.length : Int) : Int) := of_decide_eq_true (by first | (with_reducible assumption) | assumption)
      obtain ⟨i013, hi013, _, hsz13, _⟩ := info_parts info46
      have hcut13 := cut_to (P := Try.prog) 22 46 .i64 Try.underlying22 hi013 Ao2 l0.length co2 x3_1 (of_decide_eq_true (by first | (with_reducible assumption) | assumption)) q13 (Kd.Zv HO_0.out).2.1
      have hr13 := Kd.R_take (m := (x3_1 : Int).toNat) HO_0.out (by omega)
      have hy13 : y144.length = (x3_1 : Int).toNat := (by rw [Ny144.out, List.length_take]; omega)
      rw [← Ny144.out] at hr13
      rw [← hy13] at hr13 hcut13
      clear hy13 hi013 hsz13 HO_0
      have HO146 := Zb.mk hr13
      clear hr13
      replace q13 := eq_true q13
      go_wp2
      go_ret
      exact ⟨_, by first | rfl | (simp [errW_none, errW_some] <;> rfl) | (simp [*, errW_none, errW_some] <;> rfl), by (with_reducible repeat first | apply Kd.Zm | apply Kd.Zo); exact HO146.out, by repeat (with_reducible first | exact HB.out | apply Zc | apply Za | apply Zd), by repeat (with_reducible first | exact HK.out | apply Kept.alloc | apply Kept.drewN | apply Kept.drew)⟩
     ·rw [if_neg c12] at H
      exact absurd H (by simp)
    ·rw [if_neg c11] at H
     exact absurd H (by simp)
def r00halves.l0 : Nat → List Int → List Int → Int → Option (List Int)
 | 0, _, _, _ => none
 | k + 1, x0, x3, x4 => if x4 < (x0.length : Int) then (if 0 ≤ x4 then ((some (([Int.tmod (rd x0 x4) 4294967296, IntKind.u64.wrap (Int.tdiv (rd x0 x4) 4294967296)] : List Int) : List Int)).bind fun y149 => (if x3.length + y149.length < 17592186044416 then (r00halves.l0 k x0 (x3 ++ y149) (wrap64 (x4 + 1))) else (none))) else (none)) else ((r00low.f k x3).bind fun t155 => (some t155))
def r00halves.f (k : Nat) (l0 : List Int) : Option (List Int) := r00halves.l0 k l0 ([] : List Int) 0
theorem r00halves.mono_l : ∀ k, (∀ y0 y1 y2, LeO (r00halves.l0 k y0 y1 y2) (r00halves.l0 (k + 1) y0 y1 y2))
 | 0 => fun _ _ _ r h => by simp [r00halves.l0] at h
 | k + 1 => by
  have ih0 := r00halves.mono_l k
  ·intro y0 y1 y2
   unfold r00halves.l0
   repeat' first
   | (with_reducible exact ih0 _ _ _)
   | (with_reducible exact r00low.mono _ _)
   | (with_reducible exact LeO.refl _)
   | (with_reducible exact LeO.none _)
   | (with_reducible refine LeO.ite ?_ ?_)
   | (with_reducible refine LeO.bind ?_ (fun _ => ?_))
   | exact ih0 _ _ _
   | exact r00low.mono _ _
   | exact LeO.none _
   | refine LeO.ite ?_ ?_
   | refine LeO.bind ?_ (fun _ => ?_)
theorem r00halves.mono : ∀ a0 k, LeO (r00halves.f k a0) (r00halves.f (k + 1) a0) := by
 intro a0 k
 have ih0 := r00halves.mono_l k
 unfold r00halves.f
 repeat' first
   | (with_reducible exact ih0 _ _ _)
   | (with_reducible exact r00low.mono _ _)
   | (with_reducible exact LeO.refl _)
   | (with_reducible exact LeO.none _)
   | (with_reducible refine LeO.ite ?_ ?_)
   | (with_reducible refine LeO.bind ?_ (fun _ => ?_))
   | exact ih0 _ _ _
   | exact r00low.mono _ _
   | exact LeO.none _
   | refine LeO.ite ?_ ?_
   | refine LeO.bind ?_ (fun _ => ?_)
def r00halves.T5 : Bool × List (List Nat × List Nat) := (true, [([], []), ([], []), ([], []), ([1, 2], [1, 2]), ([3], [3]), ([4], [4]), ([], []), ([], []), ([6, 7], [6, 7]), ([8], [8]), ([9], [9]), ([5, 10], [5, 10]), ([0, 11], [0, 11]), ([12, 12, 0, 1, 2, 3, 4, 5, 6, 7, 8, 9, 10, 11, 12], [0, 12])])
def r00halves.B5 : List Nat := [0, 0, 0, 6, 14, 30, 0, 0, 192, 448, 960, 2046, 4095, 8191]
theorem r00halves.tab5 : rtab .any (opsOf Try.f91 5) = r00halves.T5 := by kernel_rfl
theorem r00halves.bits5 : waitsOk r00halves.T5.2 r00halves.B5 = true := by kernel_rfl
set_option maxHeartbeats 8000000 in
set_option maxRecDepth 100000 in
theorem r00halves.calls (k : Nat) (A0 : Option Addr) (c0 : Nat) (l0 : List Int) (r : List Int) (w : World) (hr0 : Kd.C (Kd.int .u64) w A0 l0.length l0) (hc0 : l0.length ≤ c0) (h : r00halves.f k l0 = some r) :
  Calls Try.prog 91 #[.slice A0 l0.length c0] w fun e w' => ∃ v0_ : Value, e = .returned (v0_) ∧ Kd.R (Kd.int .u64) 46 w' w.heap.size (fun _ => True) v0_ r ∧ Below w.heap.size w w' := by
 have HR0 := Zb.mk hr0
 have HC0 := Zb.mk hc0
 clear hr0 hc0
 have HB := Zb.mk (Below.refl w.heap.size w)
 have H : (r00halves.l0 k l0 ([] : List Int) 0) = some r := h
 clear h
 have H' := Zb.mk H
 clear H
 go_enter Try.func91, Try.ntmps91
 go_wp2
 go_loopg [3, 4] k (fun kq v3 v4 w' => ∃ (x3_1 : List Int) (x4_1 : Int), v4 = .int .i64 x4_1 ∧ Zb (r00halves.l0 kq l0 x3_1 x4_1 = some r) ∧ Zb (kq ≤ k) ∧ Zb (Kd.R (Kd.int .u64) 46 w' w.heap.size (fun _ => True) v3 x3_1) ∧ Zb (Below w.heap.size w w'))
 case atStart => exact ⟨(([] : List Int)), (0), (by first | rfl | (simp; done) | (simp [*]; done)), H', ⟨Nat.le_refl _⟩, ⟨by first | exact Kd.R_nil _ _ _ _ _ | exact Kd.V_nil _ _ _ _ _ | exact Kd.S_nil _ _ _ _ _⟩, ⟨by repeat (with_reducible first | exact HB.out | apply Zc | apply Za | apply Zd)⟩⟩
 case round =>
  clear H'
  obtain ⟨x3_1, x4_1, rfl, HA, HK1, HO_3, HB⟩ := hrel
  cases gk with
  | zero => exact absurd HA.out (by simp [r00halves.l0])
  | succ k1 =>
   have H := HA.out
   clear HA
   simp only [r00halves.l0] at H
   by_cases c2 : x4_1 < (l0.length : Int)
   ·rw [if_pos c2] at H
    have c2b0 : decide (x4_1 < (l0.length : Int)) = true := decide_eq_true c2
    clear c2
    by_cases c3 : 0 ≤ x4_1
    ·rw [if_pos c3] at H
     have c3b0 : decide (0 ≤ x4_1) = true := decide_eq_true c3
     clear c3
     obtain ⟨y149, hy149⟩ : ∃ y_ : List Int, y_ = (([Int.tmod (rd l0 x4_1) 4294967296, IntKind.u64.wrap (Int.tdiv (rd l0 x4_1) 4294967296)] : List Int)) := ⟨_, rfl⟩
     replace H : (if x3_1.length + y149.length < 17592186044416 then (r00halves.l0 k1 l0 (x3_1 ++ y149) (wrap64 (x4_1 + 1))) else (none)) = some r := by first | (rw [hy149]; with_reducible exact H) | (have H2_ := (Option.bind_some _ _).symm.trans H; rw [hy149]; with_reducible exact H2_) | (have H2_ := (Option.bind_some _ _).symm.trans H; with_reducible exact H2_) | with_reducible exact H | (rw [hy149]; exact H) | exact H
     have Ny149 := Zb.mk hy149
     clear hy149
     by_cases c4 : x3_1.length + y149.length < 17592186044416
     ·rw [if_pos c4] at H
      have LMc4 := Zb.mk c4
      clear c4
      obtain ⟨y152, hy152⟩ : ∃ y_ : List Int, y_ = (x3_1 ++ y149) := ⟨_, rfl⟩
      replace H : (r00halves.l0 k1 l0 y152 (wrap64 (x4_1 + 1))) = some r := by first | (rw [hy152]; with_reducible exact H) | (have H2_ := (Option.bind_some _ _).symm.trans H; rw [hy152]; with_reducible exact H2_) | (have H2_ := (Option.bind_some _ _).symm.trans H; with_reducible exact H2_) | with_reducible exact H | (rw [hy152]; exact H) | exact H
      have Ny152 := Zb.mk hy152
      clear hy152
      have H' := Zb.mk H
      clear H
      try go_wp2
      have n0_ := Zb.mk (Kd.Zo HO_3.out)
      have n1_ := Zb.mk (Zd HB.out)
      clear HO_3
      clear HB
      have HO_3 := n0_
      have HB := n1_
      clear n0_ n1_
      have p147 : 0 ≤ (x4_1 : Int) := of_decide_eq_true (by first | (with_reducible assumption) | assumption)
      have q147 : x4_1 < (l0.length : Int) := of_decide_eq_true (by first | (with_reducible assumption) | assumption)
      obtain ⟨ad147, e147, hx147_0⟩ := Kd.at_int HR0.out x4_1 p147 q147
      have hw147_0 := hx147_0
      cases e147
      replace hx147_0 := (HB.out.cell (World.block_lt_of_cell? w _ hx147_0)).trans hx147_0
      replace p147 := eq_true p147
      replace q147 := eq_true q147
      have p148 : 0 ≤ (x4_1 : Int) := of_decide_eq_true (by first | (with_reducible assumption) | assumption)
      have q148 : x4_1 < (l0.length : Int) := of_decide_eq_true (by first | (with_reducible assumption) | assumption)
      obtain ⟨ad148, e148, hx148_0⟩ := Kd.at_int HR0.out x4_1 p148 q148
      have hw148_0 := hx148_0
      obtain rfl : ad147 = ad148 := (by injection e148)
      replace hx148_0 := (HB.out.cell (World.block_lt_of_cell? w _ hx148_0)).trans hx148_0
      replace p148 := eq_true p148
      replace q148 := eq_true q148
      refine start_ (n := 14) (S := fun w' => w'.cell? (ad147.add (x4_1).toNat) = some (.int .u64 (rd l0 x4_1)) ∧ w'.cell? (ad147.add (x4_1).toNat) = some (.int .u64 (rd l0 x4_1))) (ds := []) #[false, false, false, false, false, false, false, false, false, false, false, false, false, false] (by kernel_rfl) rfl rfl ⟨((HB.out.cell (World.block_lt_of_cell? w _ hw147_0)).trans hw147_0), ((HB.out.cell (World.block_lt_of_cell? w _ hw148_0)).trans hw148_0)⟩ (fun hHeld => ?_); refine with_tabW r00halves.tab5 r00halves.bits5 (fun HT_ HW_ => ?_)
      generalize wr.drew = w5 at HO_3 HB hx147_0 hx148_0 hHeld ⊢
      refine ZM (i := 0) (N := some 11) (v := ?_) (a' := ?_) #[true, false, false, false, false, false, false, false, false, false, false, false, false, false] rfl rfl (ZD HT_.out (by kernel_rfl)) (fun _ _ _ h => h) (Or.inl ⟨by rfl, ?_⟩) ?_ ?_
      rotate_left
      ·intro w'
       go_simp
       with_reducible rfl
      rotate_left
      ·simp only [Act.put, List.setIfInBounds_toArray, List.set_cons_zero, List.set_cons_succ, Zx, ZA]
       rfl
      refine ZM (i := 1) (N := some 12) (v := ?_) (a' := ?_) #[true, true, false, false, false, false, false, false, false, false, false, false, false, false] rfl rfl (ZD HT_.out (by kernel_rfl)) (fun _ _ _ h => h) (Or.inl ⟨by rfl, ?_⟩) ?_ ?_
      rotate_left
      ·intro w'
       go_simp
       with_reducible rfl
      rotate_left
      ·simp only [Act.put, List.setIfInBounds_toArray, List.set_cons_zero, List.set_cons_succ, Zx, ZA]
       rfl
      refine ZM (i := 2) (N := some 13) (v := ?_) (a' := ?_) #[true, true, true, false, false, false, false, false, false, false, false, false, false, false] rfl rfl (ZD HT_.out (by kernel_rfl)) (fun _ _ _ h => h) (Or.inl ⟨by rfl, ?_⟩) ?_ ?_
      rotate_left
      ·intro w'
       go_simp
       with_reducible rfl
      rotate_left
      ·simp only [Act.put, List.setIfInBounds_toArray, List.set_cons_zero, List.set_cons_succ, Zx, ZA]
       rfl
      refine ZM (i := 3) (N := some 14) (v := ?_) (a' := ?_) #[true, true, true, true, false, false, false, false, false, false, false, false, false, false] rfl rfl (ZD HT_.out (by kernel_rfl)) (fun _ _ _ h => h) (Or.inl ⟨by rfl, ?_⟩) ?_ ?_
      rotate_left
      ·intro w'
       go_simp
       with_reducible rfl
      rotate_left
      ·simp only [Act.put, List.setIfInBounds_toArray, List.set_cons_zero, List.set_cons_succ, Zx, ZA]
       rfl
      refine ZM (i := 6) (N := some 17) (v := ?_) (a' := ?_) #[true, true, true, true, false, false, true, false, false, false, false, false, false, false] rfl rfl (ZD HT_.out (by kernel_rfl)) (fun _ _ _ h => h) (Or.inl ⟨by rfl, ?_⟩) ?_ ?_
      rotate_left
      ·intro w'
       go_simp
       with_reducible rfl
      rotate_left
      ·simp only [Act.put, List.setIfInBounds_toArray, List.set_cons_zero, List.set_cons_succ, Zx, ZA]
       rfl
      refine ZM (i := 7) (N := some 18) (v := ?_) (a' := ?_) #[true, true, true, true, false, false, true, true, false, false, false, false, false, false] rfl rfl (ZD HT_.out (by kernel_rfl)) (fun _ _ _ h => h) (Or.inl ⟨by rfl, ?_⟩) ?_ ?_
      rotate_left
      ·intro w'
       go_simp
       with_reducible rfl
      rotate_left
      ·simp only [Act.put, List.setIfInBounds_toArray, List.set_cons_zero, List.set_cons_succ, Zx, ZA]
       rfl
      refine ZM (i := 8) (N := some 19) (v := ?_) (a' := ?_) #[true, true, true, true, false, false, true, true, true, false, false, false, false, false] rfl rfl (ZD HT_.out (by kernel_rfl)) (fun _ _ _ h => h) (Or.inl ⟨by rfl, ?_⟩) ?_ ?_
      rotate_left
      ·intro w'
       go_simp
       with_reducible rfl
      rotate_left
      ·simp only [Act.put, List.setIfInBounds_toArray, List.set_cons_zero, List.set_cons_succ, Zx, ZA]
       rfl
      refine take_ (i := 4) (N := some 15) (v := ?_) (a' := ?_) #[true, true, true, true, true, false, true, true, true, false, false, false, false, false] rfl rfl (take_ofW HT_.out HW_.out (by kernel_rfl)) (fun _ _ _ h => h) (Or.inl ⟨by rfl, ?_⟩) hHeld ?_ ?_
      rotate_left
      ·rintro w' ⟨s0, s1⟩
       go_simp
       with_reducible rfl
      rotate_left
      ·simp only [Act.put, List.setIfInBounds_toArray, List.set_cons_zero, List.set_cons_succ, Zx, ZA]
       rfl
      refine ZM (i := 5) (N := some 16) (v := ?_) (a' := ?_) #[true, true, true, true, true, true, true, true, true, false, false, false, false, false] rfl rfl (ZD HT_.out (by kernel_rfl)) (fun _ _ _ h => h) (Or.inl ⟨by rfl, ?_⟩) ?_ ?_
      rotate_left
      ·intro w'
       go_simp
       with_reducible rfl
      rotate_left
      ·simp only [Act.put, List.setIfInBounds_toArray, List.set_cons_zero, List.set_cons_succ, Zx, ZA]
       rfl
      refine take_ (i := 9) (N := some 20) (v := ?_) (a' := ?_) #[true, true, true, true, true, true, true, true, true, true, false, false, false, false] rfl rfl (take_ofW HT_.out HW_.out (by kernel_rfl)) (fun _ _ _ h => h) (Or.inl ⟨by rfl, ?_⟩) hHeld ?_ ?_
      rotate_left
      ·rintro w' ⟨s0, s1⟩
       go_simp
       with_reducible rfl
      rotate_left
      ·simp only [Act.put, List.setIfInBounds_toArray, List.set_cons_zero, List.set_cons_succ, Zx, ZA]
       rfl
      refine ZM (i := 10) (N := some 21) (v := ?_) (a' := ?_) #[true, true, true, true, true, true, true, true, true, true, true, false, false, false] rfl rfl (ZD HT_.out (by kernel_rfl)) (fun _ _ _ h => h) (Or.inl ⟨by rfl, ?_⟩) ?_ ?_
      rotate_left
      ·intro w'
       go_simp
       with_reducible rfl
      rotate_left
      ·simp only [Act.put, List.setIfInBounds_toArray, List.set_cons_zero, List.set_cons_succ, Zx, ZA]
       rfl
      refine one_ (i := 11) (N := some 22) #[true, true, true, true, true, true, true, true, true, true, true, true, false, false] rfl rfl (one_of HT_.out (by kernel_rfl)) (by decide) (fun K hK => ?_)
      refine Kd.R_lit_step (Kd.int .u64) _ 46 ?hg (N := 22) ?hd (xs := ([Int.tmod (rd l0 x4_1) 4294967296, IntKind.u64.wrap (Int.tdiv (rd l0 x4_1) 4294967296)] : List Int)) (inner := [.int .u64 (Int.tmod (rd l0 x4_1) 4294967296), .int .u64 (IntKind.u64.wrap (Int.tdiv (rd l0 x4_1) 4294967296))]) (ok := fun _ => True) (okp := fun _ => True) ?hr ?hp (fun _ hk => hk) trivial (Below.refl _ _) (Nat.le_refl _) (by simp) ?_; (case hd => rfl); (case hg => rfl); (case hr => first | (go_simp; done) | (go_simp; rfl)); (case hp => exact (Reps.one (show Kd.M (Kd.int .u64) _ _ _ (Int.tmod (rd l0 x4_1) 4294967296) [.int .u64 (Int.tmod (rd l0 x4_1) 4294967296)] from rfl) (Reps.one (show Kd.M (Kd.int .u64) _ _ _ (IntKind.u64.wrap (Int.tdiv (rd l0 x4_1) 4294967296)) [.int .u64 (IntKind.u64.wrap (Int.tdiv (rd l0 x4_1) 4294967296))] from rfl) (Reps.none _ _))))
      intro v150 w6 ho7 hb hg_ hnew_
      clear hg_ hnew_
      (first | rw [← Ny149.out] at ho7 | (simp only [Int.reduceToNat] at ho7; rw [← Ny149.out] at ho7))
      have n0_ := Zb.mk (Kd.ZJ (by (with_reducible repeat first | apply Kd.Zm | apply Kd.Zo); exact HO_3.out) (Kd.ZV ho7) hb)
      have n1_ := Zb.mk (Kd.ZG (Kd.R_new' ho7 (Kd.R_lt (by (with_reducible repeat first | apply Kd.Zm | apply Kd.Zo); exact HO_3.out))) (Zi (by repeat (with_reducible first | exact HB.out | apply Zc | apply Za | apply Zd))))
      have n2_ := Zb.mk (Zl (by repeat (with_reducible first | exact HB.out | apply Zc | apply Za | apply Zd)) hb)
      clear HO_3
      clear HB
      have HO_3 := n0_
      have HO151 := n1_
      have HB := n2_
      clear n0_ n1_ n2_
      clear hb ho7
      obtain ⟨Ao9, co9, eo9⟩ := Kd.Zy HO151.out
      (first | subst eo9 | (injection eo9 with f1_ f2_ f3_; have f4_ := f1_.symm; have f5_ := f3_.symm; clear f1_ f2_ f3_; subst f4_; subst f5_))
      refine hK.out _ _ ⟨((HB.out.cell (World.block_lt_of_cell? w _ hw147_0)).trans hw147_0), ((HB.out.cell (World.block_lt_of_cell? w _ hw148_0)).trans hw148_0)⟩ (fun hHeld => ?_)
      clear hK K
      refine norm_ (a' := ?_) ?_ ?_
      rotate_left
      ·show Act.put _ (some 22) _ = _
       simp only [Act.put, List.setIfInBounds_toArray, List.set_cons_zero, List.set_cons_succ, Zx, ZA]
       rfl
      refine one_ (i := 12) (N := some 23) #[true, true, true, true, true, true, true, true, true, true, true, true, true, false] rfl rfl (one_of HT_.out (by kernel_rfl)) (by decide) (fun K hK => ?_)
      refine Kd.R_append_rows_step (Kd.int .u64) (w0 := w) w.heap.size (by rfl) (.tmp 11) (.tmp 22) 22 46 (.int .u64 0) 8 rfl Try.underlying22 info46 rfl (by decide) (by omega) u3 x3_1 y149 _ _ _ (fun k_ => some k_ ≠ (.slice Ao9 y149.length co9 : Value).ownBlock) (fun _ => False) rfl rfl ?aO ?aR (fun _ _ h => h) (fun _ h => h.elim) ?aF ?aB ?aS ?aL ?_
      (case aR => repeat (first | exact (Kd.Zv HO151.out).2.2 | (with_reducible refine Kd.ZC ?_ _) | (with_reducible refine Kd.ZF ?_ _) | (with_reducible refine Kd.ZN ?_)))
      (case aB => exact (by repeat (with_reducible first | exact HB.out | apply Zc | apply Za | apply Zd)))
      (case aF => exact (fun k_ hk => Kd.fresh' (Kd.R_lt (by (with_reducible repeat first | apply Kd.Zm | apply Kd.Zo); exact HO151.out)) k_ hk))
      (case aO => exact (by (with_reducible repeat first | apply Kd.Zm | apply Kd.Zo); exact Kd.ZE HO_3.out (fun _ hk => hk.2)))
      (case aS => exact (Zi (by repeat (with_reducible first | exact HB.out | apply Zc | apply Za | apply Zd))))
      (case aL => have := LMc4.out; omega)
      intro v153 w8 ho hb hg hat
      rw [← Ny152.out] at ho
      have n0_ := Zb.mk (Kd.R_after (ok := (fun _ => True)) (by (with_reducible repeat first | apply Kd.Zm | apply Kd.Zo); exact HO151.out) hg hat)
      have n1_ := Zb.mk (hb)
      have n2_ := Zb.mk (ho)
      clear HO151
      clear HB
      clear HO_3
      have HO151 := n0_
      have HB := n1_
      have HO154 := n2_
      clear n0_ n1_ n2_
      clear ho hb hg hat
      refine hK.out _ _ ⟨((HB.out.cell (World.block_lt_of_cell? w _ hw147_0)).trans hw147_0), ((HB.out.cell (World.block_lt_of_cell? w _ hw148_0)).trans hw148_0)⟩ (fun hHeld => ?_)
      clear hK K
      refine norm_ (a' := ?_) ?_ ?_
      rotate_left
      ·show Act.put _ (some 23) _ = _
       simp only [Act.put, List.setIfInBounds_toArray, List.set_cons_zero, List.set_cons_succ, Zx, ZA]
       rfl
      refine ZM (i := 13) (N := some 3) (v := ?_) (a' := ?_) #[true, true, true, true, true, true, true, true, true, true, true, true, true, true] rfl rfl (ZD HT_.out (by kernel_rfl)) (fun _ _ _ h => h) (Or.inl ⟨by rfl, ?_⟩) ?_ ?_
      rotate_left
      ·intro w'
       go_simp
       with_reducible rfl
      rotate_left
      ·simp only [Act.put, List.setIfInBounds_toArray, List.set_cons_zero, List.set_cons_succ, Zx, ZA]
       rfl
      refine done_ (done_of HT_.out (by kernel_rfl)) ?_
      try go_wp2
      go_roundg k1
      case measure => have := HK1.out; omega
      case rel => exact ⟨(y152), (wrap64 (x4_1 + 1)), (by first | rfl | (simp; done) | (simp [*]; done)), H', ⟨by have := HK1.out; omega⟩, ⟨by (with_reducible repeat first | apply Kd.Zm | apply Kd.Zo); exact Kd.ZE HO154.out (fun _ hk => trivial)⟩, ⟨by repeat (with_reducible first | exact HB.out | apply Zc | apply Za | apply Zd)⟩⟩
     ·rw [if_neg c4] at H
      exact absurd H (by simp)
    ·rw [if_neg c3] at H
     exact absurd H (by simp)
   ·rw [if_neg c2] at H
    have c2b0 : decide (x4_1 < (l0.length : Int)) = false := decide_eq_false c2
    clear c2
    replace H := Option.bind_eq_some_iff.mp H
    obtain ⟨t155, A100, H⟩ := H
    replace H : (some t155) = some r := H
    have A10 := Zb.mk A100
    clear A100
    obtain rfl := Option.some.inj H
    obtain ⟨Ao11, co11, eo11⟩ := Kd.Zy HO_3.out
    subst eo11
    go_wp2_with (first | ((with_reducible refine Zp (f := 122) rfl ?_); refine ZB (some 25) rfl rfl Try.func122 (by kernel_rfl) rfl #[.slice Ao11 x3_1.length co11] rfl (by (try simp only [List.map_toArray, List.map_cons, List.map_nil]); first | done | rfl | (simp only [List.length_drop, List.length_take]; rfl)) ?_; (with_reducible refine (r00low.calls k1 (fun k_ => some k_ = (.slice Ao11 x3_1.length co11 : Value).ownBlock) (.slice Ao11 x3_1.length co11) x3_1 t155 w _ ?side1 ?side2 A10.out).mono ?_); (case side1 => repeat (with_reducible first | exact HB.out | apply Zc | apply Za | apply Zd)); (case side2 => exact Kd.R_tight rfl HO_3.out); rintro e w12 ⟨v156, rfl, ho0, hb, hkp⟩; refine ⟨_, rfl, ?_⟩; have n0_ := Zb.mk (Kd.ZE (ok' := fun k_ => True) ho0 (fun k_ hk_ => trivial)); have n1_ := Zb.mk (hb); clear HB; clear HO_3; have HO157 := n0_; have HB := n1_; clear n0_ n1_; (try clear hb); (try clear hkp); (try clear ho0)))
    go_ret
    exact ⟨_, by first | rfl | (simp [errW_none, errW_some] <;> rfl) | (simp [*, errW_none, errW_some] <;> rfl), by (with_reducible repeat first | apply Kd.Zm | apply Kd.Zo); exact HO157.out, by repeat (with_reducible first | exact HB.out | apply Zc | apply Za | apply Zd)⟩
def r00limbs.l0 : Nat → List Int → List Int → Int → Option (List Int)
 | 0, _, _, _ => none
 | k + 1, x0, x3, x4 => if x4 < (x0.length : Int) then (if 0 ≤ x4 then (if (wrap64 (x4 + 1)) < (x0.length : Int) then (if 0 ≤ (wrap64 (x4 + 1)) then (if x3.length < 17592186044416 then (r00limbs.l0 k x0 (x3 ++ [IntKind.u64.wrap ((rd x0 x4) + (IntKind.u64.wrap (4294967296 * (rd x0 (wrap64 (x4 + 1))))))]) (wrap64 (x4 + 2))) else (none)) else (none)) else (if x3.length < 17592186044416 then (r00limbs.l0 k x0 (x3 ++ [rd x0 x4]) (wrap64 (x4 + 2))) else (none))) else (none)) else ((r00NatTrim.f k x3).bind fun t166 => (some t166))
def r00limbs.f (k : Nat) (l0 : List Int) : Option (List Int) := r00limbs.l0 k l0 ([] : List Int) 0
theorem r00limbs.mono_l : ∀ k, (∀ y0 y1 y2, LeO (r00limbs.l0 k y0 y1 y2) (r00limbs.l0 (k + 1) y0 y1 y2))
 | 0 => fun _ _ _ r h => by simp [r00limbs.l0] at h
 | k + 1 => by
  have ih0 := r00limbs.mono_l k
  ·intro y0 y1 y2
   unfold r00limbs.l0
   repeat' first
   | (with_reducible exact ih0 _ _ _)
   | (with_reducible exact r00NatTrim.mono _ _)
   | (with_reducible exact LeO.refl _)
   | (with_reducible exact LeO.none _)
   | (with_reducible refine LeO.ite ?_ ?_)
   | (with_reducible refine LeO.bind ?_ (fun _ => ?_))
   | exact ih0 _ _ _
   | exact r00NatTrim.mono _ _
   | exact LeO.none _
   | refine LeO.ite ?_ ?_
   | refine LeO.bind ?_ (fun _ => ?_)
theorem r00limbs.mono : ∀ a0 k, LeO (r00limbs.f k a0) (r00limbs.f (k + 1) a0) := by
 intro a0 k
 have ih0 := r00limbs.mono_l k
 unfold r00limbs.f
 repeat' first
   | (with_reducible exact ih0 _ _ _)
   | (with_reducible exact r00NatTrim.mono _ _)
   | (with_reducible exact LeO.refl _)
   | (with_reducible exact LeO.none _)
   | (with_reducible refine LeO.ite ?_ ?_)
   | (with_reducible refine LeO.bind ?_ (fun _ => ?_))
   | exact ih0 _ _ _
   | exact r00NatTrim.mono _ _
   | exact LeO.none _
   | refine LeO.ite ?_ ?_
   | refine LeO.bind ?_ (fun _ => ?_)
set_option maxHeartbeats 8000000 in
set_option maxRecDepth 100000 in
theorem r00limbs.calls (k : Nat) (A0 : Option Addr) (c0 : Nat) (l0 : List Int) (r : List Int) (w : World) (hr0 : Kd.C (Kd.int .u64) w A0 l0.length l0) (hc0 : l0.length ≤ c0) (h : r00limbs.f k l0 = some r) :
  Calls Try.prog 92 #[.slice A0 l0.length c0] w fun e w' => ∃ v0_ : Value, e = .returned (v0_) ∧ Kd.R (Kd.int .u64) 46 w' w.heap.size (fun _ => True) v0_ r ∧ Below w.heap.size w w' := by
 have HR0 := Zb.mk hr0
 have HC0 := Zb.mk hc0
 clear hr0 hc0
 have HB := Zb.mk (Below.refl w.heap.size w)
 have H : (r00limbs.l0 k l0 ([] : List Int) 0) = some r := h
 clear h
 have H' := Zb.mk H
 clear H
 go_enter Try.func92, Try.ntmps92
 go_wp2
 go_loopg [3, 4] k (fun kq v3 v4 w' => ∃ (x3_1 : List Int) (x4_1 : Int), v4 = .int .i64 x4_1 ∧ Zb (r00limbs.l0 kq l0 x3_1 x4_1 = some r) ∧ Zb (kq ≤ k) ∧ Zb (Kd.R (Kd.int .u64) 46 w' w.heap.size (fun _ => True) v3 x3_1) ∧ Zb (Below w.heap.size w w'))
 case atStart => exact ⟨(([] : List Int)), (0), (by first | rfl | (simp; done) | (simp [*]; done)), H', ⟨Nat.le_refl _⟩, ⟨by first | exact Kd.R_nil _ _ _ _ _ | exact Kd.V_nil _ _ _ _ _ | exact Kd.S_nil _ _ _ _ _⟩, ⟨by repeat (with_reducible first | exact HB.out | apply Zc | apply Za | apply Zd)⟩⟩
 case round =>
  clear H'
  obtain ⟨x3_1, x4_1, rfl, HA, HK1, HO_3, HB⟩ := hrel
  cases gk with
  | zero => exact absurd HA.out (by simp [r00limbs.l0])
  | succ k1 =>
   have H := HA.out
   clear HA
   simp only [r00limbs.l0] at H
   by_cases c2 : x4_1 < (l0.length : Int)
   ·rw [if_pos c2] at H
    have c2b0 : decide (x4_1 < (l0.length : Int)) = true := decide_eq_true c2
    clear c2
    by_cases c3 : 0 ≤ x4_1
    ·rw [if_pos c3] at H
     have c3b0 : decide (0 ≤ x4_1) = true := decide_eq_true c3
     clear c3
     by_cases c4 : (wrap64 (x4_1 + 1)) < (l0.length : Int)
     ·rw [if_pos c4] at H
      have c4b0 : decide ((wrap64 (x4_1 + 1)) < (l0.length : Int)) = true := decide_eq_true c4
      clear c4
      obtain ⟨ji5, hji5⟩ : ∃ j_ : Int, (wrap64 (x4_1 + 1)) = j_ := ⟨_, rfl⟩
      replace H : (if 0 ≤ (ji5) then (if x3_1.length < 17592186044416 then (r00limbs.l0 k1 l0 (x3_1 ++ [IntKind.u64.wrap ((rd l0 x4_1) + (IntKind.u64.wrap (4294967296 * (rd l0 (ji5)))))]) (wrap64 (x4_1 + 2))) else (none)) else (none)) = some r := by first | (rw [hji5] at H; exact H) | (simp only [hji5] at H ⊢; exact H)
      (try rw [hji5] at c4b0)
      have hji5w : (IntKind.i64.wrap (x4_1 + 1)) = ji5 := (Zx _).trans hji5
      by_cases c6 : 0 ≤ (ji5)
      ·rw [if_pos c6] at H
       have c6b0 : decide (0 ≤ (ji5)) = true := decide_eq_true c6
       clear c6
       by_cases c7 : x3_1.length < 17592186044416
       ·rw [if_pos c7] at H
        have LMc7 := Zb.mk c7
        clear c7
        obtain ⟨y160, hy160⟩ : ∃ y_ : List Int, y_ = (x3_1 ++ [IntKind.u64.wrap ((rd l0 x4_1) + (IntKind.u64.wrap (4294967296 * (rd l0 (ji5)))))]) := ⟨_, rfl⟩
        replace H : (r00limbs.l0 k1 l0 y160 (wrap64 (x4_1 + 2))) = some r := by first | (rw [hy160]; with_reducible exact H) | (have H2_ := (Option.bind_some _ _).symm.trans H; rw [hy160]; with_reducible exact H2_) | (have H2_ := (Option.bind_some _ _).symm.trans H; with_reducible exact H2_) | with_reducible exact H | (rw [hy160]; exact H) | exact H
        have Ny160 := Zb.mk hy160
        clear hy160
        have H' := Zb.mk H
        clear H
        have p158 : 0 ≤ (x4_1 : Int) := of_decide_eq_true (by first | (with_reducible assumption) | assumption)
        have q158 : x4_1 < (l0.length : Int) := of_decide_eq_true (by first | (with_reducible assumption) | assumption)
        obtain ⟨ad158, e158, hx158_0⟩ := Kd.at_int HR0.out x4_1 p158 q158
        cases e158
        replace hx158_0 := (HB.out.cell (World.block_lt_of_cell? w _ hx158_0)).trans hx158_0
        replace p158 := eq_true p158
        replace q158 := eq_true q158
        have p159 : 0 ≤ ((ji5) : Int) := of_decide_eq_true (by first | (with_reducible assumption) | assumption)
        have q159 : (ji5) < (l0.length : Int) := of_decide_eq_true (by first | (with_reducible assumption) | assumption)
        obtain ⟨ad159, e159, hx159_0⟩ := Kd.at_int HR0.out (ji5) p159 q159
        obtain rfl : ad158 = ad159 := (by injection e159)
        replace hx159_0 := (HB.out.cell (World.block_lt_of_cell? w _ hx159_0)).trans hx159_0
        replace p159 := eq_true p159
        replace q159 := eq_true q159
        go_wp2_with (first | ((with_reducible refine gate_builtin (b := .append) (xs := #[.tmp 29, .tmp 31]) rfl ?_); at_builtin; refine Kd.R_append (Kd.int .u64) (w0 := w) w.heap.size rfl (.tmp 29) (.tmp 31) 22 46 (.int .u64 0) 8 rfl Try.underlying22 info46 rfl (by decide) (by omega) u3 x3_1 (IntKind.u64.wrap ((rd l0 x4_1) + (IntKind.u64.wrap (4294967296 * (rd l0 (ji5)))))) [.int .u64 (IntKind.u64.wrap ((rd l0 x4_1) + (IntKind.u64.wrap (4294967296 * (rd l0 (ji5))))))] (fun _ => True) (fun _ => False) rfl rfl ?aP (fun _ hk => hk.elim) ?aF ?aO ?aB ?aS ?aL ?_; (case aP => exact rfl); (case aB => exact (by repeat (with_reducible first | exact HB.out | apply Zc | apply Za | apply Zd))); (case aF => exact (fun _ _ => trivial)); (case aO => exact (by (with_reducible repeat first | apply Kd.Zm | apply Kd.Zo); exact HO_3.out)); (case aS => exact (Zi (by repeat (with_reducible first | exact HB.out | apply Zc | apply Za | apply Zd)))); (case aL => have := LMc7.out; omega); intro v161 w8 ho hb hg hat; rw [← Ny160.out] at ho; have n0_ := Zb.mk (hb); have n1_ := Zb.mk (ho); clear HB; clear HO_3; have HB := n0_; have HO162 := n1_; clear n0_ n1_; clear ho hb hg hat))
        go_roundg k1
        case measure => have := HK1.out; omega
        case rel => exact ⟨(y160), (wrap64 (x4_1 + 2)), (by first | rfl | (simp; done) | (simp [*]; done)), H', ⟨by have := HK1.out; omega⟩, ⟨by (with_reducible repeat first | apply Kd.Zm | apply Kd.Zo); exact HO162.out⟩, ⟨by repeat (with_reducible first | exact HB.out | apply Zc | apply Za | apply Zd)⟩⟩
       ·rw [if_neg c7] at H
        exact absurd H (by simp)
      ·rw [if_neg c6] at H
       exact absurd H (by simp)
     ·rw [if_neg c4] at H
      have c4b0 : decide ((wrap64 (x4_1 + 1)) < (l0.length : Int)) = false := decide_eq_false c4
      clear c4
      by_cases c9 : x3_1.length < 17592186044416
      ·rw [if_pos c9] at H
       have LMc9 := Zb.mk c9
       clear c9
       obtain ⟨y163, hy163⟩ : ∃ y_ : List Int, y_ = (x3_1 ++ [rd l0 x4_1]) := ⟨_, rfl⟩
       replace H : (r00limbs.l0 k1 l0 y163 (wrap64 (x4_1 + 2))) = some r := by first | (rw [hy163]; with_reducible exact H) | (have H2_ := (Option.bind_some _ _).symm.trans H; rw [hy163]; with_reducible exact H2_) | (have H2_ := (Option.bind_some _ _).symm.trans H; with_reducible exact H2_) | with_reducible exact H | (rw [hy163]; exact H) | exact H
       have Ny163 := Zb.mk hy163
       clear hy163
       have H' := Zb.mk H
       clear H
       have p158 : 0 ≤ (x4_1 : Int) := of_decide_eq_true (by first | (with_reducible assumption) | assumption)
       have q158 : x4_1 < (l0.length : Int) := of_decide_eq_true (by first | (with_reducible assumption) | assumption)
       obtain ⟨ad158, e158, hx158_0⟩ := Kd.at_int HR0.out x4_1 p158 q158
       cases e158
       replace hx158_0 := (HB.out.cell (World.block_lt_of_cell? w _ hx158_0)).trans hx158_0
       replace p158 := eq_true p158
       replace q158 := eq_true q158
       go_wp2_with (first | ((with_reducible refine gate_builtin (b := .append) (xs := #[.tmp 29, .tmp 31]) rfl ?_); at_builtin; refine Kd.R_append (Kd.int .u64) (w0 := w) w.heap.size rfl (.tmp 29) (.tmp 31) 22 46 (.int .u64 0) 8 rfl Try.underlying22 info46 rfl (by decide) (by omega) u3 x3_1 (rd l0 x4_1) [.int .u64 (rd l0 x4_1)] (fun _ => True) (fun _ => False) rfl rfl ?aP (fun _ hk => hk.elim) ?aF ?aO ?aB ?aS ?aL ?_; (case aP => exact rfl); (case aB => exact (by repeat (with_reducible first | exact HB.out | apply Zc | apply Za | apply Zd))); (case aF => exact (fun _ _ => trivial)); (case aO => exact (by (with_reducible repeat first | apply Kd.Zm | apply Kd.Zo); exact HO_3.out)); (case aS => exact (Zi (by repeat (with_reducible first | exact HB.out | apply Zc | apply Za | apply Zd)))); (case aL => have := LMc9.out; omega); intro v164 w10 ho hb hg hat; rw [← Ny163.out] at ho; have n0_ := Zb.mk (hb); have n1_ := Zb.mk (ho); clear HB; clear HO_3; have HB := n0_; have HO165 := n1_; clear n0_ n1_; clear ho hb hg hat))
       go_roundg k1
       case measure => have := HK1.out; omega
       case rel => exact ⟨(y163), (wrap64 (x4_1 + 2)), (by first | rfl | (simp; done) | (simp [*]; done)), H', ⟨by have := HK1.out; omega⟩, ⟨by (with_reducible repeat first | apply Kd.Zm | apply Kd.Zo); exact HO165.out⟩, ⟨by repeat (with_reducible first | exact HB.out | apply Zc | apply Za | apply Zd)⟩⟩
      ·rw [if_neg c9] at H
       exact absurd H (by simp)
    ·rw [if_neg c3] at H
     exact absurd H (by simp)
   ·rw [if_neg c2] at H
    have c2b0 : decide (x4_1 < (l0.length : Int)) = false := decide_eq_false c2
    clear c2
    replace H := Option.bind_eq_some_iff.mp H
    obtain ⟨t166, A110, H⟩ := H
    replace H : (some t166) = some r := H
    have A11 := Zb.mk A110
    clear A110
    obtain rfl := Option.some.inj H
    obtain ⟨Ao12, co12, eo12⟩ := Kd.Zy HO_3.out
    subst eo12
    go_wp2_with (first | ((with_reducible refine Zp (f := 53) rfl ?_); refine ZB (some 34) rfl rfl Try.func53 (by kernel_rfl) rfl #[.slice Ao12 x3_1.length co12] rfl (by (try simp only [List.map_toArray, List.map_cons, List.map_nil]); first | done | rfl | (simp only [List.length_drop, List.length_take]; rfl)) ?_; (with_reducible refine (r00NatTrim.calls k1 _ _ x3_1 t166 _ ?side1 ?side2 A11.out).mono ?_); (case side1 => repeat (first | exact (Kd.Zv HO_3.out).2.2 | (with_reducible refine Kd.ZC ?_ _) | (with_reducible refine Kd.ZF ?_ _) | (with_reducible refine Kd.ZN ?_))); (case side2 => exact (Kd.Zv HO_3.out).2.1); rintro e w13 ⟨v167, rfl, ho0, hb⟩; refine ⟨_, rfl, ?_⟩; have n0_ := Zb.mk (Kd.ZJ (by (with_reducible repeat first | apply Kd.Zm | apply Kd.Zo); exact HO_3.out) (Kd.ZV ho0) hb); have n1_ := Zb.mk (Kd.ZG (Kd.R_new' ho0 (Kd.R_lt (by (with_reducible repeat first | apply Kd.Zm | apply Kd.Zo); exact HO_3.out))) (Zi (by repeat (with_reducible first | exact HB.out | apply Zc | apply Za | apply Zd)))); have n2_ := Zb.mk (Zl (by repeat (with_reducible first | exact HB.out | apply Zc | apply Za | apply Zd)) hb); clear HO_3; clear HB; have HO_3 := n0_; have HO168 := n1_; have HB := n2_; clear n0_ n1_ n2_; (try clear hb); (try clear hb2); (try clear hk); (try clear hi); (try clear ho0)))
    go_ret
    exact ⟨_, by first | rfl | (simp [errW_none, errW_some] <;> rfl) | (simp [*, errW_none, errW_some] <;> rfl), by (with_reducible repeat first | apply Kd.Zm | apply Kd.Zo); exact Kd.ZE HO168.out (fun _ hk => trivial), by repeat (with_reducible first | exact HB.out | apply Zc | apply Za | apply Zd)⟩
mutual
def r00NatUp.l0 : Nat → Int → List Int → List Int → Int → Int → Int → Option (List Int)
 | 0, _, _, _, _, _, _ => none
 | k + 1, x1, x5, x6, x7, x8, x9 => if x9 < (Int.tmod x1 32) then (r00NatUp.l0 k x1 x5 x6 x7 (IntKind.u64.wrap (2 * x8)) (wrap64 (x9 + 1))) else (r00NatUp.l1 k x5 x6 x7 x8 0)
def r00NatUp.l1 : Nat → List Int → List Int → Int → Int → Int → Option (List Int)
 | 0, _, _, _, _, _ => none
 | k + 1, x5, x6, x7, x8, x10 => if x10 < (x5.length : Int) then (if 0 ≤ x10 then (if x6.length < 17592186044416 then (r00NatUp.l1 k x5 (x6 ++ [Int.tmod (IntKind.u64.wrap ((IntKind.u64.wrap ((rd x5 x10) * x8)) + x7)) 4294967296]) (IntKind.u64.wrap (Int.tdiv (IntKind.u64.wrap ((IntKind.u64.wrap ((rd x5 x10) * x8)) + x7)) 4294967296)) x8 (wrap64 (x10 + 1))) else (none)) else (none)) else (if x6.length < 17592186044416 then ((r00limbs.f k (x6 ++ [x7])).bind fun t182 => (some t182)) else (none))
end
def r00NatUp.f (k : Nat) (l0 : List Int) (a1 : Int) : Option (List Int) := (r00halves.f k l0).bind fun t169 => (if (t169.length : Int) = 0 then (some ([] : List Int)) else (if 0 ≤ (wrap64 (Int.tdiv a1 32)) then (if (wrap64 (Int.tdiv a1 32) : Int).toNat ≤ 35184372088832 then (r00NatUp.l0 k a1 t169 (List.replicate (wrap64 (Int.tdiv a1 32) : Int).toNat 0) 0 1 0) else (none)) else (none)))
theorem r00NatUp.mono_l : ∀ k, (∀ y0 y1 y2 y3 y4 y5, LeO (r00NatUp.l0 k y0 y1 y2 y3 y4 y5) (r00NatUp.l0 (k + 1) y0 y1 y2 y3 y4 y5)) ∧ (∀ y0 y1 y2 y3 y4, LeO (r00NatUp.l1 k y0 y1 y2 y3 y4) (r00NatUp.l1 (k + 1) y0 y1 y2 y3 y4))
 | 0 => ⟨fun _ _ _ _ _ _ r h => by simp [r00NatUp.l0] at h, fun _ _ _ _ _ r h => by simp [r00NatUp.l1] at h⟩
 | k + 1 => by
  obtain ⟨ih0, ih1⟩ := r00NatUp.mono_l k
  refine ⟨?_, ?_⟩
  ·intro y0 y1 y2 y3 y4 y5
   unfold r00NatUp.l0
   repeat' first
   | (with_reducible exact ih0 _ _ _ _ _ _)
   | (with_reducible exact ih1 _ _ _ _ _)
   | (with_reducible exact r00halves.mono _ _)
   | (with_reducible exact r00limbs.mono _ _)
   | (with_reducible exact LeO.refl _)
   | (with_reducible exact LeO.none _)
   | (with_reducible refine LeO.ite ?_ ?_)
   | (with_reducible refine LeO.bind ?_ (fun _ => ?_))
   | exact ih0 _ _ _ _ _ _
   | exact ih1 _ _ _ _ _
   | exact r00halves.mono _ _
   | exact r00limbs.mono _ _
   | exact LeO.none _
   | refine LeO.ite ?_ ?_
   | refine LeO.bind ?_ (fun _ => ?_)
  ·intro y0 y1 y2 y3 y4
   unfold r00NatUp.l1
   repeat' first
   | (with_reducible exact ih0 _ _ _ _ _ _)
   | (with_reducible exact ih1 _ _ _ _ _)
   | (with_reducible exact r00halves.mono _ _)
   | (with_reducible exact r00limbs.mono _ _)
   | (with_reducible exact LeO.refl _)
   | (with_reducible exact LeO.none _)
   | (with_reducible refine LeO.ite ?_ ?_)
   | (with_reducible refine LeO.bind ?_ (fun _ => ?_))
   | exact ih0 _ _ _ _ _ _
   | exact ih1 _ _ _ _ _
   | exact r00halves.mono _ _
   | exact r00limbs.mono _ _
   | exact LeO.none _
   | refine LeO.ite ?_ ?_
   | refine LeO.bind ?_ (fun _ => ?_)
theorem r00NatUp.mono : ∀ a0 a1 k, LeO (r00NatUp.f k a0 a1) (r00NatUp.f (k + 1) a0 a1) := by
 intro a0 a1 k
 obtain ⟨ih0, ih1⟩ := r00NatUp.mono_l k
 unfold r00NatUp.f
 repeat' first
   | (with_reducible exact ih0 _ _ _ _ _ _)
   | (with_reducible exact ih1 _ _ _ _ _)
   | (with_reducible exact r00halves.mono _ _)
   | (with_reducible exact r00limbs.mono _ _)
   | (with_reducible exact LeO.refl _)
   | (with_reducible exact LeO.none _)
   | (with_reducible refine LeO.ite ?_ ?_)
   | (with_reducible refine LeO.bind ?_ (fun _ => ?_))
   | exact ih0 _ _ _ _ _ _
   | exact ih1 _ _ _ _ _
   | exact r00halves.mono _ _
   | exact r00limbs.mono _ _
   | exact LeO.none _
   | refine LeO.ite ?_ ?_
   | refine LeO.bind ?_ (fun _ => ?_)
set_option maxHeartbeats 8000000 in
set_option maxRecDepth 100000 in
theorem r00NatUp.calls (k : Nat) (A0 : Option Addr) (c0 : Nat) (l0 : List Int) (a1 : Int) (r : List Int) (w : World) (hr0 : Kd.C (Kd.int .u64) w A0 l0.length l0) (hc0 : l0.length ≤ c0) (h : r00NatUp.f k l0 a1 = some r) :
  Calls Try.prog 55 #[.slice A0 l0.length c0, .int .i64 a1] w fun e w' => ∃ v0_ : Value, e = .returned (v0_) ∧ Kd.R (Kd.int .u64) 46 w' w.heap.size (fun _ => True) v0_ r ∧ Below w.heap.size w w' := by
 have HR0 := Zb.mk hr0
 have HC0 := Zb.mk hc0
 clear hr0 hc0
 have HB := Zb.mk (Below.refl w.heap.size w)
 have H : ((r00halves.f k l0).bind fun t169 => (if (t169.length : Int) = 0 then (some ([] : List Int)) else (if 0 ≤ (wrap64 (Int.tdiv a1 32)) then (if (wrap64 (Int.tdiv a1 32) : Int).toNat ≤ 35184372088832 then (r00NatUp.l0 k a1 t169 (List.replicate (wrap64 (Int.tdiv a1 32) : Int).toNat 0) 0 1 0) else (none)) else (none)))) = some r := h
 clear h
 replace H := Option.bind_eq_some_iff.mp H
 obtain ⟨t169, A30, H⟩ := H
 replace H : (if (t169.length : Int) = 0 then (some ([] : List Int)) else (if 0 ≤ (wrap64 (Int.tdiv a1 32)) then (if (wrap64 (Int.tdiv a1 32) : Int).toNat ≤ 35184372088832 then (r00NatUp.l0 k a1 t169 (List.replicate (wrap64 (Int.tdiv a1 32) : Int).toNat 0) 0 1 0) else (none)) else (none))) = some r := H
 have A3 := Zb.mk A30
 clear A30
 by_cases c4 : (t169.length : Int) = 0
 ·rw [if_pos c4] at H
  have c4b0 : ((t169.length : Int) == 0) = true := beq_iff_eq.mpr c4
  have c4b1 : ((t169.length : Int) != 0) = false := bne_eq_false_iff_eq.mpr c4
  clear c4
  obtain rfl := Option.some.inj H
  go_enter Try.func55, Try.ntmps55
  go_wp2_with (first | ((with_reducible refine Zp (f := 91) rfl ?_); refine ZB (some 13) rfl rfl Try.func91 (by kernel_rfl) rfl #[.slice A0 l0.length c0] rfl (by (try simp only [List.map_toArray, List.map_cons, List.map_nil]); first | done | rfl | (simp only [List.length_drop, List.length_take]; rfl)) ?_; (with_reducible refine (r00halves.calls k _ _ l0 t169 _ ?side1 ?side2 A3.out).mono ?_); (case side1 => repeat (first | exact HR0.out | (with_reducible refine Kd.ZC ?_ _) | (with_reducible refine Kd.ZF ?_ _) | (with_reducible refine Kd.ZN ?_))); (case side2 => exact HC0.out); rintro e w5 ⟨v170, rfl, ho0, hb⟩; refine ⟨_, rfl, ?_⟩; have n0_ := Zb.mk (Kd.ZG ho0 (Zi (by repeat (with_reducible first | exact HB.out | apply Zc | apply Za | apply Zd)))); have n1_ := Zb.mk (Zl (by repeat (with_reducible first | exact HB.out | apply Zc | apply Za | apply Zd)) hb); clear HB; have HO171 := n0_; have HB := n1_; clear n0_ n1_; (try clear hb); (try clear hb2); (try clear hk); (try clear hi); (try clear ho0); obtain ⟨Ao6, co6, eo6⟩ := Kd.Zy HO171.out; subst eo6))
  go_ret
  exact ⟨_, by first | rfl | (simp [errW_none, errW_some] <;> rfl) | (simp [*, errW_none, errW_some] <;> rfl), by first | exact Kd.R_nil _ _ _ _ _ | exact Kd.V_nil _ _ _ _ _ | exact Kd.S_nil _ _ _ _ _, by repeat (with_reducible first | exact HB.out | apply Zc | apply Za | apply Zd)⟩
 ·rw [if_neg c4] at H
  have c4b0 : ((t169.length : Int) == 0) = false := beq_eq_false_iff_ne.mpr c4
  have c4b1 : ((t169.length : Int) != 0) = true := bne_iff_ne.mpr c4
  have c4b2 : ¬ (t169 = []) := fun h_ => c4 (by rw [h_]; rfl)
  obtain ⟨ji7, hji7⟩ : ∃ j_ : Int, (wrap64 (Int.tdiv a1 32)) = j_ := ⟨_, rfl⟩
  replace H : (if 0 ≤ (ji7) then (if (ji7 : Int).toNat ≤ 35184372088832 then (r00NatUp.l0 k a1 t169 (List.replicate (ji7 : Int).toNat 0) 0 1 0) else (none)) else (none)) = some r := by first | (rw [hji7] at H; exact H) | (simp only [hji7] at H ⊢; exact H)
  (try rw [hji7] at A3)
  have hji7w : (IntKind.i64.wrap (Int.tdiv a1 32)) = ji7 := (Zx _).trans hji7
  by_cases c8 : 0 ≤ (ji7)
  ·rw [if_pos c8] at H
   have c8b0 := eq_true c8
   have c8b1 : decide (0 ≤ (ji7)) = true := decide_eq_true c8
   clear c8
   by_cases c9 : (ji7 : Int).toNat ≤ 35184372088832
   ·rw [if_pos c9] at H
    have c9b0 := eq_true c9
    have c9b1 : decide ((ji7 : Int).toNat ≤ 35184372088832) = true := decide_eq_true c9
    clear c9
    obtain ⟨y172, hy172⟩ : ∃ y_ : List Int, y_ = (List.replicate (ji7 : Int).toNat 0) := ⟨_, rfl⟩
    replace H : (r00NatUp.l0 k a1 t169 y172 0 1 0) = some r := by first | (rw [hy172]; with_reducible exact H) | (have H2_ := (Option.bind_some _ _).symm.trans H; rw [hy172]; with_reducible exact H2_) | (have H2_ := (Option.bind_some _ _).symm.trans H; with_reducible exact H2_) | with_reducible exact H | (rw [hy172]; exact H) | exact H
    have Ny172 := Zb.mk hy172
    clear hy172
    have H' := Zb.mk H
    clear H
    go_enter Try.func55, Try.ntmps55
    go_wp2_with (first | ((with_reducible refine Zp (f := 91) rfl ?_); refine ZB (some 13) rfl rfl Try.func91 (by kernel_rfl) rfl #[.slice A0 l0.length c0] rfl (by (try simp only [List.map_toArray, List.map_cons, List.map_nil]); first | done | rfl | (simp only [List.length_drop, List.length_take]; rfl)) ?_; (with_reducible refine (r00halves.calls k _ _ l0 t169 _ ?side1 ?side2 A3.out).mono ?_); (case side1 => repeat (first | exact HR0.out | (with_reducible refine Kd.ZC ?_ _) | (with_reducible refine Kd.ZF ?_ _) | (with_reducible refine Kd.ZN ?_))); (case side2 => exact HC0.out); rintro e w10 ⟨v170, rfl, ho0, hb⟩; refine ⟨_, rfl, ?_⟩; have n0_ := Zb.mk (Kd.ZG ho0 (Zi (by repeat (with_reducible first | exact HB.out | apply Zc | apply Za | apply Zd)))); have n1_ := Zb.mk (Zl (by repeat (with_reducible first | exact HB.out | apply Zc | apply Za | apply Zd)) hb); clear HB; have HO171 := n0_; have HB := n1_; clear n0_ n1_; (try clear hb); (try clear hb2); (try clear hk); (try clear hi); (try clear ho0); obtain ⟨Ao11, co11, eo11⟩ := Kd.Zy HO171.out; subst eo11) | ((with_reducible refine Zt (N := 19) rfl ?_); refine Kd.R_make (Kd.int .u64) _ 46 rfl (N := 19) rfl 22 _ _ rfl ji7 rfl rfl Try.underlying22 (.int .u64 0) 8 info46 rfl (by decide) (by omega) 0 (ok := fun _ => True) (okp := fun _ => True) rfl (fun _ hk => hk) trivial (of_decide_eq_true (by first | (with_reducible assumption) | assumption)) (Nat.le_trans (Nat.mul_le_mul_right _ (of_decide_eq_true (by first | (with_reducible assumption) | assumption) : ji7.toNat ≤ 35184372088832)) (by omega)) (Below.refl _ _) (Nat.le_refl _) ?_; intro v173 w12 ho13 hb hg_ hnew_; clear hg_ hnew_; (first | rw [← Ny172.out] at ho13 | (simp only [Int.reduceToNat] at ho13; rw [← Ny172.out] at ho13)); have n0_ := Zb.mk (Kd.ZJ (by (with_reducible repeat first | apply Kd.Zm | apply Kd.Zo); exact HO171.out) (Kd.ZV ho13) hb); have n1_ := Zb.mk (Kd.ZG (Kd.R_new' ho13 (Kd.R_lt (by (with_reducible repeat first | apply Kd.Zm | apply Kd.Zo); exact HO171.out))) (Zi (by repeat (with_reducible first | exact HB.out | apply Zc | apply Za | apply Zd)))); have n2_ := Zb.mk (Zl (by repeat (with_reducible first | exact HB.out | apply Zc | apply Za | apply Zd)) hb); clear HO171; clear HB; have HO171 := n0_; have HO174 := n1_; have HB := n2_; clear n0_ n1_ n2_; clear hb ho13))
    go_loopg [8, 9] k (fun kq v8 v9 w' => ∃ (x8_1 : Int) (x9_1 : Int), v8 = .int .u64 x8_1 ∧ v9 = .int .i64 x9_1 ∧ Zb (r00NatUp.l0 kq a1 t169 y172 0 x8_1 x9_1 = some r) ∧ Zb (kq ≤ k) ∧ Zb (Kd.R (Kd.int .u64) 46 w' w.heap.size (fun k_ => some k_ ≠ (v173 : Value).ownBlock) (.slice Ao11 t169.length co11) t169) ∧ Zb (Kd.R (Kd.int .u64) 46 w' w.heap.size (fun k_ => some k_ ≠ ((.slice Ao11 t169.length co11) : Value).ownBlock) v173 y172) ∧ Zb (Below w.heap.size w w'))
    case atStart => exact ⟨(1), (0), (by first | rfl | (simp; done) | (simp [*]; done)), (by first | rfl | (simp; done) | (simp [*]; done)), H', ⟨Nat.le_refl _⟩, ⟨by (with_reducible repeat first | apply Kd.Zm | apply Kd.Zo); exact Kd.ZE HO171.out (fun _ hk => hk.2)⟩, ⟨by (with_reducible repeat first | apply Kd.Zm | apply Kd.Zo); exact Kd.ZE HO174.out (fun _ hk => hk.2)⟩, ⟨by repeat (with_reducible first | exact HB.out | apply Zc | apply Za | apply Zd)⟩⟩
    case round =>
     clear H'
     try clear p2
     try clear c4
     try clear c4b0
     try clear c4b1
     try clear c4b2
     try clear c5
     try clear p6
     try clear c8
     try clear c8b0
     try clear c8b1
     try clear c9
     try clear c9b0
     try clear c9b1
     obtain ⟨x8_1, x9_1, rfl, rfl, HA, HK1, HO_5, HO_6, HB⟩ := hrel
     cases gk with
     | zero => exact absurd HA.out (by simp [r00NatUp.l0])
     | succ k1 =>
      have H := HA.out
      clear HA
      simp only [r00NatUp.l0] at H
      by_cases c14 : x9_1 < (Int.tmod a1 32)
      ·rw [if_pos c14] at H
       have c14b0 : decide (x9_1 < (Int.tmod a1 32)) = true := decide_eq_true c14
       clear c14
       have H' := Zb.mk H
       clear H
       go_wp2
       go_roundg k1
       case measure => have := HK1.out; omega
       case rel => exact ⟨(IntKind.u64.wrap (2 * x8_1)), (wrap64 (x9_1 + 1)), (by first | rfl | (simp; done) | (simp [*]; done)), (by first | rfl | (simp; done) | (simp [*]; done)), H', ⟨by have := HK1.out; omega⟩, ⟨by (with_reducible repeat first | apply Kd.Zm | apply Kd.Zo); exact HO_5.out⟩, ⟨by (with_reducible repeat first | apply Kd.Zm | apply Kd.Zo); exact HO_6.out⟩, ⟨by repeat (with_reducible first | exact HB.out | apply Zc | apply Za | apply Zd)⟩⟩
      ·rw [if_neg c14] at H
       have c14b0 : decide (x9_1 < (Int.tmod a1 32)) = false := decide_eq_false c14
       clear c14
       have H' := Zb.mk H
       clear H
       go_wp2
       go_loopg [6, 7, 10] k1 (fun kq v6 v7 v10 w' => ∃ (x6_2 : List Int) (x7_2 : Int) (x10_2 : Int), v7 = .int .u64 x7_2 ∧ v10 = .int .i64 x10_2 ∧ Zb (r00NatUp.l1 kq t169 x6_2 x7_2 x8_1 x10_2 = some r) ∧ Zb (kq ≤ k1) ∧ Zb (Kd.R (Kd.int .u64) 46 w' w.heap.size (fun k_ => some k_ ≠ (v6 : Value).ownBlock) (.slice Ao11 t169.length co11) t169) ∧ Zb (Kd.R (Kd.int .u64) 46 w' w.heap.size (fun k_ => some k_ ≠ ((.slice Ao11 t169.length co11) : Value).ownBlock) v6 x6_2) ∧ Zb (Below w.heap.size w w'))
       case atStart => exact ⟨(y172), (0), (0), (by first | rfl | (simp; done) | (simp [*]; done)), (by first | rfl | (simp; done) | (simp [*]; done)), H', ⟨Nat.le_refl _⟩, ⟨by (with_reducible repeat first | apply Kd.Zm | apply Kd.Zo); exact HO_5.out⟩, ⟨by (with_reducible repeat first | apply Kd.Zm | apply Kd.Zo); exact HO_6.out⟩, ⟨by repeat (with_reducible first | exact HB.out | apply Zc | apply Za | apply Zd)⟩⟩
       case round =>
        clear H'
        try clear c1
        try clear p2
        try clear c4
        try clear c4b0
        try clear c4b1
        try clear c4b2
        try clear c5
        try clear p6
        try clear c8
        try clear c8b0
        try clear c8b1
        try clear c9
        try clear c9b0
        try clear c9b1
        try clear c14
        try clear c14b0
        try clear p2
        try clear p6
        obtain ⟨x6_2, x7_2, x10_2, rfl, rfl, HA, HK2, HO_5, HO_6, HB⟩ := hrel
        cases gk with
        | zero => exact absurd HA.out (by simp [r00NatUp.l1])
        | succ k2 =>
         have H := HA.out
         clear HA
         simp only [r00NatUp.l1] at H
         by_cases c15 : x10_2 < (t169.length : Int)
         ·rw [if_pos c15] at H
          have c15b0 : decide (x10_2 < (t169.length : Int)) = true := decide_eq_true c15
          clear c15
          by_cases c16 : 0 ≤ x10_2
          ·rw [if_pos c16] at H
           have c16b0 : decide (0 ≤ x10_2) = true := decide_eq_true c16
           clear c16
           by_cases c17 : x6_2.length < 17592186044416
           ·rw [if_pos c17] at H
            have LMc17 := Zb.mk c17
            clear c17
            obtain ⟨y176, hy176⟩ : ∃ y_ : List Int, y_ = (x6_2 ++ [Int.tmod (IntKind.u64.wrap ((IntKind.u64.wrap ((rd t169 x10_2) * x8_1)) + x7_2)) 4294967296]) := ⟨_, rfl⟩
            replace H : (r00NatUp.l1 k2 t169 y176 (IntKind.u64.wrap (Int.tdiv (IntKind.u64.wrap ((IntKind.u64.wrap ((rd t169 x10_2) * x8_1)) + x7_2)) 4294967296)) x8_1 (wrap64 (x10_2 + 1))) = some r := by first | (rw [hy176]; with_reducible exact H) | (have H2_ := (Option.bind_some _ _).symm.trans H; rw [hy176]; with_reducible exact H2_) | (have H2_ := (Option.bind_some _ _).symm.trans H; with_reducible exact H2_) | with_reducible exact H | (rw [hy176]; exact H) | exact H
            have Ny176 := Zb.mk hy176
            clear hy176
            have H' := Zb.mk H
            clear H
            have p175 : 0 ≤ (x10_2 : Int) := of_decide_eq_true (by first | (with_reducible assumption) | assumption)
            have q175 : x10_2 < (t169.length : Int) := of_decide_eq_true (by first | (with_reducible assumption) | assumption)
            obtain ⟨ad175, e175, hx175_0⟩ := Kd.at_int (Kd.Zv HO_5.out).2.2 x10_2 p175 q175
            cases e175
            replace p175 := eq_true p175
            replace q175 := eq_true q175
            go_wp2_with (first | ((with_reducible refine gate_builtin (b := .append) (xs := #[.tmp 42, .tmp 45]) rfl ?_); at_builtin; refine Kd.R_append (Kd.int .u64) (w0 := w) w.heap.size rfl (.tmp 42) (.tmp 45) 22 46 (.int .u64 0) 8 rfl Try.underlying22 info46 rfl (by decide) (by omega) u6 x6_2 (Int.tmod (IntKind.u64.wrap ((IntKind.u64.wrap ((rd t169 x10_2) * x8_1)) + x7_2)) 4294967296) [.int .u64 (Int.tmod (IntKind.u64.wrap ((IntKind.u64.wrap ((rd t169 x10_2) * x8_1)) + x7_2)) 4294967296)] (fun k_ => some k_ ≠ (.slice (some ad175) t169.length co11 : Value).ownBlock) (fun _ => False) rfl rfl ?aP (fun _ hk => hk.elim) ?aF ?aO ?aB ?aS ?aL ?_; (case aP => exact rfl); (case aB => exact (by repeat (with_reducible first | exact HB.out | apply Zc | apply Za | apply Zd))); (case aF => exact (fun k_ hk => Kd.fresh' (Kd.R_lt (by (with_reducible repeat first | apply Kd.Zm | apply Kd.Zo); exact HO_5.out)) k_ hk)); (case aO => exact (by (with_reducible repeat first | apply Kd.Zm | apply Kd.Zo); exact HO_6.out)); (case aS => exact (Zi (by repeat (with_reducible first | exact HB.out | apply Zc | apply Za | apply Zd)))); (case aL => have := LMc17.out; omega); intro v177 w18 ho hb hg hat; rw [← Ny176.out] at ho; have n0_ := Zb.mk (Kd.R_after (ok := (fun _ => True)) (by (with_reducible repeat first | apply Kd.Zm | apply Kd.Zo); exact Kd.ZE HO_5.out (fun _ hk => ⟨trivial, hk⟩)) hg hat); have n1_ := Zb.mk (hb); have n2_ := Zb.mk (ho); clear HO_5; clear HB; clear HO_6; have HO_5 := n0_; have HB := n1_; have HO178 := n2_; clear n0_ n1_ n2_; clear ho hb hg hat))
            go_roundg k2
            case measure => have := HK1.out; have := HK2.out; omega
            case rel => exact ⟨(y176), (IntKind.u64.wrap (Int.tdiv (IntKind.u64.wrap ((IntKind.u64.wrap ((rd t169 x10_2) * x8_1)) + x7_2)) 4294967296)), (wrap64 (x10_2 + 1)), (by first | rfl | (simp; done) | (simp [*]; done)), (by first | rfl | (simp; done) | (simp [*]; done)), H', ⟨by have := HK1.out; have := HK2.out; omega⟩, ⟨by (with_reducible repeat first | apply Kd.Zm | apply Kd.Zo); exact Kd.ZE HO_5.out (fun _ hk => hk.2)⟩, ⟨by (with_reducible repeat first | apply Kd.Zm | apply Kd.Zo); exact HO178.out⟩, ⟨by repeat (with_reducible first | exact HB.out | apply Zc | apply Za | apply Zd)⟩⟩
           ·rw [if_neg c17] at H
            exact absurd H (by simp)
          ·rw [if_neg c16] at H
           exact absurd H (by simp)
         ·rw [if_neg c15] at H
          have c15b0 : decide (x10_2 < (t169.length : Int)) = false := decide_eq_false c15
          clear c15
          by_cases c19 : x6_2.length < 17592186044416
          ·rw [if_pos c19] at H
           have LMc19 := Zb.mk c19
           clear c19
           obtain ⟨y179, hy179⟩ : ∃ y_ : List Int, y_ = (x6_2 ++ [x7_2]) := ⟨_, rfl⟩
           replace H : ((r00limbs.f k2 y179).bind fun t182 => (some t182)) = some r := by first | (rw [hy179]; with_reducible exact H) | (have H2_ := (Option.bind_some _ _).symm.trans H; rw [hy179]; with_reducible exact H2_) | (have H2_ := (Option.bind_some _ _).symm.trans H; with_reducible exact H2_) | with_reducible exact H | (rw [hy179]; exact H) | exact H
           have Ny179 := Zb.mk hy179
           clear hy179
           replace H := Option.bind_eq_some_iff.mp H
           obtain ⟨t182, A200, H⟩ := H
           replace H : (some t182) = some r := H
           have A20 := Zb.mk A200
           clear A200
           obtain rfl := Option.some.inj H
           go_wp2_with (first | ((with_reducible refine gate_builtin (b := .append) (xs := #[.tmp 49, .tmp 51]) rfl ?_); at_builtin; refine Kd.R_append (Kd.int .u64) (w0 := w) w.heap.size rfl (.tmp 49) (.tmp 51) 22 46 (.int .u64 0) 8 rfl Try.underlying22 info46 rfl (by decide) (by omega) u6 x6_2 x7_2 [.int .u64 x7_2] (fun k_ => some k_ ≠ (.slice Ao11 t169.length co11 : Value).ownBlock) (fun _ => False) rfl rfl ?aP (fun _ hk => hk.elim) ?aF ?aO ?aB ?aS ?aL ?_; (case aP => exact rfl); (case aB => exact (by repeat (with_reducible first | exact HB.out | apply Zc | apply Za | apply Zd))); (case aF => exact (fun k_ hk => Kd.fresh' (Kd.R_lt (by (with_reducible repeat first | apply Kd.Zm | apply Kd.Zo); exact HO_5.out)) k_ hk)); (case aO => exact (by (with_reducible repeat first | apply Kd.Zm | apply Kd.Zo); exact HO_6.out)); (case aS => exact (Zi (by repeat (with_reducible first | exact HB.out | apply Zc | apply Za | apply Zd)))); (case aL => have := LMc19.out; omega); intro v180 w21 ho hb hg hat; rw [← Ny179.out] at ho; have n0_ := Zb.mk (Kd.R_after (ok := (fun _ => True)) (by (with_reducible repeat first | apply Kd.Zm | apply Kd.Zo); exact Kd.ZE HO_5.out (fun _ hk => ⟨trivial, hk⟩)) hg hat); have n1_ := Zb.mk (hb); have n2_ := Zb.mk (ho); clear HO_5; clear HB; clear HO_6; have HO_5 := n0_; have HB := n1_; have HO181 := n2_; clear n0_ n1_ n2_; clear ho hb hg hat; obtain ⟨Ao22, co22, eo22⟩ := Kd.Zy HO181.out; subst eo22) | ((with_reducible refine Zp (f := 92) rfl ?_); refine ZB (some 53) rfl rfl Try.func92 (by kernel_rfl) rfl #[.slice Ao22 y179.length co22] rfl (by (try simp only [List.map_toArray, List.map_cons, List.map_nil]); first | done | rfl | (simp only [List.length_drop, List.length_take]; rfl)) ?_; (with_reducible refine (r00limbs.calls k2 _ _ y179 t182 _ ?side1 ?side2 A20.out).mono ?_); (case side1 => repeat (first | exact (Kd.Zv HO181.out).2.2 | (with_reducible refine Kd.ZC ?_ _) | (with_reducible refine Kd.ZF ?_ _) | (with_reducible refine Kd.ZN ?_))); (case side2 => exact (Kd.Zv HO181.out).2.1); rintro e w23 ⟨v183, rfl, ho0, hb⟩; refine ⟨_, rfl, ?_⟩; have n0_ := Zb.mk (Kd.ZJ (by (with_reducible repeat first | apply Kd.Zm | apply Kd.Zo); exact HO_5.out) (Kd.ZV ho0) hb); have n1_ := Zb.mk (Kd.ZJ (by (with_reducible repeat first | apply Kd.Zm | apply Kd.Zo); exact HO181.out) (Kd.ZV ho0) hb); have n2_ := Zb.mk (Kd.ZG (Kd.R_new' (Kd.R_new' ho0 (Kd.R_lt (by (with_reducible repeat first | apply Kd.Zm | apply Kd.Zo); exact HO_5.out))) (Kd.R_lt (by (with_reducible repeat first | apply Kd.Zm | apply Kd.Zo); exact HO181.out))) (Zi (by repeat (with_reducible first | exact HB.out | apply Zc | apply Za | apply Zd)))); have n3_ := Zb.mk (Zl (by repeat (with_reducible first | exact HB.out | apply Zc | apply Za | apply Zd)) hb); clear HO_5; clear HO181; clear HB; have HO_5 := n0_; have HO181 := n1_; have HO184 := n2_; have HB := n3_; clear n0_ n1_ n2_ n3_; (try clear hb); (try clear hb2); (try clear hk); (try clear hi); (try clear ho0)))
           go_ret
           exact ⟨_, by first | rfl | (simp [errW_none, errW_some] <;> rfl) | (simp only [← hji7]; first | rfl | (simp [errW_none, errW_some] <;> rfl)) | (simp [*, errW_none, errW_some] <;> rfl), by (with_reducible repeat first | apply Kd.Zm | apply Kd.Zo); exact Kd.ZE HO184.out (fun _ hk => trivial), by repeat (with_reducible first | exact HB.out | apply Zc | apply Za | apply Zd)⟩
          ·rw [if_neg c19] at H
           exact absurd H (by simp)
   ·rw [if_neg c9] at H
    exact absurd H (by simp)
  ·rw [if_neg c8] at H
   exact absurd H (by simp)
end Go.Proofs.Ytbmddlldadbfnaa.BB
end
section
namespace Go.Proofs.Ytbmddlldadbfnaa.BB
open Go.RowKit Go.Proofs.Ytbmddlldadbfnaa.BA Go.Proofs.YtbmddlldadbfnaaW.PrintWords Go.Proofs.YtbmddlldadbfnaaW.PrintLast Go.Proofs.YtbmddlldadbfnaaW.PrintMore
attribute [local go_sem] ZU ZS max_two min_two ZP ZO ZT ZR
set_option linter.unusedVariables false
set_option linter.unusedSimpArgs false
attribute [local go_sem high] eqA35
def r00Num_Top.f (k : Nat) (a0_0 : Bool) (l0_1 : List Int) (a0_2 : Int) : Option (Int) := (r00NatBits.f k l0_1).bind fun t186 => (some (wrap64 (a0_2 + t186)))
theorem r00Num_Top.mono : ∀ a0 a1 a2 k, LeO (r00Num_Top.f k a0 a1 a2) (r00Num_Top.f (k + 1) a0 a1 a2) := by
 intro a0 a1 a2 k
 unfold r00Num_Top.f
 repeat' first
   | (with_reducible exact r00NatBits.mono _ _)
   | (with_reducible exact LeO.refl _)
   | (with_reducible exact LeO.none _)
   | (with_reducible refine LeO.ite ?_ ?_)
   | (with_reducible refine LeO.bind ?_ (fun _ => ?_))
   | exact r00NatBits.mono _ _
   | exact LeO.none _
   | refine LeO.ite ?_ ?_
   | refine LeO.bind ?_ (fun _ => ?_)
set_option maxHeartbeats 8000000 in
set_option maxRecDepth 100000 in
theorem r00Num_Top.calls (k : Nat) (a0_0 : Bool) (A0_1 : Option Addr) (c0_1 : Nat) (l0_1 : List Int) (a0_2 : Int) (r : Int) (w : World) (hr0_1 : Kd.C (Kd.int .u64) w A0_1 l0_1.length l0_1) (hc0_1 : l0_1.length ≤ c0_1) (h : r00Num_Top.f k a0_0 l0_1 a0_2 = some r) :
  Calls Try.prog 61 #[.agg #[.bool a0_0, .slice A0_1 l0_1.length c0_1, .int .i64 a0_2]] w fun e w' => e = .returned (.int .i64 r) ∧ Below w.heap.size w w' := by
 have hu48 := Try.underlying48
 have HR0_1 := Zb.mk hr0_1
 have HC0_1 := Zb.mk hc0_1
 clear hr0_1 hc0_1
 have HB := Zb.mk (Below.refl w.heap.size w)
 have H : ((r00NatBits.f k l0_1).bind fun t186 => (some (wrap64 (a0_2 + t186)))) = some r := h
 clear h
 replace H := Option.bind_eq_some_iff.mp H
 obtain ⟨t186, A20, H⟩ := H
 replace H : (some (wrap64 (a0_2 + t186))) = some r := H
 have A2 := Zb.mk A20
 clear A20
 obtain rfl := Option.some.inj H
 go_enter Try.func61, Try.ntmps61
 try go_wp2_with (first | ((with_reducible refine Zt (N := 1) rfl ?_); refine Zs ?hg (N := 1) ?hd (cs := #[.bool a0_0, .slice A0_1 l0_1.length c0_1, .int .i64 a0_2]) (t := 48) ?hr ?_; (case hd => rfl); (case hg => rfl); (case hr => first | (go_simp; done) | (go_simp; rfl)); intro gb185 hg w3 hbox hb; have n0_ := Zb.mk (Zl (by repeat (with_reducible first | exact HB.out | apply Zc | apply Za | apply Zd)) hb); have n1_ := Zb.mk (hbox); have n2_ := Zb.mk ((by rw [hg]; exact (Zi (by repeat (with_reducible first | exact HB.out | apply Zc | apply Za | apply Zd))) : w.heap.size ≤ gb185)); have n3_ := Zb.mk ((by rw [hg]; exact (Zi (by repeat (with_reducible first | exact HB.out | apply Zc | apply Za | apply Zd))) : w.heap.size ≤ gb185)); clear HB; have HB := n0_; have BK185 := n1_; have GW185 := n2_; have GE185 := n3_; clear n0_ n1_ n2_ n3_; clear hb hbox hg))
 have n0_ := Zb.mk (Zg BK185.out)
 have n1_ := Zb.mk (Zd HB.out)
 clear BK185
 clear HB
 have BK185 := n0_
 have HB := n1_
 clear n0_ n1_
 refine start_ (n := 7) (S := fun w' => w'.cell? ⟨gb185, 0, none⟩ = some (.bool a0_0) ∧ w'.cell? ⟨gb185, 1, none⟩ = some (.slice A0_1 l0_1.length c0_1) ∧ w'.cell? ⟨gb185, 2, none⟩ = some (.int .i64 a0_2)) (ds := []) #[false, false, false, false, false, false, false] (by kernel_rfl) rfl rfl ⟨(Zk BK185.out 0).trans rfl, (Zk BK185.out 1).trans rfl, (Zk BK185.out 2).trans rfl⟩ (fun hHeld => ?_)
 generalize w3.drew = w4 at BK185 HB hHeld ⊢
 refine ZM (i := 0) (N := some 3) (v := ?_) (a' := ?_) #[true, false, false, false, false, false, false] rfl rfl (by kernel_rfl) (fun _ _ _ h => h) (Or.inl ⟨by rfl, ?_⟩) ?_ ?_
 rotate_left
 ·intro w'
  go_simp
  with_reducible rfl
 rotate_left
 ·simp only [Act.put, List.setIfInBounds_toArray, List.set_cons_zero, List.set_cons_succ, Zx, ZA]
  rfl
 refine ZM (i := 2) (N := some 5) (v := ?_) (a' := ?_) #[true, false, true, false, false, false, false] rfl rfl (by kernel_rfl) (fun _ _ _ h => h) (Or.inl ⟨by rfl, ?_⟩) ?_ ?_
 rotate_left
 ·intro w'
  go_simp
  with_reducible rfl
 rotate_left
 ·simp only [Act.put, List.setIfInBounds_toArray, List.set_cons_zero, List.set_cons_succ, Zx, ZA]
  rfl
 refine take_ (i := 1) (N := some 4) (v := ?_) (a' := ?_) #[true, true, true, false, false, false, false] rfl rfl (by kernel_rfl) (fun _ _ _ h => h) (Or.inl ⟨by rfl, ?_⟩) hHeld ?_ ?_
 rotate_left
 ·rintro w' ⟨s0, s1, s2⟩
  go_simp
  with_reducible rfl
 rotate_left
 ·simp only [Act.put, List.setIfInBounds_toArray, List.set_cons_zero, List.set_cons_succ, Zx, ZA]
  rfl
 refine take_ (i := 3) (N := some 6) (v := ?_) (a' := ?_) #[true, true, true, true, false, false, false] rfl rfl (by kernel_rfl) (fun _ _ _ h => h) (Or.inl ⟨by rfl, ?_⟩) hHeld ?_ ?_
 rotate_left
 ·rintro w' ⟨s0, s1, s2⟩
  go_simp
  with_reducible rfl
 rotate_left
 ·simp only [Act.put, List.setIfInBounds_toArray, List.set_cons_zero, List.set_cons_succ, Zx, ZA]
  rfl
 refine one_ (i := 4) (N := some 7) #[true, true, true, true, true, false, false] rfl rfl (by kernel_rfl) (by decide) (fun K hK => ?_)
 refine goes_ Try.func80 (by kernel_rfl) rfl #[.slice A0_1 l0_1.length c0_1] (by rfl) rfl rfl (by (try simp only [List.map_toArray, List.map_cons, List.map_nil]); first | done | rfl | (simp only [List.length_drop, List.length_take]; rfl)) ?_
 with_reducible refine (r00NatBits.calls k _ _ l0_1 t186 _ ?side1 ?side2 A2.out).mono ?_
 (case side1 => repeat (first | exact (Kd.C_below HR0_1.out HB.out) | (with_reducible refine Kd.ZC ?_ _) | (with_reducible refine Kd.ZF ?_ _) | (with_reducible refine Kd.ZN ?_)))
 (case side2 => exact HC0_1.out)
 rintro e w5 ⟨rfl, hb⟩
 refine ⟨_, rfl, ?_⟩
 have n0_ := Zb.mk (Zn (g := gb185) (o := .cells #[.bool a0_0, .slice A0_1 l0_1.length c0_1, .int .i64 a0_2] 48 (0, 0)) (by (with_reducible repeat first | refine Ze ?_ _ | refine Zg ?_ | refine Zf ?_ _); exact BK185.out) hb)
 have n1_ := Zb.mk (Zl (by repeat (with_reducible first | exact HB.out | apply Zc | apply Za | apply Zd | refine Zh ?_ GE185.out)) hb)
 clear BK185
 clear HB
 have BK185 := n0_
 have HB := n1_
 clear n0_ n1_
 (try clear hb)
 (try clear hb2)
 (try clear hk)
 (try clear hi)
 refine hK.out _ _ ⟨(Zk BK185.out 0).trans rfl, (Zk BK185.out 1).trans rfl, (Zk BK185.out 2).trans rfl⟩ (fun hHeld => ?_)
 clear hK K
 refine norm_ (a' := ?_) ?_ ?_
 rotate_left
 ·show Act.put _ (some 7) _ = _
  simp only [Act.put, List.setIfInBounds_toArray, List.set_cons_zero, List.set_cons_succ, Zx, ZA]
  rfl
 refine ZM (i := 5) (N := some 8) (v := ?_) (a' := ?_) #[true, true, true, true, true, true, false] rfl rfl (by kernel_rfl) (fun _ _ _ h => h) (Or.inl ⟨by rfl, ?_⟩) ?_ ?_
 rotate_left
 ·intro w'
  go_simp
  with_reducible rfl
 rotate_left
 ·simp only [Act.put, List.setIfInBounds_toArray, List.set_cons_zero, List.set_cons_succ, Zx, ZA]
  rfl
 refine ZM (i := 6) (N := some 2) (v := ?_) (a' := ?_) #[true, true, true, true, true, true, true] rfl rfl (by kernel_rfl) (fun _ _ _ h => h) (Or.inl ⟨by rfl, ?_⟩) ?_ ?_
 rotate_left
 ·intro w'
  go_simp
  with_reducible rfl
 rotate_left
 ·simp only [Act.put, List.setIfInBounds_toArray, List.set_cons_zero, List.set_cons_succ, Zx, ZA]
  rfl
 refine done_ (by kernel_rfl) ?_
 try go_wp2
 go_ret
 exact ⟨by first | rfl | (simp [errW_none, errW_some] <;> rfl) | (simp [*, errW_none, errW_some] <;> rfl), by repeat (with_reducible first | exact HB.out | apply Zc | apply Za | apply Zd | refine Zh ?_ GE185.out)⟩
def r00TellInt.f (k : Nat) (a0_0 : Bool) (l0_1 : List Int) (a0_2 : Int) : Option (Bool × List Int × Bool) := (r00Num_Zero.f k a0_0 l0_1 a0_2).bind fun t189 => (if t189 = true then (some (false, ([] : List Int), true)) else ((r00Num_Top.f k a0_0 l0_1 a0_2).bind fun t190 => (if t190 > 262144 then (some (false, ([] : List Int), false)) else ((r00NatUp.f k l0_1 a0_2).bind fun t191 => (some (a0_0, t191, true))))))
theorem r00TellInt.mono : ∀ a0 a1 a2 k, LeO (r00TellInt.f k a0 a1 a2) (r00TellInt.f (k + 1) a0 a1 a2) := by
 intro a0 a1 a2 k
 unfold r00TellInt.f
 repeat' first
   | (with_reducible exact r00NatUp.mono _ _ _)
   | (with_reducible exact r00Num_Top.mono _ _ _ _)
   | (with_reducible exact r00Num_Zero.mono _ _ _ _)
   | (with_reducible exact LeO.refl _)
   | (with_reducible exact LeO.none _)
   | (with_reducible refine LeO.ite ?_ ?_)
   | (with_reducible refine LeO.bind ?_ (fun _ => ?_))
   | exact r00NatUp.mono _ _ _
   | exact r00Num_Top.mono _ _ _ _
   | exact r00Num_Zero.mono _ _ _ _
   | exact LeO.none _
   | refine LeO.ite ?_ ?_
   | refine LeO.bind ?_ (fun _ => ?_)
def r00TellInt.T5 : Bool × List (List Nat × List Nat) := (true, [([], []), ([0], [0]), ([], []), ([2], [2]), ([], []), ([4], [4]), ([3, 5], [3, 5]), ([1, 6], [1, 6]), ([7, 6, 0, 1, 2, 3, 4, 5, 6, 7], [7]), ([8, 0, 1, 2, 3, 4, 5, 6, 7, 8], [])])
def r00TellInt.B5 : List Nat := [0, 1, 0, 4, 0, 16, 60, 127, 255, 511]
theorem r00TellInt.tab5 : rtab .any (opsOf Try.f73 5) = r00TellInt.T5 := by kernel_rfl
theorem r00TellInt.bits5 : waitsOk r00TellInt.T5.2 r00TellInt.B5 = true := by kernel_rfl
set_option maxHeartbeats 8000000 in
set_option maxRecDepth 100000 in
theorem r00TellInt.calls (k : Nat) (a0_0 : Bool) (A0_1 : Option Addr) (c0_1 : Nat) (l0_1 : List Int) (a0_2 : Int) (r1 : Bool) (r2 : List Int) (r3 : Bool) (w : World) (hr0_1 : Kd.C (Kd.int .u64) w A0_1 l0_1.length l0_1) (hc0_1 : l0_1.length ≤ c0_1) (h : r00TellInt.f k a0_0 l0_1 a0_2 = some (r1, r2, r3)) :
  Calls Try.prog 73 #[.agg #[.bool a0_0, .slice A0_1 l0_1.length c0_1, .int .i64 a0_2]] w fun e w' => ∃ v1_ : Value, e = .returned (.tuple #[.agg #[.bool r1, v1_], .bool r3]) ∧ Kd.R (Kd.int .u64) 46 w' w.heap.size (fun _ => True) v1_ r2 ∧ Below w.heap.size w w' := by
 have hu48 := Try.underlying48
 have hu24 := Try.underlying24
 have HR0_1 := Zb.mk hr0_1
 have HC0_1 := Zb.mk hc0_1
 clear hr0_1 hc0_1
 have HB := Zb.mk (Below.refl w.heap.size w)
 have H : ((r00Num_Zero.f k a0_0 l0_1 a0_2).bind fun t189 => (if t189 = true then (some (false, ([] : List Int), true)) else ((r00Num_Top.f k a0_0 l0_1 a0_2).bind fun t190 => (if t190 > 262144 then (some (false, ([] : List Int), false)) else ((r00NatUp.f k l0_1 a0_2).bind fun t191 => (some (a0_0, t191, true))))))) = some (r1, r2, r3) := h
 clear h
 replace H := Option.bind_eq_some_iff.mp H
 obtain ⟨t189, A20, H⟩ := H
 replace H : (if t189 = true then (some (false, ([] : List Int), true)) else ((r00Num_Top.f k a0_0 l0_1 a0_2).bind fun t190 => (if t190 > 262144 then (some (false, ([] : List Int), false)) else ((r00NatUp.f k l0_1 a0_2).bind fun t191 => (some (a0_0, t191, true)))))) = some (r1, r2, r3) := H
 have A2 := Zb.mk A20
 clear A20
 by_cases c3 : t189 = true
 ·subst c3
  have H1 : (some (false, ([] : List Int), true)) = some (r1, r2, r3) := by rw [if_pos rfl] at H; exact H
  clear H
  have H := H1
  clear H1
  simp only [Option.some.injEq, Prod.mk.injEq] at H
  obtain ⟨rfl, rfl, rfl⟩ := H
  go_enter Try.func73, Try.ntmps73
  go_wp2_with (first | ((with_reducible refine Zt (N := 1) rfl ?_); refine Zs ?hg (N := 1) ?hd (cs := #[.bool a0_0, .slice A0_1 l0_1.length c0_1, .int .i64 a0_2]) (t := 48) ?hr ?_; (case hd => rfl); (case hg => rfl); (case hr => first | (go_simp; done) | (go_simp; rfl)); intro gb187 hg w4 hbox hb; have n0_ := Zb.mk (Zl (by repeat (with_reducible first | exact HB.out | apply Zc | apply Za | apply Zd)) hb); have n1_ := Zb.mk (hbox); have n2_ := Zb.mk ((by rw [hg]; exact (Zi (by repeat (with_reducible first | exact HB.out | apply Zc | apply Za | apply Zd))) : w.heap.size ≤ gb187)); have n3_ := Zb.mk ((by rw [hg]; exact (Zi (by repeat (with_reducible first | exact HB.out | apply Zc | apply Za | apply Zd))) : w.heap.size ≤ gb187)); clear HB; have HB := n0_; have BK187 := n1_; have GW187 := n2_; have GE187 := n3_; clear n0_ n1_ n2_ n3_; clear hb hbox hg) | ((with_reducible refine Zt (N := 2) rfl ?_); refine Zs ?hg (N := 2) ?hd (cs := #[.bool false, .slice none 0 0]) (t := 24) ?hr ?_; (case hd => rfl); (case hg => rfl); (case hr => first | (go_simp; done) | (go_simp; rfl)); intro gb188 hg w5 hbox hb; have n0_ := Zb.mk (Zn (g := gb187) (o := .cells #[.bool a0_0, .slice A0_1 l0_1.length c0_1, .int .i64 a0_2] 48 (0, 0)) (by (with_reducible repeat first | refine Ze ?_ _ | refine Zg ?_ | refine Zf ?_ _); exact BK187.out) hb); have n1_ := Zb.mk (Zl (by repeat (with_reducible first | exact HB.out | apply Zc | apply Za | apply Zd | refine Zh ?_ GE187.out)) hb); have n2_ := Zb.mk (hbox); have n3_ := Zb.mk ((by rw [hg]; exact (Zi (by repeat (with_reducible first | exact HB.out | apply Zc | apply Za | apply Zd | refine Zh ?_ GE187.out))) : w.heap.size ≤ gb188)); have n4_ := Zb.mk ((by rw [hg]; exact (Zi (by repeat (with_reducible first | exact HB.out | apply Zc | apply Za | apply Zd | refine Zh ?_ GE187.out))) : w.heap.size ≤ gb188)); have n5_ := Zb.mk ((by rw [hg]; exact Nat.ne_of_lt (Zw (g := gb187) (o := .cells #[.bool a0_0, .slice A0_1 l0_1.length c0_1, .int .i64 a0_2] 48 (0, 0)) (by (with_reducible repeat first | refine Ze ?_ _ | refine Zg ?_ | refine Zf ?_ _); exact BK187.out)) : gb187 ≠ gb188)); have n6_ := Zb.mk ((by rw [hg]; exact Nat.ne_of_gt (Zw (g := gb187) (o := .cells #[.bool a0_0, .slice A0_1 l0_1.length c0_1, .int .i64 a0_2] 48 (0, 0)) (by (with_reducible repeat first | refine Ze ?_ _ | refine Zg ?_ | refine Zf ?_ _); exact BK187.out)) : gb188 ≠ gb187)); clear BK187; clear HB; have BK187 := n0_; have HB := n1_; have BK188 := n2_; have GW188 := n3_; have GE188 := n4_; have NB187_188 := n5_; have NB188_187 := n6_; clear n0_ n1_ n2_ n3_ n4_ n5_ n6_; clear hb hbox hg; have hnb6 := NB187_188.out; have hnc6 := NB188_187.out; have hcz7_0 : w5.cell? ⟨gb187, 0, none⟩ = some (.bool a0_0) := (Zk BK187.out 0).trans rfl; have hcz7_1 : w5.cell? ⟨gb187, 1, none⟩ = some (.slice A0_1 l0_1.length c0_1) := (Zk BK187.out 1).trans rfl; have hcz7_2 : w5.cell? ⟨gb187, 2, none⟩ = some (.int .i64 a0_2) := (Zk BK187.out 2).trans rfl; have hfz7_0 := Zj BK187.out 0; have hfz7_1 := Zj BK187.out 1; have hfz7_2 := Zj BK187.out 2) | ((with_reducible refine Zp (f := 54) rfl ?_); refine ZB (some 5) rfl rfl Try.func54 (by kernel_rfl) rfl #[.agg #[.bool a0_0, .slice A0_1 l0_1.length c0_1, .int .i64 a0_2]] rfl (by (try simp only [List.map_toArray, List.map_cons, List.map_nil]); first | done | rfl | (simp only [List.length_drop, List.length_take]; rfl)) ?_; (with_reducible refine (r00Num_Zero.calls k a0_0 _ _ l0_1 a0_2 true _ ?side1 ?side2 A2.out).mono ?_); (case side1 => repeat (first | exact (Kd.C_below HR0_1.out HB.out) | (with_reducible refine Kd.ZC ?_ _) | (with_reducible refine Kd.ZF ?_ _) | (with_reducible refine Kd.ZN ?_))); (case side2 => exact HC0_1.out); rintro e w8 ⟨rfl, hb⟩; refine ⟨_, rfl, ?_⟩; have n0_ := Zb.mk (Zn (g := gb187) (o := .cells #[.bool a0_0, .slice A0_1 l0_1.length c0_1, .int .i64 a0_2] 48 (0, 0)) (by (with_reducible repeat first | refine Ze ?_ _ | refine Zg ?_ | refine Zf ?_ _); exact BK187.out) hb); have n1_ := Zb.mk (Zn (g := gb188) (o := .cells #[.bool false, .slice none 0 0] 24 (0, 0)) (by (with_reducible repeat first | refine Ze ?_ _ | refine Zg ?_ | refine Zf ?_ _); exact BK188.out) hb); have n2_ := Zb.mk (Zl (by repeat (with_reducible first | exact HB.out | apply Zc | apply Za | apply Zd | refine Zh ?_ GE187.out | refine Zh ?_ GE188.out)) hb); clear BK187; clear BK188; clear HB; have BK187 := n0_; have BK188 := n1_; have HB := n2_; clear n0_ n1_ n2_; (try clear hb); (try clear hb2); (try clear hk); (try clear hi); have hcz9_0 : w8.cell? ⟨gb188, 0, none⟩ = some (.bool false) := (Zk BK188.out 0).trans rfl; have hcz9_1 : w8.cell? ⟨gb188, 1, none⟩ = some (.slice none 0 0) := (Zk BK188.out 1).trans rfl; have hfz9_0 := Zj BK188.out 0; have hfz9_1 := Zj BK188.out 1))
  refine bodyPost_ret (results_ct rfl _ _ gb188 24 #[.bool false, .slice none 0 0] (0, 0) _ rfl (by (with_reducible repeat first | refine Ze ?_ _ | refine Zg ?_ | refine Zf ?_ _); refine Zu (cs := #[.bool false, .slice none 0 0]) ?_ 1 _ rfl; (with_reducible repeat first | refine Ze ?_ _ | refine Zg ?_ | refine Zf ?_ _); refine Zu (cs := #[.bool false, .slice none 0 0]) ?_ 0 _ rfl; (with_reducible repeat first | refine Ze ?_ _ | refine Zg ?_ | refine Zf ?_ _); exact BK188.out) Try.underlying24 rfl (by kernel_rfl)) rfl ?_
  exact ⟨_, by first | rfl | (simp [errW_none, errW_some] <;> rfl) | (simp [*, errW_none, errW_some] <;> rfl), by first | exact Kd.R_nil _ _ _ _ _ | exact Kd.V_nil _ _ _ _ _ | exact Kd.S_nil _ _ _ _ _, by repeat (with_reducible first | exact HB.out | apply Zc | apply Za | apply Zd | refine Zh ?_ GE187.out | refine Zh ?_ GE188.out)⟩
 ·replace c3 := Bool.eq_false_iff.mpr c3
  subst c3
  have H1 : ((r00Num_Top.f k a0_0 l0_1 a0_2).bind fun t190 => (if t190 > 262144 then (some (false, ([] : List Int), false)) else ((r00NatUp.f k l0_1 a0_2).bind fun t191 => (some (a0_0, t191, true))))) = some (r1, r2, r3) := by rw [if_neg (show ¬ (false = true) by decide)] at H; exact H
  clear H
  have H := H1
  clear H1
  replace H := Option.bind_eq_some_iff.mp H
  obtain ⟨t190, A100, H⟩ := H
  replace H : (if t190 > 262144 then (some (false, ([] : List Int), false)) else ((r00NatUp.f k l0_1 a0_2).bind fun t191 => (some (a0_0, t191, true)))) = some (r1, r2, r3) := H
  have A10 := Zb.mk A100
  clear A100
  by_cases c11 : t190 > 262144
  ·rw [if_pos c11] at H
   have c11b0 : decide (262144 < t190) = true := decide_eq_true c11
   clear c11
   simp only [Option.some.injEq, Prod.mk.injEq] at H
   obtain ⟨rfl, rfl, rfl⟩ := H
   go_enter Try.func73, Try.ntmps73
   go_wp2_with (first | ((with_reducible refine Zt (N := 1) rfl ?_); refine Zs ?hg (N := 1) ?hd (cs := #[.bool a0_0, .slice A0_1 l0_1.length c0_1, .int .i64 a0_2]) (t := 48) ?hr ?_; (case hd => rfl); (case hg => rfl); (case hr => first | (go_simp; done) | (go_simp; rfl)); intro gb187 hg w12 hbox hb; have n0_ := Zb.mk (Zl (by repeat (with_reducible first | exact HB.out | apply Zc | apply Za | apply Zd)) hb); have n1_ := Zb.mk (hbox); have n2_ := Zb.mk ((by rw [hg]; exact (Zi (by repeat (with_reducible first | exact HB.out | apply Zc | apply Za | apply Zd))) : w.heap.size ≤ gb187)); have n3_ := Zb.mk ((by rw [hg]; exact (Zi (by repeat (with_reducible first | exact HB.out | apply Zc | apply Za | apply Zd))) : w.heap.size ≤ gb187)); clear HB; have HB := n0_; have BK187 := n1_; have GW187 := n2_; have GE187 := n3_; clear n0_ n1_ n2_ n3_; clear hb hbox hg) | ((with_reducible refine Zt (N := 2) rfl ?_); refine Zs ?hg (N := 2) ?hd (cs := #[.bool false, .slice none 0 0]) (t := 24) ?hr ?_; (case hd => rfl); (case hg => rfl); (case hr => first | (go_simp; done) | (go_simp; rfl)); intro gb188 hg w13 hbox hb; have n0_ := Zb.mk (Zn (g := gb187) (o := .cells #[.bool a0_0, .slice A0_1 l0_1.length c0_1, .int .i64 a0_2] 48 (0, 0)) (by (with_reducible repeat first | refine Ze ?_ _ | refine Zg ?_ | refine Zf ?_ _); exact BK187.out) hb); have n1_ := Zb.mk (Zl (by repeat (with_reducible first | exact HB.out | apply Zc | apply Za | apply Zd | refine Zh ?_ GE187.out)) hb); have n2_ := Zb.mk (hbox); have n3_ := Zb.mk ((by rw [hg]; exact (Zi (by repeat (with_reducible first | exact HB.out | apply Zc | apply Za | apply Zd | refine Zh ?_ GE187.out))) : w.heap.size ≤ gb188)); have n4_ := Zb.mk ((by rw [hg]; exact (Zi (by repeat (with_reducible first | exact HB.out | apply Zc | apply Za | apply Zd | refine Zh ?_ GE187.out))) : w.heap.size ≤ gb188)); have n5_ := Zb.mk ((by rw [hg]; exact Nat.ne_of_lt (Zw (g := gb187) (o := .cells #[.bool a0_0, .slice A0_1 l0_1.length c0_1, .int .i64 a0_2] 48 (0, 0)) (by (with_reducible repeat first | refine Ze ?_ _ | refine Zg ?_ | refine Zf ?_ _); exact BK187.out)) : gb187 ≠ gb188)); have n6_ := Zb.mk ((by rw [hg]; exact Nat.ne_of_gt (Zw (g := gb187) (o := .cells #[.bool a0_0, .slice A0_1 l0_1.length c0_1, .int .i64 a0_2] 48 (0, 0)) (by (with_reducible repeat first | refine Ze ?_ _ | refine Zg ?_ | refine Zf ?_ _); exact BK187.out)) : gb188 ≠ gb187)); clear BK187; clear HB; have BK187 := n0_; have HB := n1_; have BK188 := n2_; have GW188 := n3_; have GE188 := n4_; have NB187_188 := n5_; have NB188_187 := n6_; clear n0_ n1_ n2_ n3_ n4_ n5_ n6_; clear hb hbox hg; have hnb14 := NB187_188.out; have hnc14 := NB188_187.out; have hcz15_0 : w13.cell? ⟨gb187, 0, none⟩ = some (.bool a0_0) := (Zk BK187.out 0).trans rfl; have hcz15_1 : w13.cell? ⟨gb187, 1, none⟩ = some (.slice A0_1 l0_1.length c0_1) := (Zk BK187.out 1).trans rfl; have hcz15_2 : w13.cell? ⟨gb187, 2, none⟩ = some (.int .i64 a0_2) := (Zk BK187.out 2).trans rfl; have hfz15_0 := Zj BK187.out 0; have hfz15_1 := Zj BK187.out 1; have hfz15_2 := Zj BK187.out 2) | ((with_reducible refine Zp (f := 54) rfl ?_); refine ZB (some 5) rfl rfl Try.func54 (by kernel_rfl) rfl #[.agg #[.bool a0_0, .slice A0_1 l0_1.length c0_1, .int .i64 a0_2]] rfl (by (try simp only [List.map_toArray, List.map_cons, List.map_nil]); first | done | rfl | (simp only [List.length_drop, List.length_take]; rfl)) ?_; (with_reducible refine (r00Num_Zero.calls k a0_0 _ _ l0_1 a0_2 false _ ?side1 ?side2 A2.out).mono ?_); (case side1 => repeat (first | exact (Kd.C_below HR0_1.out HB.out) | (with_reducible refine Kd.ZC ?_ _) | (with_reducible refine Kd.ZF ?_ _) | (with_reducible refine Kd.ZN ?_))); (case side2 => exact HC0_1.out); rintro e w16 ⟨rfl, hb⟩; refine ⟨_, rfl, ?_⟩; have n0_ := Zb.mk (Zn (g := gb187) (o := .cells #[.bool a0_0, .slice A0_1 l0_1.length c0_1, .int .i64 a0_2] 48 (0, 0)) (by (with_reducible repeat first | refine Ze ?_ _ | refine Zg ?_ | refine Zf ?_ _); exact BK187.out) hb); have n1_ := Zb.mk (Zn (g := gb188) (o := .cells #[.bool false, .slice none 0 0] 24 (0, 0)) (by (with_reducible repeat first | refine Ze ?_ _ | refine Zg ?_ | refine Zf ?_ _); exact BK188.out) hb); have n2_ := Zb.mk (Zl (by repeat (with_reducible first | exact HB.out | apply Zc | apply Za | apply Zd | refine Zh ?_ GE187.out | refine Zh ?_ GE188.out)) hb); clear BK187; clear BK188; clear HB; have BK187 := n0_; have BK188 := n1_; have HB := n2_; clear n0_ n1_ n2_; (try clear hb); (try clear hb2); (try clear hk); (try clear hi); have hcz17_0 : w16.cell? ⟨gb187, 0, none⟩ = some (.bool a0_0) := (Zk BK187.out 0).trans rfl; have hcz17_1 : w16.cell? ⟨gb187, 1, none⟩ = some (.slice A0_1 l0_1.length c0_1) := (Zk BK187.out 1).trans rfl; have hcz17_2 : w16.cell? ⟨gb187, 2, none⟩ = some (.int .i64 a0_2) := (Zk BK187.out 2).trans rfl; have hfz17_0 := Zj BK187.out 0; have hfz17_1 := Zj BK187.out 1; have hfz17_2 := Zj BK187.out 2) | ((with_reducible refine Zp (f := 61) rfl ?_); refine ZB (some 8) rfl rfl Try.func61 (by kernel_rfl) rfl #[.agg #[.bool a0_0, .slice A0_1 l0_1.length c0_1, .int .i64 a0_2]] rfl (by (try simp only [List.map_toArray, List.map_cons, List.map_nil]); first | done | rfl | (simp only [List.length_drop, List.length_take]; rfl)) ?_; (with_reducible refine (r00Num_Top.calls k a0_0 _ _ l0_1 a0_2 t190 _ ?side1 ?side2 A10.out).mono ?_); (case side1 => repeat (first | exact (Kd.C_below HR0_1.out HB.out) | (with_reducible refine Kd.ZC ?_ _) | (with_reducible refine Kd.ZF ?_ _) | (with_reducible refine Kd.ZN ?_))); (case side2 => exact HC0_1.out); rintro e w18 ⟨rfl, hb⟩; refine ⟨_, rfl, ?_⟩; have n0_ := Zb.mk (Zn (g := gb187) (o := .cells #[.bool a0_0, .slice A0_1 l0_1.length c0_1, .int .i64 a0_2] 48 (0, 0)) (by (with_reducible repeat first | refine Ze ?_ _ | refine Zg ?_ | refine Zf ?_ _); exact BK187.out) hb); have n1_ := Zb.mk (Zn (g := gb188) (o := .cells #[.bool false, .slice none 0 0] 24 (0, 0)) (by (with_reducible repeat first | refine Ze ?_ _ | refine Zg ?_ | refine Zf ?_ _); exact BK188.out) hb); have n2_ := Zb.mk (Zl (by repeat (with_reducible first | exact HB.out | apply Zc | apply Za | apply Zd | refine Zh ?_ GE187.out | refine Zh ?_ GE188.out)) hb); clear BK187; clear BK188; clear HB; have BK187 := n0_; have BK188 := n1_; have HB := n2_; clear n0_ n1_ n2_; (try clear hb); (try clear hb2); (try clear hk); (try clear hi); have hcz19_0 : w18.cell? ⟨gb188, 0, none⟩ = some (.bool false) := (Zk BK188.out 0).trans rfl; have hcz19_1 : w18.cell? ⟨gb188, 1, none⟩ = some (.slice none 0 0) := (Zk BK188.out 1).trans rfl; have hfz19_0 := Zj BK188.out 0; have hfz19_1 := Zj BK188.out 1))
   refine bodyPost_ret (results_ct rfl _ _ gb188 24 #[.bool false, .slice none 0 0] (0, 0) _ rfl (by (with_reducible repeat first | refine Ze ?_ _ | refine Zg ?_ | refine Zf ?_ _); refine Zu (cs := #[.bool false, .slice none 0 0]) ?_ 1 _ rfl; (with_reducible repeat first | refine Ze ?_ _ | refine Zg ?_ | refine Zf ?_ _); refine Zu (cs := #[.bool false, .slice none 0 0]) ?_ 0 _ rfl; (with_reducible repeat first | refine Ze ?_ _ | refine Zg ?_ | refine Zf ?_ _); exact BK188.out) Try.underlying24 rfl (by kernel_rfl)) rfl ?_
   exact ⟨_, by first | rfl | (simp [errW_none, errW_some] <;> rfl) | (simp [*, errW_none, errW_some] <;> rfl), by first | exact Kd.R_nil _ _ _ _ _ | exact Kd.V_nil _ _ _ _ _ | exact Kd.S_nil _ _ _ _ _, by repeat (with_reducible first | exact HB.out | apply Zc | apply Za | apply Zd | refine Zh ?_ GE187.out | refine Zh ?_ GE188.out)⟩
  ·rw [if_neg c11] at H
   have c11b0 : decide (262144 < t190) = false := decide_eq_false c11
   clear c11
   replace H := Option.bind_eq_some_iff.mp H
   obtain ⟨t191, A200, H⟩ := H
   replace H : (some (a0_0, t191, true)) = some (r1, r2, r3) := H
   have A20 := Zb.mk A200
   clear A200
   simp only [Option.some.injEq, Prod.mk.injEq] at H
   obtain ⟨rfl, rfl, rfl⟩ := H
   go_enter Try.func73, Try.ntmps73
   try go_wp2_with (first | ((with_reducible refine Zt (N := 1) rfl ?_); refine Zs ?hg (N := 1) ?hd (cs := #[.bool a0_0, .slice A0_1 l0_1.length c0_1, .int .i64 a0_2]) (t := 48) ?hr ?_; (case hd => rfl); (case hg => rfl); (case hr => first | (go_simp; done) | (go_simp; rfl)); intro gb187 hg w21 hbox hb; have n0_ := Zb.mk (Zl (by repeat (with_reducible first | exact HB.out | apply Zc | apply Za | apply Zd)) hb); have n1_ := Zb.mk (hbox); have n2_ := Zb.mk ((by rw [hg]; exact (Zi (by repeat (with_reducible first | exact HB.out | apply Zc | apply Za | apply Zd))) : w.heap.size ≤ gb187)); have n3_ := Zb.mk ((by rw [hg]; exact (Zi (by repeat (with_reducible first | exact HB.out | apply Zc | apply Za | apply Zd))) : w.heap.size ≤ gb187)); clear HB; have HB := n0_; have BK187 := n1_; have GW187 := n2_; have GE187 := n3_; clear n0_ n1_ n2_ n3_; clear hb hbox hg) | ((with_reducible refine Zt (N := 2) rfl ?_); refine Zs ?hg (N := 2) ?hd (cs := #[.bool false, .slice none 0 0]) (t := 24) ?hr ?_; (case hd => rfl); (case hg => rfl); (case hr => first | (go_simp; done) | (go_simp; rfl)); intro gb188 hg w22 hbox hb; have n0_ := Zb.mk (Zn (g := gb187) (o := .cells #[.bool a0_0, .slice A0_1 l0_1.length c0_1, .int .i64 a0_2] 48 (0, 0)) (by (with_reducible repeat first | refine Ze ?_ _ | refine Zg ?_ | refine Zf ?_ _); exact BK187.out) hb); have n1_ := Zb.mk (Zl (by repeat (with_reducible first | exact HB.out | apply Zc | apply Za | apply Zd | refine Zh ?_ GE187.out)) hb); have n2_ := Zb.mk (hbox); have n3_ := Zb.mk ((by rw [hg]; exact (Zi (by repeat (with_reducible first | exact HB.out | apply Zc | apply Za | apply Zd | refine Zh ?_ GE187.out))) : w.heap.size ≤ gb188)); have n4_ := Zb.mk ((by rw [hg]; exact (Zi (by repeat (with_reducible first | exact HB.out | apply Zc | apply Za | apply Zd | refine Zh ?_ GE187.out))) : w.heap.size ≤ gb188)); have n5_ := Zb.mk ((by rw [hg]; exact Nat.ne_of_lt (Zw (g := gb187) (o := .cells #[.bool a0_0, .slice A0_1 l0_1.length c0_1, .int .i64 a0_2] 48 (0, 0)) (by (with_reducible repeat first | refine Ze ?_ _ | refine Zg ?_ | refine Zf ?_ _); exact BK187.out)) : gb187 ≠ gb188)); have n6_ := Zb.mk ((by rw [hg]; exact Nat.ne_of_gt (Zw (g := gb187) (o := .cells #[.bool a0_0, .slice A0_1 l0_1.length c0_1, .int .i64 a0_2] 48 (0, 0)) (by (with_reducible repeat first | refine Ze ?_ _ | refine Zg ?_ | refine Zf ?_ _); exact BK187.out)) : gb188 ≠ gb187)); clear BK187; clear HB; have BK187 := n0_; have HB := n1_; have BK188 := n2_; have GW188 := n3_; have GE188 := n4_; have NB187_188 := n5_; have NB188_187 := n6_; clear n0_ n1_ n2_ n3_ n4_ n5_ n6_; clear hb hbox hg; have hnb23 := NB187_188.out; have hnc23 := NB188_187.out; have hcz24_0 : w22.cell? ⟨gb187, 0, none⟩ = some (.bool a0_0) := (Zk BK187.out 0).trans rfl; have hcz24_1 : w22.cell? ⟨gb187, 1, none⟩ = some (.slice A0_1 l0_1.length c0_1) := (Zk BK187.out 1).trans rfl; have hcz24_2 : w22.cell? ⟨gb187, 2, none⟩ = some (.int .i64 a0_2) := (Zk BK187.out 2).trans rfl; have hfz24_0 := Zj BK187.out 0; have hfz24_1 := Zj BK187.out 1; have hfz24_2 := Zj BK187.out 2) | ((with_reducible refine Zp (f := 54) rfl ?_); refine ZB (some 5) rfl rfl Try.func54 (by kernel_rfl) rfl #[.agg #[.bool a0_0, .slice A0_1 l0_1.length c0_1, .int .i64 a0_2]] rfl (by (try simp only [List.map_toArray, List.map_cons, List.map_nil]); first | done | rfl | (simp only [List.length_drop, List.length_take]; rfl)) ?_; (with_reducible refine (r00Num_Zero.calls k a0_0 _ _ l0_1 a0_2 false _ ?side1 ?side2 A2.out).mono ?_); (case side1 => repeat (first | exact (Kd.C_below HR0_1.out HB.out) | (with_reducible refine Kd.ZC ?_ _) | (with_reducible refine Kd.ZF ?_ _) | (with_reducible refine Kd.ZN ?_))); (case side2 => exact HC0_1.out); rintro e w25 ⟨rfl, hb⟩; refine ⟨_, rfl, ?_⟩; have n0_ := Zb.mk (Zn (g := gb187) (o := .cells #[.bool a0_0, .slice A0_1 l0_1.length c0_1, .int .i64 a0_2] 48 (0, 0)) (by (with_reducible repeat first | refine Ze ?_ _ | refine Zg ?_ | refine Zf ?_ _); exact BK187.out) hb); have n1_ := Zb.mk (Zn (g := gb188) (o := .cells #[.bool false, .slice none 0 0] 24 (0, 0)) (by (with_reducible repeat first | refine Ze ?_ _ | refine Zg ?_ | refine Zf ?_ _); exact BK188.out) hb); have n2_ := Zb.mk (Zl (by repeat (with_reducible first | exact HB.out | apply Zc | apply Za | apply Zd | refine Zh ?_ GE187.out | refine Zh ?_ GE188.out)) hb); clear BK187; clear BK188; clear HB; have BK187 := n0_; have BK188 := n1_; have HB := n2_; clear n0_ n1_ n2_; (try clear hb); (try clear hb2); (try clear hk); (try clear hi); have hcz26_0 : w25.cell? ⟨gb187, 0, none⟩ = some (.bool a0_0) := (Zk BK187.out 0).trans rfl; have hcz26_1 : w25.cell? ⟨gb187, 1, none⟩ = some (.slice A0_1 l0_1.length c0_1) := (Zk BK187.out 1).trans rfl; have hcz26_2 : w25.cell? ⟨gb187, 2, none⟩ = some (.int .i64 a0_2) := (Zk BK187.out 2).trans rfl; have hfz26_0 := Zj BK187.out 0; have hfz26_1 := Zj BK187.out 1; have hfz26_2 := Zj BK187.out 2) | ((with_reducible refine Zp (f := 61) rfl ?_); refine ZB (some 8) rfl rfl Try.func61 (by kernel_rfl) rfl #[.agg #[.bool a0_0, .slice A0_1 l0_1.length c0_1, .int .i64 a0_2]] rfl (by (try simp only [List.map_toArray, List.map_cons, List.map_nil]); first | done | rfl | (simp only [List.length_drop, List.length_take]; rfl)) ?_; (with_reducible refine (r00Num_Top.calls k a0_0 _ _ l0_1 a0_2 t190 _ ?side1 ?side2 A10.out).mono ?_); (case side1 => repeat (first | exact (Kd.C_below HR0_1.out HB.out) | (with_reducible refine Kd.ZC ?_ _) | (with_reducible refine Kd.ZF ?_ _) | (with_reducible refine Kd.ZN ?_))); (case side2 => exact HC0_1.out); rintro e w27 ⟨rfl, hb⟩; refine ⟨_, rfl, ?_⟩; have n0_ := Zb.mk (Zn (g := gb187) (o := .cells #[.bool a0_0, .slice A0_1 l0_1.length c0_1, .int .i64 a0_2] 48 (0, 0)) (by (with_reducible repeat first | refine Ze ?_ _ | refine Zg ?_ | refine Zf ?_ _); exact BK187.out) hb); have n1_ := Zb.mk (Zn (g := gb188) (o := .cells #[.bool false, .slice none 0 0] 24 (0, 0)) (by (with_reducible repeat first | refine Ze ?_ _ | refine Zg ?_ | refine Zf ?_ _); exact BK188.out) hb); have n2_ := Zb.mk (Zl (by repeat (with_reducible first | exact HB.out | apply Zc | apply Za | apply Zd | refine Zh ?_ GE187.out | refine Zh ?_ GE188.out)) hb); clear BK187; clear BK188; clear HB; have BK187 := n0_; have BK188 := n1_; have HB := n2_; clear n0_ n1_ n2_; (try clear hb); (try clear hb2); (try clear hk); (try clear hi)))
   have n0_ := Zb.mk (Zg BK187.out)
   have n1_ := Zb.mk (Zg BK188.out)
   have n2_ := Zb.mk (Zd HB.out)
   clear BK187
   clear BK188
   clear HB
   have BK187 := n0_
   have BK188 := n1_
   have HB := n2_
   clear n0_ n1_ n2_
   refine start_ (n := 10) (S := fun w' => w'.cell? ⟨gb187, 0, none⟩ = some (.bool a0_0) ∧ w'.cell? ⟨gb187, 1, none⟩ = some (.slice A0_1 l0_1.length c0_1) ∧ w'.cell? ⟨gb187, 2, none⟩ = some (.int .i64 a0_2)) (ds := []) #[false, false, false, false, false, false, false, false, false, false] (by kernel_rfl) rfl rfl ⟨(Zk BK187.out 0).trans rfl, (Zk BK187.out 1).trans rfl, (Zk BK187.out 2).trans rfl⟩ (fun hHeld => ?_); refine with_tabW r00TellInt.tab5 r00TellInt.bits5 (fun HT_ HW_ => ?_)
   generalize w27.drew = w28 at BK187 BK188 HB hHeld ⊢
   refine ZM (i := 0) (N := some 11) (v := ?_) (a' := ?_) #[true, false, false, false, false, false, false, false, false, false] rfl rfl (ZD HT_.out (by kernel_rfl)) (fun _ _ _ h => h) (Or.inl ⟨by rfl, ?_⟩) ?_ ?_
   rotate_left
   ·intro w'
    go_simp
    with_reducible rfl
   rotate_left
   ·simp only [Act.put, List.setIfInBounds_toArray, List.set_cons_zero, List.set_cons_succ, Zx, ZA]
    rfl
   refine ZM (i := 2) (N := some 13) (v := ?_) (a' := ?_) #[true, false, true, false, false, false, false, false, false, false] rfl rfl (ZD HT_.out (by kernel_rfl)) (fun _ _ _ h => h) (Or.inl ⟨by rfl, ?_⟩) ?_ ?_
   rotate_left
   ·intro w'
    go_simp
    with_reducible rfl
   rotate_left
   ·simp only [Act.put, List.setIfInBounds_toArray, List.set_cons_zero, List.set_cons_succ, Zx, ZA]
    rfl
   refine ZM (i := 4) (N := some 15) (v := ?_) (a' := ?_) #[true, false, true, false, true, false, false, false, false, false] rfl rfl (ZD HT_.out (by kernel_rfl)) (fun _ _ _ h => h) (Or.inl ⟨by rfl, ?_⟩) ?_ ?_
   rotate_left
   ·intro w'
    go_simp
    with_reducible rfl
   rotate_left
   ·simp only [Act.put, List.setIfInBounds_toArray, List.set_cons_zero, List.set_cons_succ, Zx, ZA]
    rfl
   refine take_ (i := 1) (N := some 12) (v := ?_) (a' := ?_) #[true, true, true, false, true, false, false, false, false, false] rfl rfl (take_ofW HT_.out HW_.out (by kernel_rfl)) (fun _ _ _ h => h) (Or.inl ⟨by rfl, ?_⟩) hHeld ?_ ?_
   rotate_left
   ·rintro w' ⟨s0, s1, s2⟩
    go_simp
    with_reducible rfl
   rotate_left
   ·simp only [Act.put, List.setIfInBounds_toArray, List.set_cons_zero, List.set_cons_succ, Zx, ZA]
    rfl
   refine take_ (i := 3) (N := some 14) (v := ?_) (a' := ?_) #[true, true, true, true, true, false, false, false, false, false] rfl rfl (take_ofW HT_.out HW_.out (by kernel_rfl)) (fun _ _ _ h => h) (Or.inl ⟨by rfl, ?_⟩) hHeld ?_ ?_
   rotate_left
   ·rintro w' ⟨s0, s1, s2⟩
    go_simp
    with_reducible rfl
   rotate_left
   ·simp only [Act.put, List.setIfInBounds_toArray, List.set_cons_zero, List.set_cons_succ, Zx, ZA]
    rfl
   refine take_ (i := 5) (N := some 16) (v := ?_) (a' := ?_) #[true, true, true, true, true, true, false, false, false, false] rfl rfl (take_ofW HT_.out HW_.out (by kernel_rfl)) (fun _ _ _ h => h) (Or.inl ⟨by rfl, ?_⟩) hHeld ?_ ?_
   rotate_left
   ·rintro w' ⟨s0, s1, s2⟩
    go_simp
    with_reducible rfl
   rotate_left
   ·simp only [Act.put, List.setIfInBounds_toArray, List.set_cons_zero, List.set_cons_succ, Zx, ZA]
    rfl
   refine one_ (i := 6) (N := some 17) #[true, true, true, true, true, true, true, false, false, false] rfl rfl (one_of HT_.out (by kernel_rfl)) (by decide) (fun K hK => ?_)
   refine goes_ Try.func55 (by kernel_rfl) rfl #[.slice A0_1 l0_1.length c0_1, .int .i64 a0_2] (by rfl) rfl rfl (by (try simp only [List.map_toArray, List.map_cons, List.map_nil]); first | done | rfl | (simp only [List.length_drop, List.length_take]; rfl)) ?_
   with_reducible refine (r00NatUp.calls k _ _ l0_1 a0_2 t191 _ ?side1 ?side2 A20.out).mono ?_
   (case side1 => repeat (first | exact (Kd.C_below HR0_1.out HB.out) | (with_reducible refine Kd.ZC ?_ _) | (with_reducible refine Kd.ZF ?_ _) | (with_reducible refine Kd.ZN ?_)))
   (case side2 => exact HC0_1.out)
   rintro e w29 ⟨v192, rfl, ho0, hb⟩
   refine ⟨_, rfl, ?_⟩
   have n0_ := Zb.mk (Kd.ZG ho0 (Zi (by repeat (with_reducible first | exact HB.out | apply Zc | apply Za | apply Zd | refine Zh ?_ GE187.out | refine Zh ?_ GE188.out))))
   have n1_ := Zb.mk (Zn (g := gb187) (o := .cells #[.bool a0_0, .slice A0_1 l0_1.length c0_1, .int .i64 a0_2] 48 (0, 0)) (by (with_reducible repeat first | refine Ze ?_ _ | refine Zg ?_ | refine Zf ?_ _); exact BK187.out) hb)
   have n2_ := Zb.mk (Zn (g := gb188) (o := .cells #[.bool false, .slice none 0 0] 24 (0, 0)) (by (with_reducible repeat first | refine Ze ?_ _ | refine Zg ?_ | refine Zf ?_ _); exact BK188.out) hb)
   have n3_ := Zb.mk (Zl (by repeat (with_reducible first | exact HB.out | apply Zc | apply Za | apply Zd | refine Zh ?_ GE187.out | refine Zh ?_ GE188.out)) hb)
   clear BK187
   clear BK188
   clear HB
   have HO193 := n0_
   have BK187 := n1_
   have BK188 := n2_
   have HB := n3_
   clear n0_ n1_ n2_ n3_
   (try clear hb)
   (try clear hb2)
   (try clear hk)
   (try clear hi)
   (try clear ho0)
   obtain ⟨Ao30, co30, eo30⟩ := Kd.Zy HO193.out
   (first | subst eo30 | (injection eo30 with f1_ f2_ f3_; have f4_ := f1_.symm; have f5_ := f3_.symm; clear f1_ f2_ f3_; subst f4_; subst f5_))
   refine hK.out _ _ ⟨(Zk BK187.out 0).trans rfl, (Zk BK187.out 1).trans rfl, (Zk BK187.out 2).trans rfl⟩ (fun hHeld => ?_)
   clear hK K
   refine norm_ (a' := ?_) ?_ ?_
   rotate_left
   ·show Act.put _ (some 17) _ = _
    simp only [Act.put, List.setIfInBounds_toArray, List.set_cons_zero, List.set_cons_succ, Zx, ZA]
    rfl
   refine ZM (i := 7) (N := some 18) (v := ?_) (a' := ?_) #[true, true, true, true, true, true, true, true, false, false] rfl rfl (ZD HT_.out (by kernel_rfl)) (fun _ _ _ h => h) (Or.inl ⟨by rfl, ?_⟩) ?_ ?_
   rotate_left
   ·intro w'
    go_simp
    with_reducible rfl
   rotate_left
   ·simp only [Act.put, List.setIfInBounds_toArray, List.set_cons_zero, List.set_cons_succ, Zx, ZA]
    rfl
   refine one_ (i := 8) (N := none) #[true, true, true, true, true, true, true, true, true, false] rfl rfl (one_of HT_.out (by kernel_rfl)) (by decide) (fun K hK => ?_)
   have hs31 : w29.cell? ⟨gb188, 0, none⟩ = some (.bool false) := (Zk BK188.out 0).trans rfl
   have hfs31 := Zj BK188.out 0
   have hns31_0 := NB187_188.out
   have hms31_0 := NB188_187.out
   have hs32 : w29.cell? ⟨gb188, 1, none⟩ = some (.slice none 0 0) := (Zk BK188.out 1).trans rfl
   have hfs32 := Zj BK188.out 1
   have hns32_0 := NB187_188.out
   have hms32_0 := NB188_187.out
   refine skip_ (w1 := ?_) (by rfl) rfl ?_ ?_
   rotate_left
   ·go_simp
    rfl
   refine hK.out _ _ ⟨((cell_far (p := ⟨gb188, _, none⟩) NB187_188.out _).trans (((cell_far (p := ⟨gb188, _, none⟩) NB187_188.out _).trans (hHeld.1)))), ((cell_far (p := ⟨gb188, _, none⟩) NB187_188.out _).trans (((cell_far (p := ⟨gb188, _, none⟩) NB187_188.out _).trans (hHeld.2.1)))), ((cell_far (p := ⟨gb188, _, none⟩) NB187_188.out _).trans (((cell_far (p := ⟨gb188, _, none⟩) NB187_188.out _).trans (hHeld.2.2))))⟩ (fun hHeld => ?_)
   clear hK K
   refine ZM (i := 9) (N := some 3) (v := ?_) (a' := ?_) #[true, true, true, true, true, true, true, true, true, true] rfl rfl (ZD HT_.out (by kernel_rfl)) (fun _ _ _ h => h) (Or.inl ⟨by rfl, ?_⟩) ?_ ?_
   rotate_left
   ·intro w'
    go_simp
    with_reducible rfl
   rotate_left
   ·simp only [Act.put, List.setIfInBounds_toArray, List.set_cons_zero, List.set_cons_succ, Zx, ZA]
    rfl
   refine done_ (done_of HT_.out (by kernel_rfl)) ?_
   try go_wp2
   refine bodyPost_ret (results_ct rfl _ _ gb188 24 #[.bool a0_0, .slice Ao30 t191.length co30] (0, 0) _ rfl (by (with_reducible repeat first | refine Ze ?_ _ | refine Zg ?_ | refine Zf ?_ _); refine Zu (cs := #[.bool a0_0, .slice none 0 0]) ?_ 1 _ rfl; (with_reducible repeat first | refine Ze ?_ _ | refine Zg ?_ | refine Zf ?_ _); refine Zu (cs := #[.bool false, .slice none 0 0]) ?_ 0 _ rfl; (with_reducible repeat first | refine Ze ?_ _ | refine Zg ?_ | refine Zf ?_ _); exact BK188.out) Try.underlying24 rfl (by kernel_rfl)) rfl ?_
   exact ⟨_, by first | rfl | (simp [errW_none, errW_some] <;> rfl) | (simp [*, errW_none, errW_some] <;> rfl), by (with_reducible repeat first | apply Kd.Zm | apply Kd.Zo); exact Kd.ZE (Kd.ZH (p := ⟨gb188, 1, none⟩) (Kd.ZH (p := ⟨gb188, 0, none⟩) (Kd.ZI HO193.out BK188.out (by decide)) (fun _ hk => hk.2) (.bool a0_0)) (fun _ hk => hk.2) (.slice Ao30 t191.length co30)) (fun _ hk => trivial), by repeat (with_reducible first | exact HB.out | apply Zc | apply Za | apply Zd | refine Zh ?_ GE187.out | refine Zh ?_ GE188.out)⟩
def rmSmall.f (k : Nat) (a0 : Int) : Option (Bool × List Int) := (r00Whole.f k a0).bind fun bt195 => ((r00TellInt.f k bt195.1 bt195.2.1 bt195.2.2).bind fun bt200 => (some (bt200.1, bt200.2.1)))
theorem rmSmall.mono : ∀ a0 k, LeO (rmSmall.f k a0) (rmSmall.f (k + 1) a0) := by
 intro a0 k
 unfold rmSmall.f
 repeat' first
   | (with_reducible exact r00TellInt.mono _ _ _ _)
   | (with_reducible exact r00Whole.mono _ _)
   | (with_reducible exact LeO.refl _)
   | (with_reducible exact LeO.none _)
   | (with_reducible refine LeO.ite ?_ ?_)
   | (with_reducible refine LeO.bind ?_ (fun _ => ?_))
   | exact r00TellInt.mono _ _ _ _
   | exact r00Whole.mono _ _
   | exact LeO.none _
   | refine LeO.ite ?_ ?_
   | refine LeO.bind ?_ (fun _ => ?_)
set_option maxHeartbeats 8000000 in
set_option maxRecDepth 100000 in
theorem rmSmall.calls (k : Nat) (a0 : Int) (r1 : Bool) (r2 : List Int) (w : World) (h : rmSmall.f k a0 = some (r1, r2)) :
  Calls Try.prog 35 #[.int .i64 a0] w fun e w' => ∃ v1_ : Value, e = .returned (.agg #[.bool r1, v1_]) ∧ Kd.R (Kd.int .u64) 46 w' w.heap.size (fun _ => True) v1_ r2 ∧ Below w.heap.size w w' := by
 have hu24 := Try.underlying24
 have HB := Zb.mk (Below.refl w.heap.size w)
 have H : ((r00Whole.f k a0).bind fun bt195 => ((r00TellInt.f k bt195.1 bt195.2.1 bt195.2.2).bind fun bt200 => (some (bt200.1, bt200.2.1)))) = some (r1, r2) := h
 clear h
 replace H := Option.bind_eq_some_iff.mp H
 obtain ⟨⟨t195, t196, t199⟩, A20, H⟩ := H
 replace H : ((r00TellInt.f k t195 t196 t199).bind fun bt200 => (some (bt200.1, bt200.2.1))) = some (r1, r2) := H
 have A2 := Zb.mk A20
 clear A20
 replace H := Option.bind_eq_some_iff.mp H
 obtain ⟨⟨t200, t201, t204⟩, A30, H⟩ := H
 replace H : (some (t200, t201)) = some (r1, r2) := H
 have A3 := Zb.mk A30
 clear A30
 simp only [Option.some.injEq, Prod.mk.injEq] at H
 obtain ⟨rfl, rfl⟩ := H
 go_enter Try.func35, Try.ntmps35
 go_wp2_with (first | ((with_reducible refine Zt (N := 2) rfl ?_); refine Zs ?hg (N := 2) ?hd (cs := #[.bool false, .slice none 0 0]) (t := 24) ?hr ?_; (case hd => rfl); (case hg => rfl); (case hr => first | (go_simp; done) | (go_simp; rfl)); intro gb194 hg w4 hbox hb; have n0_ := Zb.mk (Zl (by repeat (with_reducible first | exact HB.out | apply Zc | apply Za | apply Zd)) hb); have n1_ := Zb.mk (hbox); have n2_ := Zb.mk ((by rw [hg]; exact (Zi (by repeat (with_reducible first | exact HB.out | apply Zc | apply Za | apply Zd))) : w.heap.size ≤ gb194)); have n3_ := Zb.mk ((by rw [hg]; exact (Zi (by repeat (with_reducible first | exact HB.out | apply Zc | apply Za | apply Zd))) : w.heap.size ≤ gb194)); clear HB; have HB := n0_; have BK194 := n1_; have GW194 := n2_; have GE194 := n3_; clear n0_ n1_ n2_ n3_; clear hb hbox hg) | ((with_reducible refine Zp (f := 27) rfl ?_); refine ZB (some 7) rfl rfl Try.func27 (by kernel_rfl) rfl #[.int .i64 a0] rfl (by (try simp only [List.map_toArray, List.map_cons, List.map_nil]); first | done | rfl | (simp only [List.length_drop, List.length_take]; rfl)) ?_; (with_reducible refine (r00Whole.calls k a0 t195 t196 t199 _ A2.out).mono ?_); rintro e w5 ⟨v197, rfl, ho0, hb⟩; refine ⟨_, rfl, ?_⟩; have n0_ := Zb.mk (Kd.ZG ho0 (Zi (by repeat (with_reducible first | exact HB.out | apply Zc | apply Za | apply Zd | refine Zh ?_ GE194.out)))); have n1_ := Zb.mk (Zn (g := gb194) (o := .cells #[.bool false, .slice none 0 0] 24 (0, 0)) (by (with_reducible repeat first | refine Ze ?_ _ | refine Zg ?_ | refine Zf ?_ _); exact BK194.out) hb); have n2_ := Zb.mk (Zl (by repeat (with_reducible first | exact HB.out | apply Zc | apply Za | apply Zd | refine Zh ?_ GE194.out)) hb); clear BK194; clear HB; have HO198 := n0_; have BK194 := n1_; have HB := n2_; clear n0_ n1_ n2_; (try clear hb); (try clear hb2); (try clear hk); (try clear hi); (try clear ho0); obtain ⟨Ao6, co6, eo6⟩ := Kd.Zy HO198.out; subst eo6) | ((with_reducible refine Zp (f := 73) rfl ?_); refine ZB (some 8) rfl rfl Try.func73 (by kernel_rfl) rfl #[.agg #[.bool t195, .slice Ao6 t196.length co6, .int .i64 t199]] rfl (by (try simp only [List.map_toArray, List.map_cons, List.map_nil]); first | done | rfl | (simp only [List.length_drop, List.length_take]; rfl)) ?_; (with_reducible refine (r00TellInt.calls k t195 _ _ t196 t199 t200 t201 t204 _ ?side1 ?side2 A3.out).mono ?_); (case side1 => repeat (first | exact (Kd.Zv HO198.out).2.2 | (with_reducible refine Kd.ZC ?_ _) | (with_reducible refine Kd.ZF ?_ _) | (with_reducible refine Kd.ZN ?_))); (case side2 => exact (Kd.Zv HO198.out).2.1); rintro e w7 ⟨v202, rfl, ho0, hb⟩; refine ⟨_, rfl, ?_⟩; have n0_ := Zb.mk (Kd.ZJ (by (with_reducible repeat first | apply Kd.Zm | apply Kd.Zo); exact HO198.out) (Kd.ZV ho0) hb); have n1_ := Zb.mk (Kd.ZG (Kd.R_new' ho0 (Kd.R_lt (by (with_reducible repeat first | apply Kd.Zm | apply Kd.Zo); exact HO198.out))) (Zi (by repeat (with_reducible first | exact HB.out | apply Zc | apply Za | apply Zd | refine Zh ?_ GE194.out)))); have n2_ := Zb.mk (Zn (g := gb194) (o := .cells #[.bool false, .slice none 0 0] 24 (0, 0)) (by (with_reducible repeat first | refine Ze ?_ _ | refine Zg ?_ | refine Zf ?_ _); exact BK194.out) hb); have n3_ := Zb.mk (Zl (by repeat (with_reducible first | exact HB.out | apply Zc | apply Za | apply Zd | refine Zh ?_ GE194.out)) hb); clear HO198; clear BK194; clear HB; have HO198 := n0_; have HO203 := n1_; have BK194 := n2_; have HB := n3_; clear n0_ n1_ n2_ n3_; (try clear hb); (try clear hb2); (try clear hk); (try clear hi); (try clear ho0)) | ((with_reducible refine Zt (N := 3) rfl ?_); refine Zs ?hg (N := 3) ?hd (cs := #[.bool false, .slice none 0 0]) (t := 24) ?hr ?_; (case hd => rfl); (case hg => rfl); (case hr => first | (go_simp; done) | (go_simp; rfl)); intro gb205 hg w8 hbox hb; have n0_ := Zb.mk (Kd.Zz (by (with_reducible repeat first | apply Kd.Zm | apply Kd.Zo); exact HO198.out) hb); have n1_ := Zb.mk (Kd.Zz (by (with_reducible repeat first | apply Kd.Zm | apply Kd.Zo); exact HO203.out) hb); have n2_ := Zb.mk (Zn (g := gb194) (o := .cells #[.bool false, .slice none 0 0] 24 (0, 0)) (by (with_reducible repeat first | refine Ze ?_ _ | refine Zg ?_ | refine Zf ?_ _); exact BK194.out) hb); have n3_ := Zb.mk (Zl (by repeat (with_reducible first | exact HB.out | apply Zc | apply Za | apply Zd | refine Zh ?_ GE194.out)) hb); have n4_ := Zb.mk (hbox); have n5_ := Zb.mk ((by rw [hg]; exact (Zi (by repeat (with_reducible first | exact HB.out | apply Zc | apply Za | apply Zd | refine Zh ?_ GE194.out))) : w.heap.size ≤ gb205)); have n6_ := Zb.mk ((by rw [hg]; exact (Zi (by repeat (with_reducible first | exact HB.out | apply Zc | apply Za | apply Zd | refine Zh ?_ GE194.out))) : w.heap.size ≤ gb205)); have n7_ := Zb.mk ((by rw [hg]; exact Nat.ne_of_lt (Zw (g := gb194) (o := .cells #[.bool false, .slice none 0 0] 24 (0, 0)) (by (with_reducible repeat first | refine Ze ?_ _ | refine Zg ?_ | refine Zf ?_ _); exact BK194.out)) : gb194 ≠ gb205)); have n8_ := Zb.mk ((by rw [hg]; exact Nat.ne_of_gt (Zw (g := gb194) (o := .cells #[.bool false, .slice none 0 0] 24 (0, 0)) (by (with_reducible repeat first | refine Ze ?_ _ | refine Zg ?_ | refine Zf ?_ _); exact BK194.out)) : gb205 ≠ gb194)); clear HO198; clear HO203; clear BK194; clear HB; have HO198 := n0_; have HO203 := n1_; have BK194 := n2_; have HB := n3_; have BK205 := n4_; have GW205 := n5_; have GE205 := n6_; have NB194_205 := n7_; have NB205_194 := n8_; clear n0_ n1_ n2_ n3_ n4_ n5_ n6_ n7_ n8_; clear hb hbox hg; have hnb9 := NB205_194.out; have hnc9 := NB194_205.out; have hcz10_0 : w8.cell? ⟨gb205, 0, none⟩ = some (.bool false) := (Zk BK205.out 0).trans rfl; have hcz10_1 : w8.cell? ⟨gb205, 1, none⟩ = some (.slice none 0 0) := (Zk BK205.out 1).trans rfl; have hfz10_0 := Zj BK205.out 0; have hfz10_1 := Zj BK205.out 1; obtain ⟨Ao11, co11, eo11⟩ := Kd.Zy HO203.out; subst eo11; have hcz12_0 : w8.cell? ⟨gb194, 0, none⟩ = some (.bool false) := (Zk BK194.out 0).trans rfl; have hcz12_1 : w8.cell? ⟨gb194, 1, none⟩ = some (.slice none 0 0) := (Zk BK194.out 1).trans rfl; have hfz12_0 := Zj BK194.out 0; have hfz12_1 := Zj BK194.out 1))
 refine bodyPost_ret (results_cell_row rfl _ _ gb194 24 #[.bool t200, .slice Ao11 t201.length co11] (0, 0) _ rfl (by (with_reducible repeat first | refine Ze ?_ _ | refine Zg ?_ | refine Zf ?_ _); refine Zu (cs := #[.bool t200, .slice none 0 0]) ?_ 1 _ rfl; (with_reducible repeat first | refine Ze ?_ _ | refine Zg ?_ | refine Zf ?_ _); refine Zu (cs := #[.bool false, .slice none 0 0]) ?_ 0 _ rfl; (with_reducible repeat first | refine Ze ?_ _ | refine Zg ?_ | refine Zf ?_ _); refine Zr ?_ NB194_205.out _; (with_reducible repeat first | refine Ze ?_ _ | refine Zg ?_ | refine Zf ?_ _); refine Zr ?_ NB194_205.out _; (with_reducible repeat first | refine Ze ?_ _ | refine Zg ?_ | refine Zf ?_ _); exact BK194.out) Try.underlying24 rfl (by kernel_rfl)) rfl ?_
 exact ⟨_, by first | rfl | (simp [errW_none, errW_some] <;> rfl) | (simp [*, errW_none, errW_some] <;> rfl), by (with_reducible repeat first | apply Kd.Zm | apply Kd.Zo); exact Kd.ZE (Kd.ZH (p := ⟨gb194, 1, none⟩) (Kd.ZH (p := ⟨gb194, 0, none⟩) (Kd.ZH (p := ⟨gb205, 1, none⟩) (Kd.ZH (p := ⟨gb205, 0, none⟩) (Kd.ZI (Kd.ZI HO203.out BK205.out (by decide)) BK194.out (by decide)) (fun _ hk => hk.1.2) (.bool t200)) (fun _ hk => hk.1.2) (.slice Ao11 t201.length co11)) (fun _ hk => hk.2) (.bool t200)) (fun _ hk => hk.2) (.slice Ao11 t201.length co11)) (fun _ hk => trivial), by repeat (with_reducible first | exact HB.out | apply Zc | apply Za | apply Zd | refine Zh ?_ GE194.out | refine Zh ?_ GE205.out)⟩
def w19awake.f (k : Nat)  : Option (Bool) := (rmSmall.f k (-255)).bind fun bt206 => ((base_Print.f k bt206.1 bt206.2 16).bind fun bt210 => ((base_Parse.f k (⟨#[122]⟩ : ByteArray) 36).bind fun bt212 => ((rmSmall.f k (-255)).bind fun bt220 => ((base_Count.f k bt220.1 bt220.2 16).bind fun bt224 => (if bt210.1.toList = ([45, 102, 102] : List UInt8) then (if bt210.2 = 0 then (if (bt212.2.2.1 == 0 && (bt212.2.2.2 == 0)) = true then ((rmSmall.f k 35).bind fun bt226 => ((rkSameInt.f k bt212.1 bt212.2.1 bt226.1 bt226.2).bind fun t230 => (if t230 = true then (if bt224.1 = 2 then (some (bt224.2 == 0)) else (none)) else (none)))) else (none)) else (none)) else (none))))))
theorem w19awake.mono : ∀ k, LeO (w19awake.f k ) (w19awake.f (k + 1) ) := by
 intro  k
 unfold w19awake.f
 repeat' first
   | (with_reducible exact base_Count.mono _ _ _ _)
   | (with_reducible exact base_Parse.mono _ _ _)
   | (with_reducible exact base_Print.mono _ _ _ _)
   | (with_reducible exact rkSameInt.mono _ _ _ _ _)
   | (with_reducible exact rmSmall.mono _ _)
   | (with_reducible exact LeO.refl _)
   | (with_reducible exact LeO.none _)
   | (with_reducible refine LeO.ite ?_ ?_)
   | (with_reducible refine LeO.bind ?_ (fun _ => ?_))
   | exact base_Count.mono _ _ _ _
   | exact base_Parse.mono _ _ _
   | exact base_Print.mono _ _ _ _
   | exact rkSameInt.mono _ _ _ _ _
   | exact rmSmall.mono _ _
   | exact LeO.none _
   | refine LeO.ite ?_ ?_
   | refine LeO.bind ?_ (fun _ => ?_)
def w19awake.T4 : Bool × List (List Nat × List Nat) := (true, [([], []), ([0], [0]), ([1], [1]), ([2], [2]), ([3, 2], [2, 3]), ([2, 4], [2, 4]), ([5, 2], [5]), ([6], [6]), ([6], [6]), ([7, 8, 6], [6, 7, 8]), ([6, 9], [6, 9]), ([10, 6], [10]), ([11], [11]), ([11, 11], [11]), ([12, 13, 13, 11], [11, 12, 13]), ([11, 14], [11, 14]), ([15, 14], [15]), ([16], [16]), ([17, 16], [16, 17]), ([16, 18], [16, 18]), ([19, 16], [19]), ([20], [20]), ([21, 20], [20, 21]), ([20, 22], [20, 22]), ([23, 20, 0, 1, 2, 3, 4, 5, 6, 7, 8, 9, 10, 11, 12, 13, 14, 15, 16, 17, 18, 19, 20, 21, 22, 23], [23])])
def w19awake.B4 : List Nat := [0, 1, 3, 7, 15, 31, 63, 127, 127, 511, 1023, 2047, 4095, 4095, 16383, 32767, 65535, 131071, 262143, 524287, 1048575, 2097151, 4194303, 8388607, 16777215]
theorem w19awake.tab4 : rtab .any (opsOf Try.f10 4) = w19awake.T4 := by kernel_rfl
theorem w19awake.bits4 : waitsOk w19awake.T4.2 w19awake.B4 = true := by kernel_rfl
set_option maxHeartbeats 8000000 in
set_option maxRecDepth 100000 in
theorem w19awake.calls (k : Nat)  (r : Bool) (w : World) (h : w19awake.f k  = some r) :
  Calls Try.prog 10 #[] w fun e w' => e = .returned (.bool r) ∧ Below w.heap.size w w' := by
 have hu24 := Try.underlying24
 have hu35 := Try.underlying35
 have HB := Zb.mk (Below.refl w.heap.size w)
 have H : ((rmSmall.f k (-255)).bind fun bt206 => ((base_Print.f k bt206.1 bt206.2 16).bind fun bt210 => ((base_Parse.f k (⟨#[122]⟩ : ByteArray) 36).bind fun bt212 => ((rmSmall.f k (-255)).bind fun bt220 => ((base_Count.f k bt220.1 bt220.2 16).bind fun bt224 => (if bt210.1.toList = ([45, 102, 102] : List UInt8) then (if bt210.2 = 0 then (if (bt212.2.2.1 == 0 && (bt212.2.2.2 == 0)) = true then ((rmSmall.f k 35).bind fun bt226 => ((rkSameInt.f k bt212.1 bt212.2.1 bt226.1 bt226.2).bind fun t230 => (if t230 = true then (if bt224.1 = 2 then (some (bt224.2 == 0)) else (none)) else (none)))) else (none)) else (none)) else (none))))))) = some r := h
 clear h
 replace H := Option.bind_eq_some_iff.mp H
 obtain ⟨⟨t206, t207⟩, A10, H⟩ := H
 replace H : ((base_Print.f k t206 t207 16).bind fun bt210 => ((base_Parse.f k (⟨#[122]⟩ : ByteArray) 36).bind fun bt212 => ((rmSmall.f k (-255)).bind fun bt220 => ((base_Count.f k bt220.1 bt220.2 16).bind fun bt224 => (if bt210.1.toList = ([45, 102, 102] : List UInt8) then (if bt210.2 = 0 then (if (bt212.2.2.1 == 0 && (bt212.2.2.2 == 0)) = true then ((rmSmall.f k 35).bind fun bt226 => ((rkSameInt.f k bt212.1 bt212.2.1 bt226.1 bt226.2).bind fun t230 => (if t230 = true then (if bt224.1 = 2 then (some (bt224.2 == 0)) else (none)) else (none)))) else (none)) else (none)) else (none)))))) = some r := H
 have A1 := Zb.mk A10
 clear A10
 replace H := Option.bind_eq_some_iff.mp H
 obtain ⟨⟨t210, t211⟩, A20, H⟩ := H
 replace H : ((base_Parse.f k (⟨#[122]⟩ : ByteArray) 36).bind fun bt212 => ((rmSmall.f k (-255)).bind fun bt220 => ((base_Count.f k bt220.1 bt220.2 16).bind fun bt224 => (if t210.toList = ([45, 102, 102] : List UInt8) then (if t211 = 0 then (if (bt212.2.2.1 == 0 && (bt212.2.2.2 == 0)) = true then ((rmSmall.f k 35).bind fun bt226 => ((rkSameInt.f k bt212.1 bt212.2.1 bt226.1 bt226.2).bind fun t230 => (if t230 = true then (if bt224.1 = 2 then (some (bt224.2 == 0)) else (none)) else (none)))) else (none)) else (none)) else (none))))) = some r := H
 have A2 := Zb.mk A20
 clear A20
 replace H := Option.bind_eq_some_iff.mp H
 obtain ⟨⟨t212, t213, t216, t217⟩, A30, H⟩ := H
 replace H : ((rmSmall.f k (-255)).bind fun bt220 => ((base_Count.f k bt220.1 bt220.2 16).bind fun bt224 => (if t210.toList = ([45, 102, 102] : List UInt8) then (if t211 = 0 then (if (t216 == 0 && (t217 == 0)) = true then ((rmSmall.f k 35).bind fun bt226 => ((rkSameInt.f k t212 t213 bt226.1 bt226.2).bind fun t230 => (if t230 = true then (if bt224.1 = 2 then (some (bt224.2 == 0)) else (none)) else (none)))) else (none)) else (none)) else (none)))) = some r := H
 have A3 := Zb.mk A30
 clear A30
 replace H := Option.bind_eq_some_iff.mp H
 obtain ⟨⟨t220, t221⟩, A40, H⟩ := H
 replace H : ((base_Count.f k t220 t221 16).bind fun bt224 => (if t210.toList = ([45, 102, 102] : List UInt8) then (if t211 = 0 then (if (t216 == 0 && (t217 == 0)) = true then ((rmSmall.f k 35).bind fun bt226 => ((rkSameInt.f k t212 t213 bt226.1 bt226.2).bind fun t230 => (if t230 = true then (if bt224.1 = 2 then (some (bt224.2 == 0)) else (none)) else (none)))) else (none)) else (none)) else (none))) = some r := H
 have A4 := Zb.mk A40
 clear A40
 replace H := Option.bind_eq_some_iff.mp H
 obtain ⟨⟨t224, t225⟩, A50, H⟩ := H
 replace H : (if t210.toList = ([45, 102, 102] : List UInt8) then (if t211 = 0 then (if (t216 == 0 && (t217 == 0)) = true then ((rmSmall.f k 35).bind fun bt226 => ((rkSameInt.f k t212 t213 bt226.1 bt226.2).bind fun t230 => (if t230 = true then (if t224 = 2 then (some (t225 == 0)) else (none)) else (none)))) else (none)) else (none)) else (none)) = some r := H
 have A5 := Zb.mk A50
 clear A50
 by_cases c6 : t210.toList = ([45, 102, 102] : List UInt8)
 ·rw [if_pos c6] at H
  have c6b0 : (t210.toList == ([45, 102, 102] : List UInt8)) = true := beq_iff_eq.mpr c6
  have c6b1 : (t210.toList != ([45, 102, 102] : List UInt8)) = false := bne_eq_false_iff_eq.mpr c6
  clear c6
  by_cases c7 : t211 = 0
  ·rw [if_pos c7] at H
   have c7b0 : (t211 == 0) = true := beq_iff_eq.mpr c7
   have c7b1 : (t211 != 0) = false := bne_eq_false_iff_eq.mpr c7
   clear c7
   by_cases c8 : (t216 == 0 && (t217 == 0)) = true
   ·rw [if_pos c8] at H
    have c8b0 : (t216 == 0 && (t217 == 0)) = true := c8
    (try (have c8b1 : decide (t216 = 0 && (t217 == 0)) = true := by simpa using c8))
    (try (have c8b2 : (t216 == 0 && (t217 == 0)) = true := by simpa using c8))
    clear c8
    replace H := Option.bind_eq_some_iff.mp H
    obtain ⟨⟨t226, t227⟩, A90, H⟩ := H
    replace H : ((rkSameInt.f k t212 t213 t226 t227).bind fun t230 => (if t230 = true then (if t224 = 2 then (some (t225 == 0)) else (none)) else (none))) = some r := H
    have A9 := Zb.mk A90
    clear A90
    replace H := Option.bind_eq_some_iff.mp H
    obtain ⟨t230, A100, H⟩ := H
    replace H : (if t230 = true then (if t224 = 2 then (some (t225 == 0)) else (none)) else (none)) = some r := H
    have A10 := Zb.mk A100
    clear A100
    by_cases c11 : t230 = true
    ·subst c11
     have H1 : (if t224 = 2 then (some (t225 == 0)) else (none)) = some r := by rw [if_pos rfl] at H; exact H
     clear H
     have H := H1
     clear H1
     by_cases c12 : t224 = 2
     ·rw [if_pos c12] at H
      have c12b0 : (t224 == 2) = true := beq_iff_eq.mpr c12
      have c12b1 : (t224 != 2) = false := bne_eq_false_iff_eq.mpr c12
      clear c12
      obtain rfl := Option.some.inj H
      go_enter Try.func10, Try.ntmps10
      try go_wp2_with (first | ((with_reducible refine Zp (f := 35) rfl ?_); refine ZB (some 8) rfl rfl Try.func35 (by kernel_rfl) rfl #[.int .i64 (-255)] rfl (by (try simp only [List.map_toArray, List.map_cons, List.map_nil]); first | done | rfl | (simp only [List.length_drop, List.length_take]; rfl)) ?_; (with_reducible refine (rmSmall.calls k (-255) t206 t207 _ A1.out).mono ?_); rintro e w13 ⟨v208, rfl, ho0, hb⟩; refine ⟨_, rfl, ?_⟩; have n0_ := Zb.mk (Kd.ZG ho0 (Zi (by repeat (with_reducible first | exact HB.out | apply Zc | apply Za | apply Zd)))); have n1_ := Zb.mk (Zl (by repeat (with_reducible first | exact HB.out | apply Zc | apply Za | apply Zd)) hb); clear HB; have HO209 := n0_; have HB := n1_; clear n0_ n1_; (try clear hb); (try clear hb2); (try clear hk); (try clear hi); (try clear ho0); obtain ⟨Ao14, co14, eo14⟩ := Kd.Zy HO209.out; subst eo14) | ((with_reducible refine Zp (f := 12) rfl ?_); refine ZB (some 9) rfl rfl Try.func12 (by kernel_rfl) rfl #[.agg #[.bool t206, .slice Ao14 t207.length co14], .int .i64 16] rfl (by (try simp only [List.map_toArray, List.map_cons, List.map_nil]); first | done | rfl | (simp only [List.length_drop, List.length_take]; rfl)) ?_; (with_reducible refine (base_Print.calls k t206 _ _ t207 16 t210 t211 _ ?side1 ?side2 A2.out).mono ?_); (case side1 => repeat (first | exact (Kd.Zv HO209.out).2.2 | (with_reducible refine Kd.ZC ?_ _) | (with_reducible refine Kd.ZF ?_ _) | (with_reducible refine Kd.ZN ?_))); (case side2 => exact (Kd.Zv HO209.out).2.1); rintro e w15 ⟨rfl, hb⟩; refine ⟨_, rfl, ?_⟩; have n0_ := Zb.mk (Kd.Zz (by (with_reducible repeat first | apply Kd.Zm | apply Kd.Zo); exact HO209.out) hb); have n1_ := Zb.mk (Zl (by repeat (with_reducible first | exact HB.out | apply Zc | apply Za | apply Zd)) hb); clear HO209; clear HB; have HO209 := n0_; have HB := n1_; clear n0_ n1_; (try clear hb); (try clear hb2); (try clear hk); (try clear hi)) | ((with_reducible refine Zp (f := 17) rfl ?_); refine ZB (some 13) rfl rfl Try.func17 (by kernel_rfl) rfl #[.string (⟨#[122]⟩ : ByteArray), .int .i64 36] rfl (by (try simp only [List.map_toArray, List.map_cons, List.map_nil]); first | done | rfl | (simp only [List.length_drop, List.length_take]; rfl)) ?_; (with_reducible refine (base_Parse.calls k (⟨#[122]⟩ : ByteArray) 36 t212 t213 t216 t217 _ A3.out).mono ?_); rintro e w16 ⟨v214, rfl, ho0, hb⟩; refine ⟨_, rfl, ?_⟩; have n0_ := Zb.mk (Kd.ZJ (by (with_reducible repeat first | apply Kd.Zm | apply Kd.Zo); exact HO209.out) (Kd.ZV ho0) hb); have n1_ := Zb.mk (Kd.ZG (Kd.R_new' ho0 (Kd.R_lt (by (with_reducible repeat first | apply Kd.Zm | apply Kd.Zo); exact HO209.out))) (Zi (by repeat (with_reducible first | exact HB.out | apply Zc | apply Za | apply Zd)))); have n2_ := Zb.mk (Zl (by repeat (with_reducible first | exact HB.out | apply Zc | apply Za | apply Zd)) hb); clear HO209; clear HB; have HO209 := n0_; have HO215 := n1_; have HB := n2_; clear n0_ n1_ n2_; (try clear hb); (try clear hb2); (try clear hk); (try clear hi); (try clear ho0)) | ((with_reducible refine Zt (N := 3) rfl ?_); refine Zs ?hg (N := 3) ?hd (cs := #[.bool false, .slice none 0 0]) (t := 24) ?hr ?_; (case hd => rfl); (case hg => rfl); (case hr => first | (go_simp; done) | (go_simp; rfl)); intro gb218 hg w17 hbox hb; have n0_ := Zb.mk (Kd.Zz (by (with_reducible repeat first | apply Kd.Zm | apply Kd.Zo); exact HO209.out) hb); have n1_ := Zb.mk (Kd.Zz (by (with_reducible repeat first | apply Kd.Zm | apply Kd.Zo); exact HO215.out) hb); have n2_ := Zb.mk (Zl (by repeat (with_reducible first | exact HB.out | apply Zc | apply Za | apply Zd)) hb); have n3_ := Zb.mk (hbox); have n4_ := Zb.mk ((by rw [hg]; exact (Zi (by repeat (with_reducible first | exact HB.out | apply Zc | apply Za | apply Zd))) : w.heap.size ≤ gb218)); have n5_ := Zb.mk ((by rw [hg]; exact (Zi (by repeat (with_reducible first | exact HB.out | apply Zc | apply Za | apply Zd))) : w.heap.size ≤ gb218)); clear HO209; clear HO215; clear HB; have HO209 := n0_; have HO215 := n1_; have HB := n2_; have BK218 := n3_; have GW218 := n4_; have GE218 := n5_; clear n0_ n1_ n2_ n3_ n4_ n5_; clear hb hbox hg) | ((with_reducible refine Zt (N := 4) rfl ?_); refine Zs ?hg (N := 4) ?hd (cs := #[.int .i64 0, .int .i64 0]) (t := 35) ?hr ?_; (case hd => rfl); (case hg => rfl); (case hr => first | (go_simp; done) | (go_simp; rfl)); intro gb219 hg w18 hbox hb; have n0_ := Zb.mk (Kd.Zz (by (with_reducible repeat first | apply Kd.Zm | apply Kd.Zo); exact HO209.out) hb); have n1_ := Zb.mk (Kd.Zz (by (with_reducible repeat first | apply Kd.Zm | apply Kd.Zo); exact HO215.out) hb); have n2_ := Zb.mk (Zn (g := gb218) (o := .cells #[.bool false, .slice none 0 0] 24 (0, 0)) (by (with_reducible repeat first | refine Ze ?_ _ | refine Zg ?_ | refine Zf ?_ _); exact BK218.out) hb); have n3_ := Zb.mk (Zl (by repeat (with_reducible first | exact HB.out | apply Zc | apply Za | apply Zd | refine Zh ?_ GE218.out)) hb); have n4_ := Zb.mk (hbox); have n5_ := Zb.mk ((by rw [hg]; exact (Zi (by repeat (with_reducible first | exact HB.out | apply Zc | apply Za | apply Zd | refine Zh ?_ GE218.out))) : w.heap.size ≤ gb219)); have n6_ := Zb.mk ((by rw [hg]; exact (Zi (by repeat (with_reducible first | exact HB.out | apply Zc | apply Za | apply Zd | refine Zh ?_ GE218.out))) : w.heap.size ≤ gb219)); have n7_ := Zb.mk ((by rw [hg]; exact Nat.ne_of_lt (Zw (g := gb218) (o := .cells #[.bool false, .slice none 0 0] 24 (0, 0)) (by (with_reducible repeat first | refine Ze ?_ _ | refine Zg ?_ | refine Zf ?_ _); exact BK218.out)) : gb218 ≠ gb219)); have n8_ := Zb.mk ((by rw [hg]; exact Nat.ne_of_gt (Zw (g := gb218) (o := .cells #[.bool false, .slice none 0 0] 24 (0, 0)) (by (with_reducible repeat first | refine Ze ?_ _ | refine Zg ?_ | refine Zf ?_ _); exact BK218.out)) : gb219 ≠ gb218)); clear HO209; clear HO215; clear BK218; clear HB; have HO209 := n0_; have HO215 := n1_; have BK218 := n2_; have HB := n3_; have BK219 := n4_; have GW219 := n5_; have GE219 := n6_; have NB218_219 := n7_; have NB219_218 := n8_; clear n0_ n1_ n2_ n3_ n4_ n5_ n6_ n7_ n8_; clear hb hbox hg; have hnb19 := NB218_219.out; have hnc19 := NB219_218.out; have hcz20_0 : w18.cell? ⟨gb218, 0, none⟩ = some (.bool false) := (Zk BK218.out 0).trans rfl; have hcz20_1 : w18.cell? ⟨gb218, 1, none⟩ = some (.slice none 0 0) := (Zk BK218.out 1).trans rfl; have hfz20_0 := Zj BK218.out 0; have hfz20_1 := Zj BK218.out 1; obtain ⟨Ao21, co21, eo21⟩ := Kd.Zy HO215.out; subst eo21; have hcz22_0 : w18.cell? ⟨gb219, 0, none⟩ = some (.int .i64 0) := (Zk BK219.out 0).trans rfl; have hcz22_1 : w18.cell? ⟨gb219, 1, none⟩ = some (.int .i64 0) := (Zk BK219.out 1).trans rfl; have hfz22_0 := Zj BK219.out 0; have hfz22_1 := Zj BK219.out 1) | ((with_reducible refine Zp (f := 35) rfl ?_); refine ZB (some 17) rfl rfl Try.func35 (by kernel_rfl) rfl #[.int .i64 (-255)] rfl (by (try simp only [List.map_toArray, List.map_cons, List.map_nil]); first | done | rfl | (simp only [List.length_drop, List.length_take]; rfl)) ?_; (with_reducible refine (rmSmall.calls k (-255) t220 t221 _ A4.out).mono ?_); rintro e w23 ⟨v222, rfl, ho0, hb⟩; refine ⟨_, rfl, ?_⟩; have n0_ := Zb.mk (Kd.ZJ (by (with_reducible repeat first | apply Kd.Zm | apply Kd.Zo); exact (Kd.ZE (Kd.ZE (Kd.ZH (p := ⟨gb219, 1, none⟩) (Kd.ZH (p := ⟨gb219, 0, none⟩) (Kd.ZH (p := ⟨gb218, 1, none⟩) (Kd.ZH (p := ⟨gb218, 0, none⟩) (Kd.ZI (Kd.ZI HO209.out BK218.out (by decide)) BK219.out (by decide)) (fun _ hk => hk.1.2) (.bool t212)) (fun _ hk => hk.1.2) (.slice Ao21 t213.length co21)) (fun _ hk => hk.2) (.int .i64 t216)) (fun _ hk => hk.2) (.int .i64 t217)) (fun _ h_ => h_.1)) (fun _ h_ => h_.1))) (Kd.ZV ho0) hb); have n1_ := Zb.mk (Kd.ZJ (by (with_reducible repeat first | apply Kd.Zm | apply Kd.Zo); exact (Kd.ZE (Kd.ZE (Kd.ZH (p := ⟨gb219, 1, none⟩) (Kd.ZH (p := ⟨gb219, 0, none⟩) (Kd.ZH (p := ⟨gb218, 1, none⟩) (Kd.ZH (p := ⟨gb218, 0, none⟩) (Kd.ZI (Kd.ZI HO215.out BK218.out (by decide)) BK219.out (by decide)) (fun _ hk => hk.1.2) (.bool t212)) (fun _ hk => hk.1.2) (.slice Ao21 t213.length co21)) (fun _ hk => hk.2) (.int .i64 t216)) (fun _ hk => hk.2) (.int .i64 t217)) (fun _ h_ => h_.1)) (fun _ h_ => h_.1))) (Kd.ZV ho0) hb); have n2_ := Zb.mk (Kd.ZG (Kd.R_new' (Kd.R_new' ho0 (Kd.R_lt (by (with_reducible repeat first | apply Kd.Zm | apply Kd.Zo); exact (Kd.ZE (Kd.ZE (Kd.ZH (p := ⟨gb219, 1, none⟩) (Kd.ZH (p := ⟨gb219, 0, none⟩) (Kd.ZH (p := ⟨gb218, 1, none⟩) (Kd.ZH (p := ⟨gb218, 0, none⟩) (Kd.ZI (Kd.ZI HO209.out BK218.out (by decide)) BK219.out (by decide)) (fun _ hk => hk.1.2) (.bool t212)) (fun _ hk => hk.1.2) (.slice Ao21 t213.length co21)) (fun _ hk => hk.2) (.int .i64 t216)) (fun _ hk => hk.2) (.int .i64 t217)) (fun _ h_ => h_.1)) (fun _ h_ => h_.1))))) (Kd.R_lt (by (with_reducible repeat first | apply Kd.Zm | apply Kd.Zo); exact (Kd.ZE (Kd.ZE (Kd.ZH (p := ⟨gb219, 1, none⟩) (Kd.ZH (p := ⟨gb219, 0, none⟩) (Kd.ZH (p := ⟨gb218, 1, none⟩) (Kd.ZH (p := ⟨gb218, 0, none⟩) (Kd.ZI (Kd.ZI HO215.out BK218.out (by decide)) BK219.out (by decide)) (fun _ hk => hk.1.2) (.bool t212)) (fun _ hk => hk.1.2) (.slice Ao21 t213.length co21)) (fun _ hk => hk.2) (.int .i64 t216)) (fun _ hk => hk.2) (.int .i64 t217)) (fun _ h_ => h_.1)) (fun _ h_ => h_.1))))) (Zi (by repeat (with_reducible first | exact HB.out | apply Zc | apply Za | apply Zd | refine Zh ?_ GE218.out | refine Zh ?_ GE219.out)))); have n3_ := Zb.mk (Zn (g := gb218) (o := .cells #[.bool t212, .slice Ao21 t213.length co21] 24 (0, 0)) (by (with_reducible repeat first | refine Ze ?_ _ | refine Zg ?_ | refine Zf ?_ _); refine Zr ?_ NB218_219.out _; (with_reducible repeat first | refine Ze ?_ _ | refine Zg ?_ | refine Zf ?_ _); refine Zr ?_ NB218_219.out _; (with_reducible repeat first | refine Ze ?_ _ | refine Zg ?_ | refine Zf ?_ _); refine Zu (cs := #[.bool t212, .slice none 0 0]) ?_ 1 _ rfl; (with_reducible repeat first | refine Ze ?_ _ | refine Zg ?_ | refine Zf ?_ _); refine Zu (cs := #[.bool false, .slice none 0 0]) ?_ 0 _ rfl; (with_reducible repeat first | refine Ze ?_ _ | refine Zg ?_ | refine Zf ?_ _); exact BK218.out) hb); have n4_ := Zb.mk (Zn (g := gb219) (o := .cells #[.int .i64 t216, .int .i64 t217] 35 (0, 0)) (by (with_reducible repeat first | refine Ze ?_ _ | refine Zg ?_ | refine Zf ?_ _); refine Zu (cs := #[.int .i64 t216, .int .i64 0]) ?_ 1 _ rfl; (with_reducible repeat first | refine Ze ?_ _ | refine Zg ?_ | refine Zf ?_ _); refine Zu (cs := #[.int .i64 0, .int .i64 0]) ?_ 0 _ rfl; (with_reducible repeat first | refine Ze ?_ _ | refine Zg ?_ | refine Zf ?_ _); refine Zr ?_ NB219_218.out _; (with_reducible repeat first | refine Ze ?_ _ | refine Zg ?_ | refine Zf ?_ _); refine Zr ?_ NB219_218.out _; (with_reducible repeat first | refine Ze ?_ _ | refine Zg ?_ | refine Zf ?_ _); exact BK219.out) hb); have n5_ := Zb.mk (Zl (by repeat (with_reducible first | exact HB.out | apply Zc | apply Za | apply Zd | refine Zh ?_ GE218.out | refine Zh ?_ GE219.out)) hb); clear HO209; clear HO215; clear BK218; clear BK219; clear HB; have HO209 := n0_; have HO215 := n1_; have HO223 := n2_; have BK218 := n3_; have BK219 := n4_; have HB := n5_; clear n0_ n1_ n2_ n3_ n4_ n5_; (try clear hb); (try clear hb2); (try clear hk); (try clear hi); (try clear ho0); obtain ⟨Ao24, co24, eo24⟩ := Kd.Zy HO223.out; subst eo24) | ((with_reducible refine Zp (f := 14) rfl ?_); refine ZB (some 18) rfl rfl Try.func14 (by kernel_rfl) rfl #[.agg #[.bool t220, .slice Ao24 t221.length co24], .int .i64 16] rfl (by (try simp only [List.map_toArray, List.map_cons, List.map_nil]); first | done | rfl | (simp only [List.length_drop, List.length_take]; rfl)) ?_; (with_reducible refine (base_Count.calls k t220 _ _ t221 16 t224 t225 _ ?side1 ?side2 A5.out).mono ?_); (case side1 => repeat (first | exact (Kd.Zv HO223.out).2.2 | (with_reducible refine Kd.ZC ?_ _) | (with_reducible refine Kd.ZF ?_ _) | (with_reducible refine Kd.ZN ?_))); (case side2 => exact (Kd.Zv HO223.out).2.1); rintro e w25 ⟨rfl, hb⟩; refine ⟨_, rfl, ?_⟩; have n0_ := Zb.mk (Kd.Zz (by (with_reducible repeat first | apply Kd.Zm | apply Kd.Zo); exact HO209.out) hb); have n1_ := Zb.mk (Kd.Zz (by (with_reducible repeat first | apply Kd.Zm | apply Kd.Zo); exact HO215.out) hb); have n2_ := Zb.mk (Kd.Zz (by (with_reducible repeat first | apply Kd.Zm | apply Kd.Zo); exact HO223.out) hb); have n3_ := Zb.mk (Zn (g := gb218) (o := .cells #[.bool t212, .slice Ao21 t213.length co21] 24 (0, 0)) (by (with_reducible repeat first | refine Ze ?_ _ | refine Zg ?_ | refine Zf ?_ _); exact BK218.out) hb); have n4_ := Zb.mk (Zn (g := gb219) (o := .cells #[.int .i64 t216, .int .i64 t217] 35 (0, 0)) (by (with_reducible repeat first | refine Ze ?_ _ | refine Zg ?_ | refine Zf ?_ _); exact BK219.out) hb); have n5_ := Zb.mk (Zl (by repeat (with_reducible first | exact HB.out | apply Zc | apply Za | apply Zd | refine Zh ?_ GE218.out | refine Zh ?_ GE219.out)) hb); clear HO209; clear HO215; clear HO223; clear BK218; clear BK219; clear HB; have HO209 := n0_; have HO215 := n1_; have HO223 := n2_; have BK218 := n3_; have BK219 := n4_; have HB := n5_; clear n0_ n1_ n2_ n3_ n4_ n5_; (try clear hb); (try clear hb2); (try clear hk); (try clear hi)))
      have n0_ := Zb.mk (Kd.Zo HO209.out)
      have n1_ := Zb.mk (Kd.Zo HO215.out)
      have n2_ := Zb.mk (Kd.Zo HO223.out)
      have n3_ := Zb.mk (Zg BK218.out)
      have n4_ := Zb.mk (Zg BK219.out)
      have n5_ := Zb.mk (Zd HB.out)
      clear HO209
      clear HO215
      clear HO223
      clear BK218
      clear BK219
      clear HB
      have HO209 := n0_
      have HO215 := n1_
      have HO223 := n2_
      have BK218 := n3_
      have BK219 := n4_
      have HB := n5_
      clear n0_ n1_ n2_ n3_ n4_ n5_
      refine start_ (n := 25) (S := fun w' => w'.cell? ⟨gb219, 0, none⟩ = some (.int .i64 t216) ∧ w'.cell? ⟨gb219, 1, none⟩ = some (.int .i64 t217) ∧ w'.cell? ⟨gb218, 0, none⟩ = some (.bool t212) ∧ w'.cell? ⟨gb218, 1, none⟩ = some (.slice Ao21 t213.length co21)) (ds := []) #[false, false, false, false, false, false, false, false, false, false, false, false, false, false, false, false, false, false, false, false, false, false, false, false, false] (by kernel_rfl) rfl rfl ⟨(Zk BK219.out 0).trans rfl, (Zk BK219.out 1).trans rfl, (Zk BK218.out 0).trans rfl, (Zk BK218.out 1).trans rfl⟩ (fun hHeld => ?_); refine with_tabW w19awake.tab4 w19awake.bits4 (fun HT_ HW_ => ?_)
      generalize w25.drew = w26 at HO209 HO215 HO223 BK218 BK219 HB hHeld ⊢
      refine ZM (i := 0) (N := some 21) (v := ?_) (a' := ?_) #[true, false, false, false, false, false, false, false, false, false, false, false, false, false, false, false, false, false, false, false, false, false, false, false, false] rfl rfl (ZD HT_.out (by kernel_rfl)) (fun _ _ _ h => h) (Or.inl ⟨by rfl, ?_⟩) ?_ ?_
      rotate_left
      ·intro w'
       go_simp
       with_reducible rfl
      rotate_left
      ·simp only [Act.put, List.setIfInBounds_toArray, List.set_cons_zero, List.set_cons_succ, Zx, ZA]
       rfl
      refine ZM (i := 1) (N := some 22) (v := ?_) (a' := ?_) #[true, true, false, false, false, false, false, false, false, false, false, false, false, false, false, false, false, false, false, false, false, false, false, false, false] rfl rfl (ZD HT_.out (by kernel_rfl)) (fun _ _ _ h => h) (Or.inl ⟨by rfl, ?_⟩) ?_ ?_
      rotate_left
      ·intro w'
       go_simp
       with_reducible rfl
      rotate_left
      ·simp only [Act.put, List.setIfInBounds_toArray, List.set_cons_zero, List.set_cons_succ, Zx, ZA]
       rfl
      refine ZM (i := 2) (N := some 23) (v := ?_) (a' := ?_) #[true, true, true, false, false, false, false, false, false, false, false, false, false, false, false, false, false, false, false, false, false, false, false, false, false] rfl rfl (ZD HT_.out (by kernel_rfl)) (fun _ _ _ h => h) (Or.inl ⟨by rfl, ?_⟩) ?_ ?_
      rotate_left
      ·intro w'
       go_simp
       with_reducible rfl
      rotate_left
      ·simp only [Act.put, List.setIfInBounds_toArray, List.set_cons_zero, List.set_cons_succ, Zx, ZA]
       rfl
      refine ZM (i := 3) (N := some 24) (v := ?_) (a' := ?_) #[true, true, true, true, false, false, false, false, false, false, false, false, false, false, false, false, false, false, false, false, false, false, false, false, false] rfl rfl (ZD HT_.out (by kernel_rfl)) (fun _ _ _ h => h) (Or.inl ⟨by rfl, ?_⟩) ?_ ?_
      rotate_left
      ·intro w'
       go_simp
       with_reducible rfl
      rotate_left
      ·simp only [Act.put, List.setIfInBounds_toArray, List.set_cons_zero, List.set_cons_succ, Zx, ZA]
       rfl
      refine ZM (i := 4) (N := some 25) (v := ?_) (a' := ?_) #[true, true, true, true, true, false, false, false, false, false, false, false, false, false, false, false, false, false, false, false, false, false, false, false, false] rfl rfl (ZD HT_.out (by kernel_rfl)) (fun _ _ _ h => h) (Or.inl ⟨by rfl, ?_⟩) ?_ ?_
      rotate_left
      ·intro w'
       go_simp
       with_reducible rfl
      rotate_left
      ·simp only [Act.put, List.setIfInBounds_toArray, List.set_cons_zero, List.set_cons_succ, Zx, ZA]
       rfl
      refine ZM (i := 5) (N := some 26) (v := ?_) (a' := ?_) #[true, true, true, true, true, true, false, false, false, false, false, false, false, false, false, false, false, false, false, false, false, false, false, false, false] rfl rfl (ZD HT_.out (by kernel_rfl)) (fun _ _ _ h => h) (Or.inl ⟨by rfl, ?_⟩) ?_ ?_
      rotate_left
      ·intro w'
       go_simp
       with_reducible rfl
      rotate_left
      ·simp only [Act.put, List.setIfInBounds_toArray, List.set_cons_zero, List.set_cons_succ, Zx, ZA]
       rfl
      refine ZM (i := 6) (N := some 27) (v := ?_) (a' := ?_) #[true, true, true, true, true, true, true, false, false, false, false, false, false, false, false, false, false, false, false, false, false, false, false, false, false] rfl rfl (ZD HT_.out (by kernel_rfl)) (fun _ _ _ h => h) (Or.inl ⟨by rfl, ?_⟩) ?_ ?_
      rotate_left
      ·intro w'
       go_simp
       with_reducible rfl
      rotate_left
      ·simp only [Act.put, List.setIfInBounds_toArray, List.set_cons_zero, List.set_cons_succ, Zx, ZA]
       rfl
      refine ZM (i := 8) (N := some 29) (v := ?_) (a' := ?_) #[true, true, true, true, true, true, true, false, true, false, false, false, false, false, false, false, false, false, false, false, false, false, false, false, false] rfl rfl (ZD HT_.out (by kernel_rfl)) (fun _ _ _ h => h) (Or.inl ⟨by rfl, ?_⟩) ?_ ?_
      rotate_left
      ·intro w'
       go_simp
       with_reducible rfl
      rotate_left
      ·simp only [Act.put, List.setIfInBounds_toArray, List.set_cons_zero, List.set_cons_succ, Zx, ZA]
       rfl
      refine take_ (i := 7) (N := some 28) (v := ?_) (a' := ?_) #[true, true, true, true, true, true, true, true, true, false, false, false, false, false, false, false, false, false, false, false, false, false, false, false, false] rfl rfl (take_ofW HT_.out HW_.out (by kernel_rfl)) (fun _ _ _ h => h) (Or.inl ⟨by rfl, ?_⟩) hHeld ?_ ?_
      rotate_left
      ·rintro w' ⟨s0, s1, s2, s3⟩
       go_simp
       with_reducible rfl
      rotate_left
      ·simp only [Act.put, List.setIfInBounds_toArray, List.set_cons_zero, List.set_cons_succ, Zx, ZA]
       rfl
      refine ZM (i := 9) (N := some 30) (v := ?_) (a' := ?_) #[true, true, true, true, true, true, true, true, true, true, false, false, false, false, false, false, false, false, false, false, false, false, false, false, false] rfl rfl (ZD HT_.out (by kernel_rfl)) (fun _ _ _ h => h) (Or.inl ⟨by rfl, ?_⟩) ?_ ?_
      rotate_left
      ·intro w'
       go_simp
       with_reducible rfl
      rotate_left
      ·simp only [Act.put, List.setIfInBounds_toArray, List.set_cons_zero, List.set_cons_succ, Zx, ZA]
       rfl
      refine ZM (i := 10) (N := some 31) (v := ?_) (a' := ?_) #[true, true, true, true, true, true, true, true, true, true, true, false, false, false, false, false, false, false, false, false, false, false, false, false, false] rfl rfl (ZD HT_.out (by kernel_rfl)) (fun _ _ _ h => h) (Or.inl ⟨by rfl, ?_⟩) ?_ ?_
      rotate_left
      ·intro w'
       go_simp
       with_reducible rfl
      rotate_left
      ·simp only [Act.put, List.setIfInBounds_toArray, List.set_cons_zero, List.set_cons_succ, Zx, ZA]
       rfl
      refine ZM (i := 11) (N := some 32) (v := ?_) (a' := ?_) #[true, true, true, true, true, true, true, true, true, true, true, true, false, false, false, false, false, false, false, false, false, false, false, false, false] rfl rfl (ZD HT_.out (by kernel_rfl)) (fun _ _ _ h => h) (Or.inl ⟨by rfl, ?_⟩) ?_ ?_
      rotate_left
      ·intro w'
       go_simp
       with_reducible rfl
      rotate_left
      ·simp only [Act.put, List.setIfInBounds_toArray, List.set_cons_zero, List.set_cons_succ, Zx, ZA]
       rfl
      refine take_ (i := 12) (N := some 33) (v := ?_) (a' := ?_) #[true, true, true, true, true, true, true, true, true, true, true, true, true, false, false, false, false, false, false, false, false, false, false, false, false] rfl rfl (take_ofW HT_.out HW_.out (by kernel_rfl)) (fun _ _ _ h => h) (Or.inl ⟨by rfl, ?_⟩) hHeld ?_ ?_
      rotate_left
      ·rintro w' ⟨s0, s1, s2, s3⟩
       go_simp
       with_reducible rfl
      rotate_left
      ·simp only [Act.put, List.setIfInBounds_toArray, List.set_cons_zero, List.set_cons_succ, Zx, ZA]
       rfl
      refine one_ (i := 13) (N := some 34) #[true, true, true, true, true, true, true, true, true, true, true, true, true, true, false, false, false, false, false, false, false, false, false, false, false] rfl rfl (one_of HT_.out (by kernel_rfl)) (by decide) (fun K hK => ?_)
      refine goes_ Try.func35 (by kernel_rfl) rfl #[.int .i64 35] (by rfl) rfl rfl (by (try simp only [List.map_toArray, List.map_cons, List.map_nil]); first | done | rfl | (simp only [List.length_drop, List.length_take]; rfl)) ?_
      with_reducible refine (rmSmall.calls k 35 t226 t227 _ A9.out).mono ?_
      rintro e w27 ⟨v228, rfl, ho0, hb⟩
      refine ⟨_, rfl, ?_⟩
      have n0_ := Zb.mk (Kd.ZJ (by (with_reducible repeat first | apply Kd.Zm | apply Kd.Zo); exact HO209.out) (Kd.ZV ho0) hb)
      have n1_ := Zb.mk (Kd.ZJ (by (with_reducible repeat first | apply Kd.Zm | apply Kd.Zo); exact HO215.out) (Kd.ZV ho0) hb)
      have n2_ := Zb.mk (Kd.ZJ (by (with_reducible repeat first | apply Kd.Zm | apply Kd.Zo); exact HO223.out) (Kd.ZV ho0) hb)
      have n3_ := Zb.mk (Kd.ZG (Kd.R_new' (Kd.R_new' (Kd.R_new' ho0 (Kd.R_lt (by (with_reducible repeat first | apply Kd.Zm | apply Kd.Zo); exact HO209.out))) (Kd.R_lt (by (with_reducible repeat first | apply Kd.Zm | apply Kd.Zo); exact HO215.out))) (Kd.R_lt (by (with_reducible repeat first | apply Kd.Zm | apply Kd.Zo); exact HO223.out))) (Zi (by repeat (with_reducible first | exact HB.out | apply Zc | apply Za | apply Zd | refine Zh ?_ GE218.out | refine Zh ?_ GE219.out))))
      have n4_ := Zb.mk (Zn (g := gb218) (o := .cells #[.bool t212, .slice Ao21 t213.length co21] 24 (0, 0)) (by (with_reducible repeat first | refine Ze ?_ _ | refine Zg ?_ | refine Zf ?_ _); exact BK218.out) hb)
      have n5_ := Zb.mk (Zn (g := gb219) (o := .cells #[.int .i64 t216, .int .i64 t217] 35 (0, 0)) (by (with_reducible repeat first | refine Ze ?_ _ | refine Zg ?_ | refine Zf ?_ _); exact BK219.out) hb)
      have n6_ := Zb.mk (Zl (by repeat (with_reducible first | exact HB.out | apply Zc | apply Za | apply Zd | refine Zh ?_ GE218.out | refine Zh ?_ GE219.out)) hb)
      clear HO209
      clear HO215
      clear HO223
      clear BK218
      clear BK219
      clear HB
      have HO209 := n0_
      have HO215 := n1_
      have HO223 := n2_
      have HO229 := n3_
      have BK218 := n4_
      have BK219 := n5_
      have HB := n6_
      clear n0_ n1_ n2_ n3_ n4_ n5_ n6_
      (try clear hb)
      (try clear hb2)
      (try clear hk)
      (try clear hi)
      (try clear ho0)
      obtain ⟨Ao28, co28, eo28⟩ := Kd.Zy HO229.out
      (first | subst eo28 | (injection eo28 with f1_ f2_ f3_; have f4_ := f1_.symm; have f5_ := f3_.symm; clear f1_ f2_ f3_; subst f4_; subst f5_))
      refine hK.out _ _ ⟨(Zk BK219.out 0).trans rfl, (Zk BK219.out 1).trans rfl, (Zk BK218.out 0).trans rfl, (Zk BK218.out 1).trans rfl⟩ (fun hHeld => ?_)
      clear hK K
      refine norm_ (a' := ?_) ?_ ?_
      rotate_left
      ·show Act.put _ (some 34) _ = _
       simp only [Act.put, List.setIfInBounds_toArray, List.set_cons_zero, List.set_cons_succ, Zx, ZA]
       rfl
      refine one_ (i := 14) (N := some 35) #[true, true, true, true, true, true, true, true, true, true, true, true, true, true, true, false, false, false, false, false, false, false, false, false, false] rfl rfl (one_of HT_.out (by kernel_rfl)) (by decide) (fun K hK => ?_)
      refine goes_ Try.func19 (by kernel_rfl) rfl #[.agg #[.bool t212, .slice Ao21 t213.length co21], .agg #[.bool t226, .slice Ao28 t227.length co28]] (by rfl) rfl rfl (by (try simp only [List.map_toArray, List.map_cons, List.map_nil]); first | done | rfl | (simp only [List.length_drop, List.length_take]; rfl)) ?_
      with_reducible refine (rkSameInt.calls k t212 _ _ t213 t226 _ _ t227 true _ ?side1 ?side2 ?side3 ?side4 A10.out).mono ?_
      (case side1 => repeat (first | exact (Kd.Zv HO215.out).2.2 | (with_reducible refine Kd.ZC ?_ _) | (with_reducible refine Kd.ZF ?_ _) | (with_reducible refine Kd.ZN ?_)))
      (case side2 => exact (Kd.Zv HO215.out).2.1)
      (case side3 => repeat (first | exact (Kd.Zv HO229.out).2.2 | (with_reducible refine Kd.ZC ?_ _) | (with_reducible refine Kd.ZF ?_ _) | (with_reducible refine Kd.ZN ?_)))
      (case side4 => exact (Kd.Zv HO229.out).2.1)
      rintro e w29 ⟨rfl, hb⟩
      refine ⟨_, rfl, ?_⟩
      have n0_ := Zb.mk (Kd.Zz (by (with_reducible repeat first | apply Kd.Zm | apply Kd.Zo); exact HO209.out) hb)
      have n1_ := Zb.mk (Kd.Zz (by (with_reducible repeat first | apply Kd.Zm | apply Kd.Zo); exact HO215.out) hb)
      have n2_ := Zb.mk (Kd.Zz (by (with_reducible repeat first | apply Kd.Zm | apply Kd.Zo); exact HO223.out) hb)
      have n3_ := Zb.mk (Kd.Zz (by (with_reducible repeat first | apply Kd.Zm | apply Kd.Zo); exact HO229.out) hb)
      have n4_ := Zb.mk (Zn (g := gb218) (o := .cells #[.bool t212, .slice Ao21 t213.length co21] 24 (0, 0)) (by (with_reducible repeat first | refine Ze ?_ _ | refine Zg ?_ | refine Zf ?_ _); exact BK218.out) hb)
      have n5_ := Zb.mk (Zn (g := gb219) (o := .cells #[.int .i64 t216, .int .i64 t217] 35 (0, 0)) (by (with_reducible repeat first | refine Ze ?_ _ | refine Zg ?_ | refine Zf ?_ _); exact BK219.out) hb)
      have n6_ := Zb.mk (Zl (by repeat (with_reducible first | exact HB.out | apply Zc | apply Za | apply Zd | refine Zh ?_ GE218.out | refine Zh ?_ GE219.out)) hb)
      clear HO209
      clear HO215
      clear HO223
      clear HO229
      clear BK218
      clear BK219
      clear HB
      have HO209 := n0_
      have HO215 := n1_
      have HO223 := n2_
      have HO229 := n3_
      have BK218 := n4_
      have BK219 := n5_
      have HB := n6_
      clear n0_ n1_ n2_ n3_ n4_ n5_ n6_
      (try clear hb)
      (try clear hb2)
      (try clear hk)
      (try clear hi)
      refine hK.out _ _ ⟨(Zk BK219.out 0).trans rfl, (Zk BK219.out 1).trans rfl, (Zk BK218.out 0).trans rfl, (Zk BK218.out 1).trans rfl⟩ (fun hHeld => ?_)
      clear hK K
      refine norm_ (a' := ?_) ?_ ?_
      rotate_left
      ·show Act.put _ (some 35) _ = _
       simp only [Act.put, List.setIfInBounds_toArray, List.set_cons_zero, List.set_cons_succ, Zx, ZA]
       rfl
      refine ZM (i := 15) (N := some 36) (v := ?_) (a' := ?_) #[true, true, true, true, true, true, true, true, true, true, true, true, true, true, true, true, false, false, false, false, false, false, false, false, false] rfl rfl (ZD HT_.out (by kernel_rfl)) (fun _ _ _ h => h) (Or.inl ⟨by rfl, ?_⟩) ?_ ?_
      rotate_left
      ·intro w'
       go_simp
       with_reducible rfl
      rotate_left
      ·simp only [Act.put, List.setIfInBounds_toArray, List.set_cons_zero, List.set_cons_succ, Zx, ZA]
       rfl
      refine ZM (i := 16) (N := some 37) (v := ?_) (a' := ?_) #[true, true, true, true, true, true, true, true, true, true, true, true, true, true, true, true, true, false, false, false, false, false, false, false, false] rfl rfl (ZD HT_.out (by kernel_rfl)) (fun _ _ _ h => h) (Or.inl ⟨by rfl, ?_⟩) ?_ ?_
      rotate_left
      ·intro w'
       go_simp
       with_reducible rfl
      rotate_left
      ·simp only [Act.put, List.setIfInBounds_toArray, List.set_cons_zero, List.set_cons_succ, Zx, ZA]
       rfl
      refine ZM (i := 17) (N := some 38) (v := ?_) (a' := ?_) #[true, true, true, true, true, true, true, true, true, true, true, true, true, true, true, true, true, true, false, false, false, false, false, false, false] rfl rfl (ZD HT_.out (by kernel_rfl)) (fun _ _ _ h => h) (Or.inl ⟨by rfl, ?_⟩) ?_ ?_
      rotate_left
      ·intro w'
       go_simp
       with_reducible rfl
      rotate_left
      ·simp only [Act.put, List.setIfInBounds_toArray, List.set_cons_zero, List.set_cons_succ, Zx, ZA]
       rfl
      refine ZM (i := 18) (N := some 39) (v := ?_) (a' := ?_) #[true, true, true, true, true, true, true, true, true, true, true, true, true, true, true, true, true, true, true, false, false, false, false, false, false] rfl rfl (ZD HT_.out (by kernel_rfl)) (fun _ _ _ h => h) (Or.inl ⟨by rfl, ?_⟩) ?_ ?_
      rotate_left
      ·intro w'
       go_simp
       with_reducible rfl
      rotate_left
      ·simp only [Act.put, List.setIfInBounds_toArray, List.set_cons_zero, List.set_cons_succ, Zx, ZA]
       rfl
      refine ZM (i := 19) (N := some 40) (v := ?_) (a' := ?_) #[true, true, true, true, true, true, true, true, true, true, true, true, true, true, true, true, true, true, true, true, false, false, false, false, false] rfl rfl (ZD HT_.out (by kernel_rfl)) (fun _ _ _ h => h) (Or.inl ⟨by rfl, ?_⟩) ?_ ?_
      rotate_left
      ·intro w'
       go_simp
       with_reducible rfl
      rotate_left
      ·simp only [Act.put, List.setIfInBounds_toArray, List.set_cons_zero, List.set_cons_succ, Zx, ZA]
       rfl
      refine ZM (i := 20) (N := some 41) (v := ?_) (a' := ?_) #[true, true, true, true, true, true, true, true, true, true, true, true, true, true, true, true, true, true, true, true, true, false, false, false, false] rfl rfl (ZD HT_.out (by kernel_rfl)) (fun _ _ _ h => h) (Or.inl ⟨by rfl, ?_⟩) ?_ ?_
      rotate_left
      ·intro w'
       go_simp
       with_reducible rfl
      rotate_left
      ·simp only [Act.put, List.setIfInBounds_toArray, List.set_cons_zero, List.set_cons_succ, Zx, ZA]
       rfl
      refine ZM (i := 21) (N := some 42) (v := ?_) (a' := ?_) #[true, true, true, true, true, true, true, true, true, true, true, true, true, true, true, true, true, true, true, true, true, true, false, false, false] rfl rfl (ZD HT_.out (by kernel_rfl)) (fun _ _ _ h => h) (Or.inl ⟨by rfl, ?_⟩) ?_ ?_
      rotate_left
      ·intro w'
       go_simp
       with_reducible rfl
      rotate_left
      ·simp only [Act.put, List.setIfInBounds_toArray, List.set_cons_zero, List.set_cons_succ, Zx, ZA]
       rfl
      refine ZM (i := 22) (N := some 43) (v := ?_) (a' := ?_) #[true, true, true, true, true, true, true, true, true, true, true, true, true, true, true, true, true, true, true, true, true, true, true, false, false] rfl rfl (ZD HT_.out (by kernel_rfl)) (fun _ _ _ h => h) (Or.inl ⟨by rfl, ?_⟩) ?_ ?_
      rotate_left
      ·intro w'
       go_simp
       with_reducible rfl
      rotate_left
      ·simp only [Act.put, List.setIfInBounds_toArray, List.set_cons_zero, List.set_cons_succ, Zx, ZA]
       rfl
      refine ZM (i := 23) (N := some 44) (v := ?_) (a' := ?_) #[true, true, true, true, true, true, true, true, true, true, true, true, true, true, true, true, true, true, true, true, true, true, true, true, false] rfl rfl (ZD HT_.out (by kernel_rfl)) (fun _ _ _ h => h) (Or.inl ⟨by rfl, ?_⟩) ?_ ?_
      rotate_left
      ·intro w'
       go_simp
       with_reducible rfl
      rotate_left
      ·simp only [Act.put, List.setIfInBounds_toArray, List.set_cons_zero, List.set_cons_succ, Zx, ZA]
       rfl
      refine ZM (i := 24) (N := some 0) (v := ?_) (a' := ?_) #[true, true, true, true, true, true, true, true, true, true, true, true, true, true, true, true, true, true, true, true, true, true, true, true, true] rfl rfl (ZD HT_.out (by kernel_rfl)) (fun _ _ _ h => h) (Or.inl ⟨by rfl, ?_⟩) ?_ ?_
      rotate_left
      ·intro w'
       go_simp
       with_reducible rfl
      rotate_left
      ·simp only [Act.put, List.setIfInBounds_toArray, List.set_cons_zero, List.set_cons_succ, Zx, ZA]
       rfl
      refine done_ (done_of HT_.out (by kernel_rfl)) ?_
      try go_wp2
      go_ret
      exact ⟨by first | rfl | (simp [errW_none, errW_some] <;> rfl) | (simp [*, errW_none, errW_some] <;> rfl), by repeat (with_reducible first | exact HB.out | apply Zc | apply Za | apply Zd | refine Zh ?_ GE218.out | refine Zh ?_ GE219.out)⟩
     ·rw [if_neg c12] at H
      exact absurd H (by simp)
    ·replace c11 := Bool.eq_false_iff.mpr c11
     subst c11
     have H1 : (none) = some r := by rw [if_neg (show ¬ (false = true) by decide)] at H; exact H
     clear H
     have H := H1
     clear H1
     exact absurd H (by simp)
   ·rw [if_neg c8] at H
    exact absurd H (by simp)
  ·rw [if_neg c7] at H
   exact absurd H (by simp)
 ·rw [if_neg c6] at H
  exact absurd H (by simp)
end Go.Proofs.Ytbmddlldadbfnaa.BB
end
section
namespace Go.Proofs.Ytbmddlldadbfnaa.BB
open Go.RowKit Go.Proofs.Ytbmddlldadbfnaa.BA Go.Proofs.YtbmddlldadbfnaaW.PrintWords Go.Proofs.YtbmddlldadbfnaaW.PrintLast Go.Proofs.YtbmddlldadbfnaaW.PrintMore
attribute [local go_sem] ZU ZS max_two min_two ZP ZO ZT ZR
set_option linter.unusedVariables false
set_option linter.unusedSimpArgs false
def r19may.f (a0 : Int) : Option (Bool) := if a0 ≥ 2 then (some (decide (a0 ≤ 36))) else (some false)
end Go.Proofs.Ytbmddlldadbfnaa.BB
end
section
namespace Go.Proofs.Ytbmddlldadbfnaa.BM
open Go.RowKit Go.Proofs.YtbmddlldadbfnaaW.PrintWords Go.Proofs.YtbmddlldadbfnaaW.PrintLast Go.Proofs.YtbmddlldadbfnaaW.PrintMore
def Ev {α : Type} (f : Nat → Option α) (r : α) : Prop := ∃ K, ∀ k, K ≤ k → f k = some r
namespace Ev
variable {α β : Type}
theorem pure (r : α) : Ev (fun _ => some r) r := ⟨0, fun _ _ => rfl⟩
theorem succ {f : Nat → Option α} {r : α} (h : Ev (fun k => f (k + 1)) r) : Ev f r := by
 obtain ⟨K, hK⟩ := h
 refine ⟨K + 1, fun k hk => ?_⟩
 have h : f (k - 1 + 1) = some r := hK (k - 1) (by omega)
 rwa [show k - 1 + 1 = k by omega] at h
theorem bind {f : Nat → Option α} {g : Nat → α → Option β} {a : α} {r : β} (hf : Ev f a) (hg : Ev (fun k => g k a) r) : Ev (fun k => (f k).bind (g k)) r := by
 obtain ⟨K, hK⟩ := hf
 obtain ⟨L, hL⟩ := hg
 refine ⟨max K L, fun k hk => ?_⟩
 show (f k).bind (g k) = some r
 rw [hK k (by omega)]
 exact hL k (by omega)
theorem bind1 {f : Option α} {g : Nat → α → Option β} {a : α} {r : β} (hf : f = some a) (hg : Ev (fun k => g k a) r) : Ev (fun k => f.bind (g k)) r := by
 subst hf; exact hg
theorem congr {f g : Nat → Option α} {r : α} (h : Ev g r) (e : ∀ k, f k = g k) : Ev f r := by
 obtain ⟨K, hK⟩ := h
 exact ⟨K, fun k hk => (e k).trans (hK k hk)⟩
theorem const {f : Option α} {r : α} (h : f = some r) : Ev (fun _ => f) r := ⟨0, fun _ _ => h⟩
end Ev
theorem w64 {n : Int} (h0 : -9223372036854775808 ≤ n) (h1 : n < 9223372036854775808) : wrap64 n = n := by unfold wrap64; omega
theorem u64 {n : Int} (h0 : 0 ≤ n) (h1 : n < 18446744073709551616) : IntKind.u64.wrap n = n := by rw [IntKind.wrap_u64]; omega
theorem u64m (n : Int) : IntKind.u64.wrap n = n % 18446744073709551616 := IntKind.wrap_u64 n
def V (B : Int) : List Int → Int
 | [] => 0
 | a :: l => a + B * V B l
def Dig (B : Int) (l : List Int) : Prop := ∀ a ∈ l, 0 ≤ a ∧ a < B
def Num (B : Int) (l : List Int) (n : Int) : Prop := Dig B l ∧ V B l = n
def Top (l : List Int) : Prop := ∀ h : l ≠ [], l.getLast h ≠ 0
def Can (B : Int) (l : List Int) (n : Int) : Prop := Num B l n ∧ Top l
theorem V_append (B : Int) (p q : List Int) : V B (p ++ q) = V B p + B ^ p.length * V B q := by
 induction p with
 | nil => simp [V]
 | cons a p ih => simp only [List.cons_append, V, ih, List.length_cons, Int.pow_succ]; grind
theorem V_snoc (B : Int) (p : List Int) (d : Int) : V B (p ++ [d]) = V B p + B ^ p.length * d := by
 rw [V_append]; simp [V]
theorem V_nonneg {B : Int} (hB : 0 < B) {l : List Int} (h : Dig B l) : 0 ≤ V B l := by
 induction l with
 | nil => simp [V]
 | cons a l ih =>
  have h1 := h a (by simp)
  have h2 := ih (fun x hx => h x (by simp [hx]))
  have := Int.mul_nonneg (Int.le_of_lt hB) h2
  simp only [V]; omega
theorem V_lt {B : Int} (hB : 0 < B) {l : List Int} (h : Dig B l) : V B l < B ^ l.length := by
 induction l with
 | nil => simp [V]
 | cons a l ih =>
  have h1 := h a (by simp)
  have h2 := ih (fun x hx => h x (by simp [hx]))
  have := Int.mul_le_mul_of_nonneg_left (show V B l + 1 ≤ B ^ l.length by omega) (Int.le_of_lt hB)
  simp only [V, List.length_cons, Int.pow_succ]
  grind
theorem Dig_append {B : Int} {p q : List Int} (hp : Dig B p) (hq : Dig B q) : Dig B (p ++ q) := by
 intro a ha
 rcases List.mem_append.1 ha with h | h
 ·exact hp a h
 ·exact hq a h
theorem Dig_one {B d : Int} (h0 : 0 ≤ d) (h1 : d < B) : Dig B [d] := by
 intro a ha; simp only [List.mem_singleton] at ha; subst ha; exact ⟨h0, h1⟩
theorem Dig_snoc {B d : Int} {p : List Int} (hp : Dig B p) (h0 : 0 ≤ d) (h1 : d < B) : Dig B (p ++ [d]) := Dig_append hp (Dig_one h0 h1)
theorem Dig_nil (B : Int) : Dig B [] := by intro a ha; simp at ha
theorem Dig_take {B : Int} {l : List Int} (h : Dig B l) (i : Nat) : Dig B (l.take i) := fun a ha => h a (List.mem_of_mem_take ha)
theorem Dig_tail {B a : Int} {l : List Int} (h : Dig B (a :: l)) : Dig B l := fun x hx => h x (by simp [hx])
theorem pow_pos' {B : Int} (hB : 0 < B) (n : Nat) : 0 < B ^ n := by
 induction n with
 | zero => simp
 | succ n ih => rw [Int.pow_succ]; exact Int.mul_pos ih hB
theorem pow_le' {B : Int} (hB : 1 ≤ B) {m n : Nat} (h : m ≤ n) : B ^ m ≤ B ^ n := by
 induction n with
 | zero => rw [show m = 0 by omega]; simp
 | succ n ih =>
  rcases Nat.lt_or_ge m (n + 1) with hlt | hge
  ·have h1 := ih (by omega)
   have h2 := pow_pos' (show 0 < B by omega) n
   have h3 := Int.mul_le_mul_of_nonneg_left hB (Int.le_of_lt h2)
   rw [Int.pow_succ]; omega
  ·rw [show m = n + 1 by omega]; exact Int.le_refl _
theorem pow_mono {a b : Int} (ha : 0 ≤ a) (h : a ≤ b) (n : Nat) : a ^ n ≤ b ^ n := by
 induction n with
 | zero => simp
 | succ n ih =>
  rw [Int.pow_succ, Int.pow_succ]
  exact Int.mul_le_mul ih h ha (Int.pow_nonneg (by omega))
theorem rd_nat (l : List Int) {i : Nat} (h : i < l.length) : rd l (i : Int) = l[i] := by
 unfold rd; simp [List.getD_eq_getElem?_getD, h]
theorem rd_int (l : List Int) {i : Int} (h0 : 0 ≤ i) (h : i < l.length) : rd l i = l[i.toNat]'(by omega) := by
 unfold rd; simp [List.getD_eq_getElem?_getD, show i.toNat < l.length by omega]
theorem rd_dig {B : Int} {l : List Int} (hl : Dig B l) {i : Int} (h0 : 0 ≤ i) (h : i < l.length) : 0 ≤ rd l i ∧ rd l i < B := by
 rw [rd_int l h0 h]; exact hl _ (List.getElem_mem _)
theorem take_rd (l : List Int) {i : Nat} (h : i < l.length) : l.take (i + 1) = l.take i ++ [rd l (i : Int)] := by
 rw [rd_nat l h, List.take_append_getElem h]
theorem V_take (B : Int) (l : List Int) {i : Nat} (h : i < l.length) : V B (l.take (i + 1)) = V B (l.take i) + B ^ i * rd l (i : Int) := by
 rw [take_rd l h, V_snoc, List.length_take, Nat.min_eq_left (by omega)]
theorem set_pad (p : List Int) (d : Int) (j : Nat) : (p ++ List.replicate (j + 1) 0).set p.length d = (p ++ [d]) ++ List.replicate j 0 := by
 rw [List.set_append_right _ _ (Nat.le_refl _)]; simp [List.replicate_succ]
theorem getLast_rd (l : List Int) (h : l ≠ []) : l.getLast h = rd l ((l.length : Int) - 1) := by
 have : 0 < l.length := List.length_pos_iff.2 h
 rw [rd_int l (by omega) (by omega), List.getLast_eq_getElem]
 congr 1; omega
theorem Can_unique {B : Int} (hB : 1 < B) : ∀ {l m : List Int} {n : Int}, Can B l n → Can B m n → l = m
 | [], [], _, _, _ => rfl
 | [], b :: m, n, h, h' => by
  exfalso
  have e : V B (b :: m) = 0 := by rw [h'.1.2, ← h.1.2]; rfl
  have hd := h'.1.1
  have b0 := hd b (by simp)
  have v0 := V_nonneg (by omega : 0 < B) (Dig_tail hd)
  have p0 := Int.mul_nonneg (show 0 ≤ B by omega) v0
  simp only [V] at e
  have hb : b = 0 := by omega
  have hv : B * V B m = 0 := by omega
  have hv' : V B m = 0 := by rcases Int.mul_eq_zero.1 hv with h | h <;> omega
  cases m with
  | nil => exact h'.2 (by simp) (by simpa using hb)
  | cons c m =>
   have : Can B (c :: m) 0 := ⟨⟨Dig_tail hd, hv'⟩, fun hne => by have := h'.2 (by simp); simpa using this⟩
   exact absurd (Can_unique hB (l := []) (m := c :: m) ⟨⟨Dig_nil B, rfl⟩, fun h => absurd rfl h⟩ this) (by simp)
 | a :: l, [], n, h, h' => by
  exfalso
  have e : V B (a :: l) = 0 := by rw [h.1.2, ← h'.1.2]; rfl
  have hd := h.1.1
  have b0 := hd a (by simp)
  have v0 := V_nonneg (by omega : 0 < B) (Dig_tail hd)
  have p0 := Int.mul_nonneg (show 0 ≤ B by omega) v0
  simp only [V] at e
  have hb : a = 0 := by omega
  have hv : B * V B l = 0 := by omega
  have hv' : V B l = 0 := by rcases Int.mul_eq_zero.1 hv with h | h <;> omega
  cases l with
  | nil => exact h.2 (by simp) (by simpa using hb)
  | cons c m =>
   have : Can B (c :: m) 0 := ⟨⟨Dig_tail hd, hv'⟩, fun hne => by have := h.2 (by simp); simpa using this⟩
   exact absurd (Can_unique hB (l := c :: m) (m := []) this ⟨⟨Dig_nil B, rfl⟩, fun h => absurd rfl h⟩) (by simp)
 | a :: l, b :: m, n, h, h' => by
  have e : a + B * V B l = b + B * V B m := by
   have h1 := h.1.2; have h2 := h'.1.2; simp only [V] at h1 h2; omega
  have a0 := h.1.1 a (by simp)
  have b0 := h'.1.1 b (by simp)
  have hab : a = b := by
   have h1 : (a + B * V B l) % B = a := by rw [Int.add_mul_emod_self_left]; exact Int.emod_eq_of_lt a0.1 a0.2
   have h2 : (b + B * V B m) % B = b := by rw [Int.add_mul_emod_self_left]; exact Int.emod_eq_of_lt b0.1 b0.2
   rw [← h1, e, h2]
  have hv : V B l = V B m := by
   have : B * V B l = B * V B m := by omega
   exact Int.eq_of_mul_eq_mul_left (by omega) this
  have tl : Top l := fun hne => by have := h.2 (by simp); rwa [List.getLast_cons hne] at this
  have tm : Top m := fun hne => by have := h'.2 (by simp); rwa [List.getLast_cons hne] at this
  rw [hab, Can_unique hB (l := l) (m := m) (n := V B l) ⟨⟨Dig_tail h.1.1, rfl⟩, tl⟩ ⟨⟨Dig_tail h'.1.1, hv.symm⟩, tm⟩]
 termination_by l m => l.length + m.length
theorem Can_nil (B : Int) : Can B [] 0 := ⟨⟨Dig_nil B, rfl⟩, fun h => absurd rfl h⟩
theorem Can_zero {B : Int} (hB : 1 < B) {l : List Int} (h : Can B l 0) : l = [] := Can_unique hB h (Can_nil B)
theorem Can_low {B : Int} (hB : 1 < B) {l : List Int} {n : Int} (h : Can B l n) (hne : l ≠ []) : B ^ (l.length - 1) ≤ n := by
 have hl : 0 < l.length := List.length_pos_iff.2 hne
 have e : l = l.take (l.length - 1) ++ [l.getLast hne] := by
  rw [List.getLast_eq_getElem]
  conv => lhs; rw [← List.take_length (l := l), show l.length = l.length - 1 + 1 by omega, List.take_add_one]
  simp [show l.length - 1 < l.length by omega]
 have hv := h.1.2
 rw [e, V_snoc, List.length_take, Nat.min_eq_left (by omega)] at hv
 have v0 := V_nonneg (by omega : 0 < B) (Dig_take h.1.1 (l.length - 1))
 have t0 := h.2 hne
 have d0 := h.1.1 (l.getLast hne) (List.getLast_mem hne)
 have := Int.mul_le_mul_of_nonneg_left (show (1 : Int) ≤ l.getLast hne by omega) (Int.le_of_lt (pow_pos' (by omega : 0 < B) (l.length - 1)))
 omega
theorem Can_len {B : Int} (hB : 1 < B) {l : List Int} {n : Int} (h : Can B l n) {c : Nat} (hn : n < B ^ c) : l.length ≤ c := by
 rcases Nat.lt_or_ge c l.length with hlt | hge
 ·exfalso
  have hne : l ≠ [] := by intro h0; subst h0; simp at hlt
  have h1 := Can_low hB h hne
  have h2 := pow_le' (show 1 ≤ B by omega) (show c ≤ l.length - 1 by omega)
  omega
 ·exact hge
theorem Can_pos {B : Int} (hB : 1 < B) {l : List Int} {n : Int} (h : Can B l n) (hne : l ≠ []) : 0 < n := by
 have h1 := Can_low hB h hne
 have h2 := pow_pos' (show 0 < B by omega) (l.length - 1)
 omega
theorem Can_nonneg {B : Int} (hB : 0 < B) {l : List Int} {n : Int} (h : Can B l n) : 0 ≤ n := by
 have := V_nonneg hB h.1.1; rw [h.1.2] at this; exact this
theorem V_take_zero (B : Int) (l : List Int) {i : Nat} (h : i < l.length) (h0 : rd l (i : Int) = 0) : V B (l.take i) = V B (l.take (i + 1)) := by
 rw [V_take B l h, h0]; simp
theorem Top_take {l : List Int} {i : Nat} (h : i < l.length) (h0 : rd l (i : Int) ≠ 0) : Top (l.take (i + 1)) := by
 intro hne
 simp only [take_rd l h, List.getLast_append, List.getLast_singleton]
 simpa using h0
theorem bt_range (s : ByteArray) (i : Int) : 0 ≤ bt s i ∧ bt s i < 256 := by
 unfold bt; split
 ·rename_i h
  have := (s[i.toNat]'h).toNat_lt
  omega
 ·omega
end Go.Proofs.Ytbmddlldadbfnaa.BM
end
section
namespace Go.Proofs.Ytbmddlldadbfnaa.BM
open Go.RowKit Go.Proofs.YtbmddlldadbfnaaW.PrintWords Go.Proofs.YtbmddlldadbfnaaW.PrintLast Go.Proofs.YtbmddlldadbfnaaW.PrintMore
open Go.Proofs.Ytbmddlldadbfnaa.BB
theorem rd_set (l : List Int) (i t : Nat) (d : Int) (hi : i < l.length) : rd (l.set i d) (t : Int) = if t = i then d else rd l (t : Int) := by
 unfold rd
 simp only [List.getD_eq_getElem?_getD, Int.toNat_natCast, List.getElem?_set]
 by_cases h : i = t
 ·subst h; simp [hi]
 ·rw [if_neg h, if_neg (fun h' => h h'.symm)]
end Go.Proofs.Ytbmddlldadbfnaa.BM
end
section
namespace Go.Proofs.Ytbmddlldadbfnaa.BM
open Go.RowKit Go.Proofs.YtbmddlldadbfnaaW.PrintWords Go.Proofs.YtbmddlldadbfnaaW.PrintLast Go.Proofs.YtbmddlldadbfnaaW.PrintMore
open Go.Proofs.Ytbmddlldadbfnaa.BA
theorem trim_ev (B : Int) : ∀ (m : Nat) {l : List Int} {n : Int}, l.length = m → m < 4611686018427387904 → Num B l n →
  ∃ r, Ev (fun k => big_trim.f k l) r ∧ Can B r n ∧ r.length ≤ m
 | 0, l, n, hm, _, hn => by
  have : l = [] := List.eq_nil_of_length_eq_zero hm
  subst this
  refine ⟨[], Ev.succ (Ev.congr (Ev.pure _) fun k => ?_), ⟨hn, fun h => absurd rfl h⟩, by simp⟩
  simp [big_trim.f, big_trim.l0]
 | m + 1, l, n, hm, hb, hn => by
  have e : wrap64 ((l.length : Int) - 1) = ((m : Nat) : Int) := by rw [w64 (by omega) (by omega)]; omega
  by_cases h0 : rd l ((m : Nat) : Int) = 0
  ·obtain ⟨r, he, hc, hl⟩ := trim_ev B m (l := l.take m) (n := n) (by rw [List.length_take]; omega) (by omega)
    ⟨Dig_take hn.1 m, by rw [V_take_zero B l (by omega) h0, show m + 1 = l.length by omega, List.take_length]; exact hn.2⟩
   refine ⟨r, Ev.succ (Ev.congr he fun k => ?_), hc, by omega⟩
   show big_trim.l0 (k + 1) l = big_trim.l0 k _
   rw [big_trim.l0, e, if_pos (by omega), if_pos (by omega), if_pos (by omega), if_pos h0, if_pos (by omega)]
   simp
  ·refine ⟨l, Ev.succ (Ev.congr (Ev.pure _) fun k => ?_), ⟨hn, ?_⟩, by omega⟩
   ·show big_trim.l0 (k + 1) l = _
    rw [big_trim.l0, e, if_pos (by omega), if_pos (by omega), if_pos (by omega), if_neg h0]
   ·have := Top_take (l := l) (i := m) (by omega) h0
    rwa [show m + 1 = l.length by omega, List.take_length] at this
theorem trim_can {B : Int} (hB : 1 < B) {l : List Int} {n : Int} (h : Can B l n) (hl : l.length < 4611686018427387904) : Ev (fun k => big_trim.f k l) l := by
 obtain ⟨r, he, hc, _⟩ := trim_ev B l.length rfl hl h.1
 rwa [Can_unique hB hc h] at he
theorem mul64 {a b : Int} (ha0 : 0 ≤ a) (ha : a < 18446744073709551616) (hb0 : 0 ≤ b) (hb : b < 18446744073709551616) : bits_Mul64.f a b = some (a * b / 18446744073709551616, a * b % 18446744073709551616) := by
 unfold bits_Mul64.f
 have := mul64_arith a b ha0 ha hb0 hb
 simp only [u64m]
 rw [and_low32 a ha0 ha, and_low32 b hb0 hb, and_low32 _ (Int.emod_nonneg _ (by omega)) (Int.emod_lt_of_pos _ (by omega)), this]
theorem add64 {a b c : Int} (ha0 : 0 ≤ a) (hb0 : 0 ≤ b) (hc0 : 0 ≤ c) (hc : c ≤ 1) : bits_Add64.f a b c = some ((a + b + c) % 18446744073709551616, (a + b + c) / 18446744073709551616) := by
 unfold bits_Add64.f
 rw [if_pos ⟨ha0, hb0, hc0, hc⟩]
theorem chunk_loop (b : Int) (hb : 2 ≤ b) (hb' : b ≤ 36) : ∀ (j e : Nat), 1 ≤ e → e + j = 64 → b ^ e < 18446744073709551616 →
  ∃ r : Nat, 1 ≤ r ∧ r ≤ 64 ∧ b ^ r < 18446744073709551616 ∧ 18446744073709551616 ≤ b ^ (r + 1) ∧ Ev (fun k => big_chunk.l0 k b (b ^ e) e) (b ^ r, (r : Int)) := by
 intro j
 induction j with
 | zero =>
  intro e he hj hlt
  exfalso
  have h1 := pow_mono (by omega) hb e
  have : e = 64 := by omega
  subst this
  have h2 : (2 : Int) ^ 64 = 18446744073709551616 := by decide
  omega
 | succ j ih =>
  intro e he hj hlt
  have hp := pow_pos' (show 0 < b by omega) e
  have hm := mul64 (a := b ^ e) (b := b) (by omega) hlt (by omega) (by omega)
  have hu : IntKind.u64.wrap b = b := u64 (by omega) (by omega)
  by_cases hz : b ^ e * b / 18446744073709551616 = 0
  ·have hlt2 : b ^ (e + 1) < 18446744073709551616 := by rw [Int.pow_succ]; omega
   have heq : b ^ e * b % 18446744073709551616 = b ^ (e + 1) := by
    rw [Int.pow_succ] at hlt2 ⊢
    exact Int.emod_eq_of_lt (by have := Int.mul_pos hp (show 0 < b by omega); omega) hlt2
   obtain ⟨r, h1, h2, h3, h4, h5⟩ := ih (e + 1) (by omega) (by omega) hlt2
   refine ⟨r, h1, h2, h3, h4, Ev.succ (Ev.congr h5 fun k => ?_)⟩
   rw [big_chunk.l0, hu, hm]
   simp only [Option.bind_some, hz, if_true, heq]
   rw [w64 (by omega) (by omega)]
   simp
  ·refine ⟨e, he, by omega, hlt, ?_, Ev.succ (Ev.congr (Ev.pure _) fun k => ?_)⟩
   ·rw [Int.pow_succ]; have := Int.mul_pos hp (show 0 < b by omega); omega
   ·rw [big_chunk.l0, hu, hm]
    simp only [Option.bind_some, hz, if_false]
theorem chunk_ev (b : Int) (hb : 2 ≤ b) (hb' : b ≤ 36) :
  ∃ r : Nat, 1 ≤ r ∧ r ≤ 64 ∧ b ^ r < 18446744073709551616 ∧ 18446744073709551616 ≤ b ^ (r + 1) ∧ Ev (fun k => big_chunk.f k b) (b ^ r, (r : Int)) := by
 obtain ⟨r, h1, h2, h3, h4, h5⟩ := chunk_loop b hb hb' 63 1 (by omega) (by omega) (by rw [Int.pow_one]; omega)
 refine ⟨r, h1, h2, h3, h4, Ev.congr h5 fun k => ?_⟩
 rw [big_chunk.f, u64 (show 0 ≤ b by omega) (show b < 18446744073709551616 by omega), Int.pow_one]; rfl
theorem plus_alg (B P vp c va vb d c2 x y : Int) (h : vp + P * c = va + vb) (h2 : x + y + c = d + B * c2) : vp + P * d + P * B * c2 = va + P * x + (vb + P * y) := by grind
theorem plusE_loop {a b : List Int} (hab : b.length ≤ a.length) (ha : Dig 18446744073709551616 a) (hb : Dig 18446744073709551616 b) (hl : a.length < 1099511627776) :
  ∀ (j i : Nat) (p : List Int) (c : Int), i + j = a.length → p.length = i → Dig 18446744073709551616 p → 0 ≤ c → c ≤ 1 →
   V 18446744073709551616 p + 18446744073709551616 ^ i * c = V 18446744073709551616 (a.take i) + V 18446744073709551616 (b.take i) →
   ∃ r, Ev (fun k => big_plus_E1.l0 k a b (p ++ List.replicate (j + 1) 0) c a a.length i) r ∧ Can 18446744073709551616 r (V 18446744073709551616 a + V 18446744073709551616 b) ∧ r.length ≤ a.length + 1 := by
 intro j
 induction j with
 | zero =>
  intro i p c hi hp hd hc0 hc1 hv
  have e1 : i = a.length := by omega
  rw [List.take_of_length_le (by omega), List.take_of_length_le (by omega)] at hv
  obtain ⟨r, he, hcan, hlen⟩ := trim_ev 18446744073709551616 (a.length + 1) (l := p ++ [c]) (n := V 18446744073709551616 a + V 18446744073709551616 b) (by simp; omega) (by omega)
   ⟨Dig_snoc hd hc0 (by omega), by rw [V_snoc, hp]; exact hv⟩
  refine ⟨r, Ev.succ (Ev.congr he fun k => ?_), hcan, hlen⟩
  rw [big_plus_E1.l0, if_neg (by omega), if_pos (by omega), if_pos (by simp; omega), show ((a.length : Int)).toNat = p.length by omega, set_pad]
  simp
 | succ j ih =>
  intro i p c hi hp hd hc0 hc1 hv
  have ra := rd_dig ha (i := (i : Int)) (by omega) (by omega)
  have stepEq : ∃ y, 0 ≤ y ∧ y < 18446744073709551616 ∧ V 18446744073709551616 (b.take (i + 1)) = V 18446744073709551616 (b.take i) + 18446744073709551616 ^ i * y ∧
    ((i : Int) < (b.length : Int) → rd b (i : Int) = y) ∧ (¬ (i : Int) < (b.length : Int) → y = 0) := by
   by_cases hib : i < b.length
   ·have rb := rd_dig hb (i := (i : Int)) (by omega) (by omega)
    exact ⟨rd b (i : Int), rb.1, rb.2, V_take 18446744073709551616 b hib, fun _ => rfl, fun h => absurd (by omega) h⟩
   ·refine ⟨0, by omega, by omega, ?_, fun h => absurd h (by omega), fun _ => rfl⟩
    rw [List.take_of_length_le (by omega), List.take_of_length_le (by omega)]; omega
  obtain ⟨y, y0, y1, hvb, hy1, hy2⟩ := stepEq
  have had := add64 (a := rd a (i : Int)) (b := y) (c := c) ra.1 y0 hc0 hc1
  generalize hs : rd a (i : Int) + y + c = s at had
  obtain ⟨r, he, hcan, hlen⟩ := ih (i + 1) (p ++ [s % 18446744073709551616]) (s / 18446744073709551616) (by omega) (by simp; omega) (Dig_snoc hd (by omega) (by omega)) (by omega) (by omega) (by
   rw [V_snoc, hp, V_take 18446744073709551616 a (by omega), hvb, Int.pow_succ]
   exact plus_alg 18446744073709551616 (18446744073709551616 ^ i) _ c _ _ _ _ _ _ hv (by omega))
  refine ⟨r, Ev.succ (Ev.congr he fun k => ?_), hcan, hlen⟩
  rw [big_plus_E1.l0, if_pos (by omega), if_pos (by omega), if_pos (by omega), w64 (by omega) (by omega)]
  by_cases hib : (i : Int) < (b.length : Int)
  ·rw [if_pos hib, hy1 hib, had]
   simp only [Option.bind_some]
   rw [if_pos (by simp; omega), show ((i : Nat) : Int).toNat = p.length by omega, set_pad]
   simp
  ·have := hy2 hib
   subst this
   rw [if_neg hib, had]
   simp only [Option.bind_some]
   rw [if_pos (by simp; omega), show ((i : Nat) : Int).toNat = p.length by omega, set_pad]
   simp
theorem plusT_loop {a b : List Int} (hab : b.length ≤ a.length) (ha : Dig 18446744073709551616 a) (hb : Dig 18446744073709551616 b) (hl : a.length < 1099511627776) :
  ∀ (j i : Nat) (p : List Int) (c : Int), i + j = a.length → p.length = i → Dig 18446744073709551616 p → 0 ≤ c → c ≤ 1 →
   V 18446744073709551616 p + 18446744073709551616 ^ i * c = V 18446744073709551616 (a.take i) + V 18446744073709551616 (b.take i) →
   ∃ r, Ev (fun k => big_plus_T1.l0 k a b (p ++ List.replicate (j + 1) 0) c a a.length i) r ∧ Can 18446744073709551616 r (V 18446744073709551616 a + V 18446744073709551616 b) ∧ r.length ≤ a.length + 1 := by
 intro j
 induction j with
 | zero =>
  intro i p c hi hp hd hc0 hc1 hv
  have e1 : i = a.length := by omega
  rw [List.take_of_length_le (by omega), List.take_of_length_le (by omega)] at hv
  obtain ⟨r, he, hcan, hlen⟩ := trim_ev 18446744073709551616 (a.length + 1) (l := p ++ [c]) (n := V 18446744073709551616 a + V 18446744073709551616 b) (by simp; omega) (by omega)
   ⟨Dig_snoc hd hc0 (by omega), by rw [V_snoc, hp]; exact hv⟩
  refine ⟨r, Ev.succ (Ev.congr he fun k => ?_), hcan, hlen⟩
  rw [big_plus_T1.l0, if_neg (by omega), if_pos (by omega), if_pos (by simp; omega), show ((a.length : Int)).toNat = p.length by omega, set_pad]
  simp
 | succ j ih =>
  intro i p c hi hp hd hc0 hc1 hv
  have ra := rd_dig ha (i := (i : Int)) (by omega) (by omega)
  have stepEq : ∃ y, 0 ≤ y ∧ y < 18446744073709551616 ∧ V 18446744073709551616 (b.take (i + 1)) = V 18446744073709551616 (b.take i) + 18446744073709551616 ^ i * y ∧
    ((i : Int) < (b.length : Int) → rd b (i : Int) = y) ∧ (¬ (i : Int) < (b.length : Int) → y = 0) := by
   by_cases hib : i < b.length
   ·have rb := rd_dig hb (i := (i : Int)) (by omega) (by omega)
    exact ⟨rd b (i : Int), rb.1, rb.2, V_take 18446744073709551616 b hib, fun _ => rfl, fun h => absurd (by omega) h⟩
   ·refine ⟨0, by omega, by omega, ?_, fun h => absurd h (by omega), fun _ => rfl⟩
    rw [List.take_of_length_le (by omega), List.take_of_length_le (by omega)]; omega
  obtain ⟨y, y0, y1, hvb, hy1, hy2⟩ := stepEq
  have had := add64 (a := rd a (i : Int)) (b := y) (c := c) ra.1 y0 hc0 hc1
  generalize hs : rd a (i : Int) + y + c = s at had
  obtain ⟨r, he, hcan, hlen⟩ := ih (i + 1) (p ++ [s % 18446744073709551616]) (s / 18446744073709551616) (by omega) (by simp; omega) (Dig_snoc hd (by omega) (by omega)) (by omega) (by omega) (by
   rw [V_snoc, hp, V_take 18446744073709551616 a (by omega), hvb, Int.pow_succ]
   exact plus_alg 18446744073709551616 (18446744073709551616 ^ i) _ c _ _ _ _ _ _ hv (by omega))
  refine ⟨r, Ev.succ (Ev.congr he fun k => ?_), hcan, hlen⟩
  rw [big_plus_T1.l0, if_pos (by omega), if_pos (by omega), if_pos (by omega), w64 (by omega) (by omega)]
  by_cases hib : (i : Int) < (b.length : Int)
  ·rw [if_pos hib, hy1 hib, had]
   simp only [Option.bind_some]
   rw [if_pos (by simp; omega), show ((i : Nat) : Int).toNat = p.length by omega, set_pad]
   simp
  ·have := hy2 hib
   subst this
   rw [if_neg hib, had]
   simp only [Option.bind_some]
   rw [if_pos (by simp; omega), show ((i : Nat) : Int).toNat = p.length by omega, set_pad]
   simp
theorem plus_ev {a b : List Int} (ha : Dig 18446744073709551616 a) (hb : Dig 18446744073709551616 b) (hla : a.length < 1099511627776) (hlb : b.length < 1099511627776) :
  ∃ r, Ev (fun k => big_plus.f k a b) r ∧ Can 18446744073709551616 r (V 18446744073709551616 a + V 18446744073709551616 b) ∧ r.length ≤ max a.length b.length + 1 := by
 by_cases h : (a.length : Int) < (b.length : Int)
 ·obtain ⟨r, he, hc, hl⟩ := plusT_loop (a := b) (b := a) (by omega) hb ha hlb b.length 0 [] 0 (by omega) rfl (Dig_nil _) (by omega) (by omega) (by simp [V])
  refine ⟨r, Ev.congr he fun k => ?_, by rw [Int.add_comm]; exact hc, by omega⟩
  unfold big_plus.f big_plus_T1.f
  have e : wrap64 ((b.length : Int) + 1) = (b.length : Int) + 1 := w64 (by omega) (by omega)
  rw [if_pos h, if_pos h, e, if_pos (by omega), if_pos (by omega)]
  simp [show ((b.length : Int) + 1).toNat = b.length + 1 by omega]
 ·obtain ⟨r, he, hc, hl⟩ := plusE_loop (a := a) (b := b) (by omega) ha hb hla a.length 0 [] 0 (by omega) rfl (Dig_nil _) (by omega) (by omega) (by simp [V])
  refine ⟨r, Ev.congr he fun k => ?_, hc, by omega⟩
  unfold big_plus.f big_plus_E1.f
  have e : wrap64 ((a.length : Int) + 1) = (a.length : Int) + 1 := w64 (by omega) (by omega)
  rw [if_neg h, if_neg h, e, if_pos (by omega), if_pos (by omega)]
  simp [show ((a.length : Int) + 1).toNat = a.length + 1 by omega]
end Go.Proofs.Ytbmddlldadbfnaa.BM
end
section
namespace Go.Proofs.Ytbmddlldadbfnaa.BM
open Go.RowKit Go.Proofs.YtbmddlldadbfnaaW.PrintWords Go.Proofs.YtbmddlldadbfnaaW.PrintLast Go.Proofs.YtbmddlldadbfnaaW.PrintMore
open Go.Proofs.Ytbmddlldadbfnaa.BA
theorem times_alg (B P vp c va m d c2 x : Int) (h : vp + P * c = va * m) (h2 : x * m + c = d + B * c2) : vp + P * d + P * B * c2 = (va + P * x) * m := by
 rw [show vp + P * d + P * B * c2 = vp + P * (d + B * c2) by grind, ← h2, show vp + P * (x * m + c) = (vp + P * c) + P * x * m by grind, h, Int.add_mul]
theorem times_step (k : Nat) (x1 x5 : List Int) (x6 x7 x8 : Int) (x29 : List Int) (x30 x31 : Int) (x36 : List Int) (x37 x38 hi lo s1 c1 s2 c2 : Int)
  (h : x38 < x37) (h0 : 0 ≤ x38) (h1 : x38 < (x36.length : Int)) (hm : bits_Mul64.f x7 (rd x36 x38) = some (hi, lo)) (h2 : 0 ≤ wrap64 (x6 + x38)) (h3 : wrap64 (x6 + x38) < (x5.length : Int))
  (ha : bits_Add64.f lo (rd x5 (wrap64 (x6 + x38))) 0 = some (s1, c1)) (hb : bits_Add64.f s1 x8 0 = some (s2, c2)) :
  big_times.l1 (k + 1) x1 x5 x6 x7 x8 x29 x30 x31 x36 x37 x38 = big_times.l1 k x1 (x5.set (wrap64 (x6 + x38)).toNat s2) x6 x7 (IntKind.u64.wrap (IntKind.u64.wrap (hi + c1) + c2)) x29 x30 x31 x36 x37 (wrap64 (x38 + 1)) := by
 rw [big_times.l1, if_pos h, if_pos h0, if_pos h1, hm]
 simp only [Option.bind_some]
 rw [if_pos h2, if_pos h3, ha]
 simp only [Option.bind_some]
 rw [hb]
 simp only [Option.bind_some]
theorem times_outer (k : Nat) (m : Int) (x5 a : List Int) (i : Nat) (hi lo s1 c1 s2 c2 y : Int) (hl : a.length < 1099511627776) (h : i < a.length) (h5 : i + 1 < x5.length)
  (hm : bits_Mul64.f (rd a i) m = some (hi, lo)) (ha : bits_Add64.f lo (rd x5 i) 0 = some (s1, c1)) (hb : bits_Add64.f s1 0 0 = some (s2, c2))
  (hy : IntKind.u64.wrap (IntKind.u64.wrap (hi + c1) + c2) = y) :
  big_times.l0 (k + 1 + 1 + 1) [m] x5 a a.length i = big_times.l0 k [m] ((x5.set i s2).set (i + 1) y) a a.length ((i + 1 : Nat) : Int) := by
 have ew : wrap64 ((i : Int) + 0) = (i : Int) := by rw [w64 (by omega) (by omega)]; omega
 have e1 : wrap64 (0 + 1) = 1 := by rw [w64 (by omega) (by omega)]; rfl
 have e2 : wrap64 ((i : Int) + (([m] : List Int).length : Int)) = ((i + 1 : Nat) : Int) := by rw [w64 (by simp; omega) (by simp; omega)]; simp
 have e3 : wrap64 ((i : Int) + 1) = ((i + 1 : Nat) : Int) := by rw [w64 (by omega) (by omega)]; omega
 rw [big_times.l0, if_pos (by omega), if_pos (by omega), if_pos (by omega)]
 rw [times_step (k + 1) [m] x5 (i : Int) (rd a i) 0 a a.length i [m] ([m] : List Int).length 0 hi lo s1 c1 s2 c2 (by simp) (by omega) (by simp) hm (by rw [ew]; omega) (by rw [ew]; omega) (by rw [ew]; exact ha) hb]
 rw [ew, e1, hy, big_times.l1, if_neg (by simp), e2, e3, if_pos (by omega), if_pos (by rw [List.length_set]; omega)]
 rfl
theorem times_carry (s c : Int) (h0 : 0 ≤ s) (h1 : s ≤ 340282366920938463426481119284349108225) (hc0 : 0 ≤ c) (hc1 : c < 18446744073709551616) :
  IntKind.u64.wrap (IntKind.u64.wrap (s / 18446744073709551616 + (s % 18446744073709551616 + c + 0) / 18446744073709551616) + ((s % 18446744073709551616 + c + 0) % 18446744073709551616 + 0 + 0) / 18446744073709551616) = (s + c) / 18446744073709551616 := by
 rw [u64m, u64m]
 omega
theorem times_loop {a : List Int} (ha : Dig 18446744073709551616 a) {m : Int} (hm0 : 0 ≤ m) (hm : m < 18446744073709551616) (hl : a.length < 1099511627776) :
  ∀ (j i : Nat) (p : List Int) (c : Int), i + j = a.length → p.length = i → Dig 18446744073709551616 p → 0 ≤ c → c < 18446744073709551616 → V 18446744073709551616 p + 18446744073709551616 ^ i * c = V 18446744073709551616 (a.take i) * m →
   ∃ r, Ev (fun k => big_times.l0 k [m] ((p ++ [c]) ++ List.replicate j 0) a a.length i) r ∧ Can 18446744073709551616 r (V 18446744073709551616 a * m) ∧ r.length ≤ a.length + 1 := by
 intro j
 induction j with
 | zero =>
  intro i p c hi hp hd hc0 hc1 hv
  rw [List.take_of_length_le (by omega)] at hv
  obtain ⟨r, he, hcan, hlen⟩ := trim_ev 18446744073709551616 (a.length + 1) (l := p ++ [c]) (n := V 18446744073709551616 a * m) (by simp; omega) (by omega)
   ⟨Dig_snoc hd hc0 (by omega), by rw [V_snoc, hp]; exact hv⟩
  refine ⟨r, Ev.succ (Ev.congr he fun k => ?_), hcan, hlen⟩
  rw [big_times.l0, if_neg (by omega)]
  simp
 | succ j ih =>
  intro i p c hi hp hd hc0 hc1 hv
  have ra := rd_dig ha (i := (i : Int)) (by omega) (by omega)
  have hmul := mul64 (a := rd a (i : Int)) (b := m) ra.1 ra.2 hm0 hm
  have hP0 := Int.mul_nonneg ra.1 hm0
  have hP1 : rd a (i : Int) * m ≤ 340282366920938463426481119284349108225 := by
   have := Int.mul_le_mul (show rd a (i : Int) ≤ 18446744073709551615 by omega) (show m ≤ 18446744073709551615 by omega) hm0 (by omega)
   simpa using this
  generalize hs : rd a (i : Int) * m = s at hmul hP0 hP1
  obtain ⟨r, he, hcan, hlen⟩ := ih (i + 1) (p ++ [(s + c) % 18446744073709551616]) ((s + c) / 18446744073709551616) (by omega) (by simp; omega) (Dig_snoc hd (by omega) (by omega)) (by omega) (by omega) (by
   rw [V_snoc, hp, V_take 18446744073709551616 a (by omega), Int.pow_succ]
   exact times_alg 18446744073709551616 (18446744073709551616 ^ i) _ c _ _ _ _ _ hv (by omega))
  refine ⟨r, Ev.succ (Ev.succ (Ev.succ (Ev.congr he fun k => ?_))), hcan, hlen⟩
  have e1 : rd (p ++ [c] ++ List.replicate (j + 1) 0) (i : Int) = c := by
   unfold rd; simp [List.getD_eq_getElem?_getD, hp]
  have e2 : (p ++ [c] ++ List.replicate (j + 1) 0).set i ((s + c) % 18446744073709551616) = (p ++ [(s + c) % 18446744073709551616]) ++ List.replicate (j + 1) 0 := by
   rw [← hp, List.append_assoc, List.set_append_right _ _ (Nat.le_refl _)]; simp
  have hA := add64 (a := s % 18446744073709551616) (b := c) (c := 0) (by omega) hc0 (by omega) (by omega)
  have hA2 := add64 (a := (s % 18446744073709551616 + c + 0) % 18446744073709551616) (b := 0) (c := 0) (by omega) (by omega) (by omega) (by omega)
  refine (times_outer k m _ a i _ _ _ _ _ _ _ hl (by omega) (by simp; omega) hmul (by rw [e1]; exact hA) hA2 (times_carry s c hP0 hP1 hc0 hc1)).trans ?_
  rw [show ((s % 18446744073709551616 + c + 0) % 18446744073709551616 + 0 + 0) % 18446744073709551616 = (s + c) % 18446744073709551616 by omega, e2]
  rw [show i + 1 = (p ++ [(s + c) % 18446744073709551616]).length by simp; omega, set_pad]
theorem times_ev {a : List Int} (ha : Dig 18446744073709551616 a) {m : Int} (hm0 : 0 ≤ m) (hm : m < 18446744073709551616) (hl : a.length < 1099511627776) :
  ∃ r, Ev (fun k => big_times.f k a [m]) r ∧ Can 18446744073709551616 r (V 18446744073709551616 a * m) ∧ r.length ≤ a.length + 1 := by
 by_cases h0 : a.length = 0
 ·have : a = [] := List.eq_nil_of_length_eq_zero h0
  subst this
  refine ⟨[], Ev.succ (Ev.congr (Ev.pure _) fun k => ?_), by simpa [V] using Can_nil 18446744073709551616, by simp⟩
  simp [big_times.f, big_times.j0]
 ·obtain ⟨r, he, hc, hlen⟩ := times_loop ha hm0 hm hl a.length 0 [] 0 (by omega) rfl (Dig_nil _) (by omega) (by omega) (by simp [V])
  refine ⟨r, Ev.succ (Ev.congr he fun k => ?_), hc, hlen⟩
  have e : wrap64 ((a.length : Int) + (([m] : List Int).length : Int)) = (a.length : Int) + 1 := by simp; rw [w64 (by omega) (by omega)]
  unfold big_times.f
  rw [if_neg (by omega), big_times.j0, if_neg (by simp), e, if_pos (by omega), if_pos (by omega)]
  simp [show ((a.length : Int) + 1).toNat = a.length + 1 by omega, List.replicate_succ]
end Go.Proofs.Ytbmddlldadbfnaa.BM
end
section
namespace Go.Proofs.Ytbmddlldadbfnaa.BM
open Go.RowKit Go.Proofs.YtbmddlldadbfnaaW.PrintWords Go.Proofs.YtbmddlldadbfnaaW.PrintLast Go.Proofs.YtbmddlldadbfnaaW.PrintMore
open Go.Proofs.Ytbmddlldadbfnaa.BA
def wv (c b : Int) : Int := if 48 ≤ c ∧ c ≤ 57 ∧ c - 48 < b then c - 48 else if 97 ≤ c ∧ c ≤ 122 ∧ c - 87 < b then c - 87 else -1
theorem wv_lt (c b : Int) (hb : 0 < b) : wv c b < b := by unfold wv; split <;> (try split) <;> omega
theorem worth_ev (c b : Int) (h0 : 0 ≤ c) (h1 : c < 256) (hb : 2 ≤ b) (hb' : b ≤ 36) : Ev (fun k => big_worth.f k c b) (wv c b) := by
 refine Ev.succ (Ev.succ (Ev.congr (Ev.pure _) fun k => ?_))
 simp only [big_worth.f, big_worth.j0, big_worth.j1, decide_eq_true_eq, wv]
 repeat' split
 all_goals first | rfl | (exfalso; omega) | (congr 1; omega)
def D (b : Int) (g : Nat → Int) : Nat → Int
 | 0 => 0
 | i + 1 => D b g i * b + g i
theorem D_add (b : Int) (g : Nat → Int) (i : Nat) : ∀ t, D b g (i + t) = D b g i * b ^ t + D b (fun j => g (i + j)) t
 | 0 => by simp [D]
 | t + 1 => by
  show D b g (i + t) * b + g (i + t) = _
  rw [D_add b g i t, Int.pow_succ]
  simp only [D]
  grind
theorem D_nonneg {b : Int} (hb : 0 ≤ b) {g : Nat → Int} : ∀ {t : Nat}, (∀ j, j < t → 0 ≤ g j) → 0 ≤ D b g t
 | 0, _ => by simp [D]
 | t + 1, h => by
  have h1 := D_nonneg hb (t := t) (fun j hj => h j (by omega))
  have h2 := h t (by omega)
  have := Int.mul_nonneg h1 hb
  simp only [D]; omega
theorem D_lt {b : Int} (hb : 0 < b) {g : Nat → Int} : ∀ {t : Nat}, (∀ j, j < t → g j < b) → D b g t < b ^ t
 | 0, _ => by simp [D]
 | t + 1, h => by
  have h1 := D_lt hb (t := t) (fun j hj => h j (by omega))
  have h2 := h t (by omega)
  have := Int.mul_le_mul_of_nonneg_right (show D b g t + 1 ≤ b ^ t by omega) (Int.le_of_lt hb)
  rw [Int.add_mul] at this
  rw [Int.pow_succ]; simp only [D]; omega
theorem D_congr {b : Int} {g g' : Nat → Int} : ∀ {t : Nat}, (∀ j, j < t → g j = g' j) → D b g t = D b g' t
 | 0, _ => rfl
 | t + 1, h => by simp only [D]; rw [D_congr (t := t) (fun j hj => h j (by omega)), h t (by omega)]
theorem bt_extract (s : ByteArray) {i j t : Nat} (h : i + t < j) (hj : j ≤ s.size) : bt (s.extract i j) ((t : Nat) : Int) = bt s ((i + t : Nat) : Int) := by
 unfold bt
 have h1 : ((t : Nat) : Int).toNat = t := by omega
 have h2 : ((i + t : Nat) : Int).toNat = i + t := by omega
 simp only [h1, h2]
 have hs : (s.extract i j).size = j - i := by rw [ByteArray.size_extract]; omega
 rw [dif_pos (by omega), dif_pos (by omega)]
 congr 2
 rw [ByteArray.getElem_extract]
theorem pow_lt_of_le {b : Int} (hb : 1 ≤ b) {m n : Nat} (h : m ≤ n) {c : Int} (hc : b ^ n < c) : b ^ m < c := by
 have := pow_le' hb h; omega
theorem ss_step (k : Nat) (s : ByteArray) (b : Int) (neg : Bool) (e : Int) (acc : List Int) (pos v p cnt : Int) (c : ByteArray) (n i w : Int) (h : i < n) (h0 : 0 ≤ i) (h1 : i < (c.size : Int))
  (hw : big_worth.f k (bt c i) b = some w) (hw0 : ¬ w < 0) :
  bISetString.l1 (k + 1) s b neg e acc pos v p cnt c n i =
   bISetString.l1 k s b neg e acc pos (IntKind.u64.wrap (IntKind.u64.wrap (v * IntKind.u64.wrap b) + IntKind.u64.wrap w)) (IntKind.u64.wrap (p * IntKind.u64.wrap b)) cnt c n (wrap64 (i + 1)) := by
 rw [bISetString.l1, if_pos h, if_pos h0, if_pos h1, hw]
 simp only [Option.bind_some]
 rw [if_neg hw0]
theorem Ev.step {α β : Type} {f : Nat → Option α} {g : Nat → Option β} {a : α} {r : β} {t : Nat → Option β} (hf : Ev f a) (h : ∀ k, f k = some a → t (k + 1) = g k) (hg : Ev g r) : Ev t r := by
 obtain ⟨K, hK⟩ := hf
 obtain ⟨L, hL⟩ := hg
 refine ⟨max K L + 1, fun k hk => ?_⟩
 have h1 := h (k - 1) (hK _ (by omega))
 rw [show k - 1 + 1 = k by omega] at h1
 rw [h1]
 exact hL _ (by omega)
def ssTail (s : ByteArray) (b : Int) (neg : Bool) (e : Int) (acc : List Int) (nxt v p : Int) (k : Nat) : Option (List Int × Bool) :=
 (big_times.f k acc [p]).bind fun t => (big_trim.f k [v]).bind fun u => (big_plus.f k t u).bind fun x => bISetString.l0 k s b neg e x nxt
theorem ss_l1 (s : ByteArray) (b : Int) (hb : 2 ≤ b) (hb' : b ≤ 36) (neg : Bool) (e : Int) (acc : List Int) (pos cnt nxt : Int) (hnx : wrap64 (pos + cnt) = nxt) (c : ByteArray) (hc : ∀ i : Nat, i < c.size → 0 ≤ wv (bt c i) b) (hn : c.size < 4294967296)
  (hp : b ^ c.size < 18446744073709551616) (r : List Int × Bool)
  (ht : Ev (ssTail s b neg e acc nxt (D b (fun i => wv (bt c i) b) c.size) (b ^ c.size)) r) :
  ∀ (j u : Nat), u + j = c.size → Ev (fun k => bISetString.l1 k s b neg e acc pos (D b (fun i => wv (bt c i) b) u) (b ^ u) cnt c c.size u) r := by
 intro j
 induction j with
 | zero =>
  intro u hu
  have : u = c.size := by omega
  subst this
  refine Ev.succ (Ev.congr ht fun k => ?_)
  rw [bISetString.l1, if_neg (by omega), hnx]
  rfl
 | succ j ih =>
  intro u hu
  have hbr := bt_range c (u : Int)
  refine Ev.step (worth_ev (bt c (u : Int)) b hbr.1 hbr.2 hb hb') (fun k hk => ?_) (ih (u + 1) (by omega))
  show bISetString.l1 (k + 1) s b neg e acc pos (D b (fun i => wv (bt c i) b) u) (b ^ u) cnt c c.size u = bISetString.l1 k s b neg e acc pos (D b (fun i => wv (bt c i) b) (u + 1)) (b ^ (u + 1)) cnt c c.size ((u + 1 : Nat) : Int)
  have hw0 := hc u (by omega)
  have hwl := wv_lt (bt c (u : Int)) b (by omega)
  have hD0 := D_nonneg (b := b) (g := fun i => wv (bt c i) b) (t := u) (by omega) (fun j hj => hc j (by omega))
  have hDl := D_lt (b := b) (g := fun i => wv (bt c i) b) (t := u + 1) (by omega) (fun j _ => wv_lt _ b (by omega))
  have hpu := pow_lt_of_le (show 1 ≤ b by omega) (show u + 1 ≤ c.size by omega) hp
  have hq := pow_pos' (show 0 < b by omega) u
  have hm0 := Int.mul_nonneg hD0 (show 0 ≤ b by omega)
  have hm1 := Int.mul_nonneg (Int.le_of_lt hq) (show 0 ≤ b by omega)
  have hbu : IntKind.u64.wrap b = b := u64 (by omega) (by omega)
  have hwu : IntKind.u64.wrap (wv (bt c (u : Int)) b) = wv (bt c (u : Int)) b := u64 (by omega) (by omega)
  have e1 : IntKind.u64.wrap (b ^ u * IntKind.u64.wrap b) = b ^ (u + 1) := by
   rw [Int.pow_succ] at hpu ⊢
   rw [hbu]
   exact u64 hm1 hpu
  simp only [D] at hDl ⊢
  have e2 : IntKind.u64.wrap (IntKind.u64.wrap (D b (fun i => wv (bt c i) b) u * IntKind.u64.wrap b) + IntKind.u64.wrap (wv (bt c (u : Int)) b)) = D b (fun i => wv (bt c i) b) u * b + wv (bt c (u : Int)) b := by
   rw [hwu, hbu, u64 hm0 (by omega)]
   exact u64 (by omega) (by omega)
  rw [ss_step k s b neg e acc pos _ _ cnt c _ _ _ (by omega) (by omega) (by omega) hk (by omega), e1, e2, w64 (by omega) (by omega)]
  rfl
theorem ss_outer (k : Nat) (s : ByteArray) (b : Int) (neg : Bool) (e : Int) (acc : List Int) (pos cnt : Nat) (h : pos < s.size) (he : e ≠ 0)
  (hcnt : wrap64 ((Int.tmod (wrap64 ((wrap64 ((s.size : Int) - (pos : Int))) - 1)) e) + 1) = (cnt : Int)) (e4 : wrap64 ((pos : Int) + (cnt : Int)) = ((pos + cnt : Nat) : Int)) (hle : pos + cnt ≤ s.size) :
  bISetString.l0 (k + 1) s b neg e acc pos = bISetString.l1 k s b neg e acc pos 0 1 cnt (s.extract pos (pos + cnt)) ((s.extract pos (pos + cnt)).size : Int) 0 := by
 rw [bISetString.l0, if_pos (by omega), if_neg he, if_pos (by omega), hcnt, e4, if_pos (by omega), if_pos (by omega)]
 simp only [Int.toNat_natCast]
theorem ss_cnt {n pos e : Nat} (h : pos < n) (hn : n < 1073741824) (he1 : 1 ≤ e) (he : e ≤ 64) :
  wrap64 ((Int.tmod (wrap64 ((wrap64 ((n : Int) - (pos : Int))) - 1)) (e : Int)) + 1) = (((n - pos - 1) % e + 1 : Nat) : Int) := by
 have h2 : (n - pos - 1) % e < e := Nat.mod_lt _ (by omega)
 rw [w64 (n := (n : Int) - (pos : Int)) (by omega) (by omega), w64 (n := (n : Int) - (pos : Int) - 1) (by omega) (by omega)]
 rw [show (n : Int) - (pos : Int) - 1 = ((n - pos - 1 : Nat) : Int) by omega]
 have h1 : Int.tmod ((n - pos - 1 : Nat) : Int) (e : Int) = (((n - pos - 1) % e : Nat) : Int) := by
  rw [Int.tmod_eq_emod_of_nonneg (by omega), Int.natCast_emod]
 rw [h1, w64 (by omega) (by omega)]
 omega
theorem ss_tail_ev {s : ByteArray} {b : Int} {neg : Bool} {e : Int} {acc : List Int} {nxt v p : Int} {x1 x2 x3 : List Int} {r : List Int × Bool} (h1 : Ev (fun k => big_times.f k acc [p]) x1) (h2 : Ev (fun k => big_trim.f k [v]) x2)
  (h3 : Ev (fun k => big_plus.f k x1 x2) x3) (h4 : Ev (fun k => bISetString.l0 k s b neg e x3 nxt) r) : Ev (ssTail s b neg e acc nxt v p) r :=
 Ev.bind (g := fun k t => (big_trim.f k [v]).bind fun u => (big_plus.f k t u).bind fun x => bISetString.l0 k s b neg e x nxt) h1
  (Ev.bind (g := fun k u => (big_plus.f k x1 u).bind fun x => bISetString.l0 k s b neg e x nxt) h2 (Ev.bind (g := fun k x => bISetString.l0 k s b neg e x nxt) h3 h4))
theorem ss_chunk (s : ByteArray) (b : Int) (hb : 2 ≤ b) (hb' : b ≤ 36) (hs : s.size < 1073741824) (hg : ∀ i : Nat, i < s.size → 0 ≤ wv (bt s i) b) (e : Nat) (he : b ^ e < 18446744073709551616) (neg : Bool)
  (pos cnt : Nat) (acc : List Int) (c : ByteArray) (hle2 : pos + cnt ≤ s.size) (hle : cnt ≤ e) (hc1 : 1 ≤ cnt) (hsz : c.size = cnt) (hbt : ∀ i : Nat, i < cnt → bt c (i : Int) = bt s ((pos + i : Nat) : Int))
  (hc : Can 18446744073709551616 acc (D b (fun i => wv (bt s i) b) pos)) :
  ∃ x3, (∀ (nxt : Int) (r : List Int × Bool), wrap64 ((pos : Int) + (cnt : Int)) = nxt → Ev (fun k => bISetString.l0 k s b neg e x3 nxt) r → Ev (fun k => bISetString.l1 k s b neg e acc pos 0 1 cnt c c.size 0) r) ∧
   Can 18446744073709551616 x3 (D b (fun i => wv (bt s i) b) (pos + cnt)) := by
 have hpc := pow_lt_of_le (show 1 ≤ b by omega) hle he
 have hal : acc.length ≤ pos := by
  refine Can_len (by omega) hc ?_
  have h1 := D_lt (b := b) (g := fun i => wv (bt s i) b) (t := pos) (by omega) (fun j _ => wv_lt _ b (by omega))
  have h2 := pow_mono (show 0 ≤ b by omega) (show b ≤ 18446744073709551616 by omega) pos
  exact Int.lt_of_lt_of_le h1 h2
 have hgc : ∀ i : Nat, i < c.size → 0 ≤ wv (bt c i) b := fun i hi => by rw [hbt i (by omega)]; exact hg (pos + i) (by omega)
 have hD0 := D_nonneg (b := b) (g := fun i => wv (bt c i) b) (t := cnt) (by omega) (fun j hj => hgc j (by omega))
 have hDl := D_lt (b := b) (g := fun i => wv (bt c i) b) (t := cnt) (by omega) (fun j _ => wv_lt _ b (by omega))
 have hv : D b (fun i => wv (bt s i) b) pos * b ^ cnt + D b (fun i => wv (bt c i) b) cnt = D b (fun i => wv (bt s i) b) (pos + cnt) := by
  rw [D_add]
  congr 1
  exact D_congr (fun j hj => by show wv _ b = wv _ b; rw [hbt j hj])
 obtain ⟨x1, ht1, hc1', hl1⟩ := times_ev hc.1.1 (m := b ^ cnt) (Int.le_of_lt (pow_pos' (by omega) cnt)) hpc (by omega)
 obtain ⟨x2, ht2, hc2', hl2⟩ := trim_ev 18446744073709551616 1 (l := [D b (fun i => wv (bt c i) b) cnt]) (n := D b (fun i => wv (bt c i) b) cnt) rfl (by omega) ⟨Dig_one hD0 (Int.lt_trans hDl hpc), by simp [V]⟩
 obtain ⟨x3, ht3, hc3', hl3⟩ := plus_ev hc1'.1.1 hc2'.1.1 (by omega) (by omega)
 rw [hc1'.1.2, hc2'.1.2, hc.1.2, hv] at hc3'
 refine ⟨x3, fun nxt r hn hr => ?_, hc3'⟩
 subst hsz
 have h := ss_l1 s b hb hb' neg e acc pos c.size nxt hn c hgc (by omega) hpc r (ss_tail_ev ht1 ht2 ht3 hr) c.size 0 (by omega)
 simpa only [D, Int.pow_zero, Int.natCast_zero, Int.cast_ofNat_Int] using h
theorem ss_l0 (s : ByteArray) (b : Int) (hb : 2 ≤ b) (hb' : b ≤ 36) (neg : Bool) (hs0 : 0 < s.size) (hs : s.size < 1073741824) (hg : ∀ i : Nat, i < s.size → 0 ≤ wv (bt s i) b)
  (e : Nat) (he1 : 1 ≤ e) (he : b ^ e < 18446744073709551616) (he64 : e ≤ 64) :
  ∀ (m pos : Nat) (acc : List Int), s.size - pos ≤ m → pos ≤ s.size → Can 18446744073709551616 acc (D b (fun i => wv (bt s i) b) pos) →
   ∃ r, Ev (fun k => bISetString.l0 k s b neg e acc pos) (r, neg) ∧ Can 18446744073709551616 r (D b (fun i => wv (bt s i) b) s.size) := by
 intro m
 induction m with
 | zero =>
  intro pos acc hm hp hc
  have : pos = s.size := by omega
  subst this
  refine ⟨acc, Ev.succ (Ev.congr (Ev.pure _) fun k => ?_), hc⟩
  rw [bISetString.l0, if_neg (by omega), if_neg ?_]
  intro h0
  have := (toList_nil_iff_emptyBytes s).1 h0
  subst this
  simp at hs0
 | succ m ih =>
  intro pos acc hm hp hc
  rcases Nat.lt_or_ge pos s.size with hlt | hge
  ·obtain ⟨cnt, hcn⟩ : ∃ cnt, cnt = (s.size - pos - 1) % e + 1 := ⟨_, rfl⟩
   have hle : cnt ≤ e := by have := Nat.mod_lt (s.size - pos - 1) (show 0 < e by omega); omega
   have hle2 : pos + cnt ≤ s.size := by have := Nat.mod_le (s.size - pos - 1) e; omega
   have hc1 : 1 ≤ cnt := by omega
   have hne : (e : Int) ≠ 0 := by omega
   have hdone : s.size - (pos + cnt) ≤ m := by omega
   have hsz : (s.extract pos (pos + cnt)).size = cnt := by rw [ByteArray.size_extract]; omega
   have hbt : ∀ i : Nat, i < cnt → bt (s.extract pos (pos + cnt)) (i : Int) = bt s ((pos + i : Nat) : Int) := fun i hi => bt_extract s (by omega) (by omega)
   have e4 : wrap64 ((pos : Int) + (cnt : Int)) = ((pos + cnt : Nat) : Int) := by rw [w64 (by omega) (by omega)]; omega
   have hcnt := ss_cnt hlt hs he1 he64
   rw [← hcn] at hcnt
   have hout := fun k => ss_outer k s b neg e acc pos cnt hlt hne hcnt e4 hle2
   generalize hce : s.extract pos (pos + cnt) = c at hsz hbt hout
   obtain ⟨x3, hx3, hc3⟩ := ss_chunk s b hb hb' hs hg e he neg pos cnt acc c hle2 hle hc1 hsz hbt hc
   obtain ⟨r, hr, hcr⟩ := ih (pos + cnt) x3 hdone hle2 hc3
   refine ⟨r, Ev.succ (Ev.congr ?_ hout), hcr⟩
   exact hx3 _ (r, neg) e4 hr
  ·exact ih pos acc (by omega) hp hc
def bodyOf (s : ByteArray) : ByteArray := if 0 < s.size ∧ bt s 0 = 45 then s.extract 1 s.size else s
theorem ss_ev (s : ByteArray) (b : Int) (hb : 2 ≤ b) (hb' : b ≤ 36) (hs0 : 0 < (bodyOf s).size) (hs : s.size < 1073741824) (hg : ∀ i : Nat, i < (bodyOf s).size → 0 ≤ wv (bt (bodyOf s) i) b) :
  ∃ r, Ev (fun k => bISetString.f k 0 s b) (r, (bt s 0 == 45)) ∧ Can 18446744073709551616 r (D b (fun i => wv (bt (bodyOf s) i) b) (bodyOf s).size) := by
 obtain ⟨e, h1, h2, h3, _, h5⟩ := chunk_ev b hb hb'
 have hsz : 0 < s.size := by
  rcases Nat.eq_zero_or_pos s.size with h | h
  ·exfalso
   unfold bodyOf at hs0
   rw [if_neg (by omega)] at hs0
   omega
  ·exact h
 have hbs : (bodyOf s).size ≤ s.size := by unfold bodyOf; split <;> simp
 obtain ⟨r, hr, hcr⟩ := ss_l0 (bodyOf s) b hb hb' (bt s 0 == 45) hs0 (by omega) hg e h1 h3 h2 (bodyOf s).size 0 [] (by omega) (by omega) (Can_nil _)
 refine ⟨r, Ev.succ (Ev.succ (Ev.congr (Ev.bind (g := fun k a => bISetString.l0 k (bodyOf s) b (bt s 0 == 45) a.2 [] 0) h5 hr) fun k => ?_)), hcr⟩
 unfold bISetString.f
 rw [if_pos (by omega), if_pos (by omega), bISetString.j0]
 by_cases hm : bt s 0 = 45
 ·rw [if_pos (by simp [hm]), if_pos (by omega), bISetString.j1]
  unfold bodyOf
  rw [if_pos ⟨hsz, hm⟩]
 ·rw [if_neg (by simp [hm]), bISetString.j1]
  unfold bodyOf
  rw [if_neg (by simp [hm])]
end Go.Proofs.Ytbmddlldadbfnaa.BM
end

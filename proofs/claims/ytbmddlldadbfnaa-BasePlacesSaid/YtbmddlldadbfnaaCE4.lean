/- Part of the proof that what package base refuses at a byte is refused there whatever stands behind; a text that is read, with a digit more, is read as so many times the base and the digit, but for 0; texts of more than 2999 bytes together are not looked at. -/
import Derived.Laws.MathBits
import Derived.Laws.Bits64b
import Derived.Laws.RangeString
import Derived.Test.YtbmddlldadbfnaaProg
import Derived.Below
import Derived.Deep.Draws
import Derived.Deep.AppendLies
import Derived.Maps.AppendAt
import Derived.OwnWalk
import Derived.Laws.BytesArg
import Derived.Laws.MakeOwn
import Derived.Laws.OwnMore
import Derived.Deep.OwnRows
import Derived.Tactics
import Derived.Lib.ConvBytes
import Derived.Laws.Slices
import Derived.WalkKit
import Derived.KernelRfl
import Derived.RowKit3
import Derived.Deep.LoopGhost
import Derived.Deep.QuietTactic
import Derived.BigQuiet
import Derived.WideLaws
import Derived.Deep.DeepCutAuto
import Derived.Deep.CutBlock
import Derived.Deep.RegionHeld3
import Derived.Laws.Rows
import Derived.Lib.AppendStr
import Derived.ArgAppend
import Derived.Laws.IdiomCopy
import Derived.OrdersHeld
import Derived.Laws.BitsLemmas
import Derived.RowKit
import Derived.Test.YtbmddlldadbfnaaCE3
section
namespace Go.Proofs.Ytbmddlldadbfnaa.BB
open Go.RowKit Go.Proofs.Ytbmddlldadbfnaa.BA Go.Proofs.YtbmddlldadbfnaaW.PrintWords Go.Proofs.YtbmddlldadbfnaaW.PrintLast Go.Proofs.YtbmddlldadbfnaaW.PrintMore
attribute [local go_sem] ZU ZS max_two min_two ZP ZO ZT ZR
set_option linter.unusedVariables false
set_option linter.unusedSimpArgs false
mutual
def r00product.l0 : Nat → List Int → List Int → List Int → Int → Option (List Int)
 | 0, _, _, _, _ => none
 | k + 1, x0, x1, x5, x6 => if x6 < (x0.length : Int) then (r00product.l1 k x0 x1 x5 x6 0 0) else ((r00low.f k x5).bind fun t260 => (some t260))
def r00product.l1 : Nat → List Int → List Int → List Int → Int → Int → Int → Option (List Int)
 | 0, _, _, _, _, _, _ => none
 | k + 1, x0, x1, x5, x6, x7, x8 => if x8 < (x1.length : Int) then (if 0 ≤ x6 then (if x6 < (x0.length : Int) then (if 0 ≤ x8 then (if 0 ≤ (wrap64 (x6 + x8)) then (if (wrap64 (x6 + x8)) < (x5.length : Int) then (r00product.l1 k x0 x1 (x5.set ((wrap64 (x6 + x8)) : Int).toNat (Int.tmod (IntKind.u64.wrap ((IntKind.u64.wrap ((IntKind.u64.wrap ((rd x0 x6) * (rd x1 x8))) + (rd x5 (wrap64 (x6 + x8))))) + x7)) 4294967296)) x6 (IntKind.u64.wrap (Int.tdiv (IntKind.u64.wrap ((IntKind.u64.wrap ((IntKind.u64.wrap ((rd x0 x6) * (rd x1 x8))) + (rd x5 (wrap64 (x6 + x8))))) + x7)) 4294967296)) (wrap64 (x8 + 1))) else (none)) else (none)) else (none)) else (none)) else (none)) else (if 0 ≤ (wrap64 (x6 + (x1.length : Int))) then (if (wrap64 (x6 + (x1.length : Int))) < (x5.length : Int) then (r00product.l0 k x0 x1 (x5.set ((wrap64 (x6 + (x1.length : Int))) : Int).toNat x7) (wrap64 (x6 + 1))) else (none)) else (none))
end
def r00product.f (k : Nat) (l0 : List Int) (l1 : List Int) : Option (List Int) := if 0 ≤ (wrap64 ((l0.length : Int) + (l1.length : Int))) then (if (wrap64 ((l0.length : Int) + (l1.length : Int)) : Int).toNat ≤ 35184372088832 then (r00product.l0 k l0 l1 (List.replicate (wrap64 ((l0.length : Int) + (l1.length : Int)) : Int).toNat 0) 0) else (none)) else (none)
set_option maxHeartbeats 8000000 in
set_option maxRecDepth 100000 in
theorem r00product.calls (k : Nat) (A0 : Option Addr) (c0 : Nat) (l0 : List Int) (A1 : Option Addr) (c1 : Nat) (l1 : List Int) (r : List Int) (w : World) (hr0 : Kd.C (Kd.int .u64) w A0 l0.length l0) (hc0 : l0.length ≤ c0) (hr1 : Kd.C (Kd.int .u64) w A1 l1.length l1) (hc1 : l1.length ≤ c1) (h : r00product.f k l0 l1 = some r) :
  Calls Try.prog 94 #[.slice A0 l0.length c0, .slice A1 l1.length c1] w fun e w' => ∃ v0_ : Value, e = .returned (v0_) ∧ Kd.R (Kd.int .u64) 46 w' w.heap.size (fun _ => True) v0_ r ∧ Below w.heap.size w w' := by
 have HR0 := Zb.mk hr0
 have HC0 := Zb.mk hc0
 clear hr0 hc0
 have HR1 := Zb.mk hr1
 have HC1 := Zb.mk hc1
 clear hr1 hc1
 have HB := Zb.mk (Below.refl w.heap.size w)
 have H : (if 0 ≤ (wrap64 ((l0.length : Int) + (l1.length : Int))) then (if (wrap64 ((l0.length : Int) + (l1.length : Int)) : Int).toNat ≤ 35184372088832 then (r00product.l0 k l0 l1 (List.replicate (wrap64 ((l0.length : Int) + (l1.length : Int)) : Int).toNat 0) 0) else (none)) else (none)) = some r := h
 clear h
 obtain ⟨ji3, hji3⟩ : ∃ j_ : Int, (wrap64 ((l0.length : Int) + (l1.length : Int))) = j_ := ⟨_, rfl⟩
 replace H : (if 0 ≤ (ji3) then (if (ji3 : Int).toNat ≤ 35184372088832 then (r00product.l0 k l0 l1 (List.replicate (ji3 : Int).toNat 0) 0) else (none)) else (none)) = some r := by first | (rw [hji3] at H; exact H) | (simp only [hji3] at H ⊢; exact H)
 have hji3w : (IntKind.i64.wrap ((l0.length : Int) + (l1.length : Int))) = ji3 := (Zx _).trans hji3
 by_cases c4 : 0 ≤ (ji3)
 ·rw [if_pos c4] at H
  have c4b0 := eq_true c4
  have c4b1 : decide (0 ≤ (ji3)) = true := decide_eq_true c4
  clear c4
  by_cases c5 : (ji3 : Int).toNat ≤ 35184372088832
  ·rw [if_pos c5] at H
   have c5b0 := eq_true c5
   have c5b1 : decide ((ji3 : Int).toNat ≤ 35184372088832) = true := decide_eq_true c5
   clear c5
   obtain ⟨y257, hy257⟩ : ∃ y_ : List Int, y_ = (List.replicate (ji3 : Int).toNat 0) := ⟨_, rfl⟩
   replace H : (r00product.l0 k l0 l1 y257 0) = some r := by first | (rw [hy257]; with_reducible exact H) | (have H2_ := (Option.bind_some _ _).symm.trans H; rw [hy257]; with_reducible exact H2_) | (have H2_ := (Option.bind_some _ _).symm.trans H; with_reducible exact H2_) | with_reducible exact H | (rw [hy257]; exact H) | exact H
   have Ny257 := Zb.mk hy257
   clear hy257
   have H' := Zb.mk H
   clear H
   go_enter Try.func94, Try.ntmps94
   go_wp2_with (first | ((with_reducible refine Zt (N := 15) rfl ?_); refine Kd.R_make (Kd.int .u64) _ 46 rfl (N := 15) rfl 22 _ _ rfl ji3 rfl rfl Try.underlying22 (.int .u64 0) 8 info46 rfl (by decide) (by omega) 0 (ok := fun _ => True) (okp := fun _ => True) rfl (fun _ hk => hk) trivial (of_decide_eq_true (by first | (with_reducible assumption) | assumption)) (Nat.le_trans (Nat.mul_le_mul_right _ (of_decide_eq_true (by first | (with_reducible assumption) | assumption) : ji3.toNat ≤ 35184372088832)) (by omega)) (Below.refl _ _) (Nat.le_refl _) ?_; intro v258 w6 ho7 hb hg_ hnew_; clear hg_ hnew_; (first | rw [← Ny257.out] at ho7 | (simp only [Int.reduceToNat] at ho7; rw [← Ny257.out] at ho7)); have n0_ := Zb.mk (Kd.ZG ho7 (Zi (by repeat (with_reducible first | exact HB.out | apply Zc | apply Za | apply Zd)))); have n1_ := Zb.mk (Zl (by repeat (with_reducible first | exact HB.out | apply Zc | apply Za | apply Zd)) hb); clear HB; have HO259 := n0_; have HB := n1_; clear n0_ n1_; clear hb ho7))
   repeat (go_quiet (first | ((with_reducible refine Zt (N := 15) rfl ?_); refine Kd.R_make (Kd.int .u64) _ 46 rfl (N := 15) rfl 22 _ _ rfl ji3 rfl rfl Try.underlying22 (.int .u64 0) 8 info46 rfl (by decide) (by omega) 0 (ok := fun _ => True) (okp := fun _ => True) rfl (fun _ hk => hk) trivial (of_decide_eq_true (by first | (with_reducible assumption) | assumption)) (Nat.le_trans (Nat.mul_le_mul_right _ (of_decide_eq_true (by first | (with_reducible assumption) | assumption) : ji3.toNat ≤ 35184372088832)) (by omega)) (Below.refl _ _) (Nat.le_refl _) ?_; intro v258 w6 ho7 hb hg_ hnew_; clear hg_ hnew_; (first | rw [← Ny257.out] at ho7 | (simp only [Int.reduceToNat] at ho7; rw [← Ny257.out] at ho7)); have n0_ := Zb.mk (Kd.ZG ho7 (Zi (by repeat (with_reducible first | exact HB.out | apply Zc | apply Za | apply Zd)))); have n1_ := Zb.mk (Zl (by repeat (with_reducible first | exact HB.out | apply Zc | apply Za | apply Zd)) hb); clear HB; have HO259 := n0_; have HB := n1_; clear n0_ n1_; clear hb ho7)); try go_wp2_with (first | ((with_reducible refine Zt (N := 15) rfl ?_); refine Kd.R_make (Kd.int .u64) _ 46 rfl (N := 15) rfl 22 _ _ rfl ji3 rfl rfl Try.underlying22 (.int .u64 0) 8 info46 rfl (by decide) (by omega) 0 (ok := fun _ => True) (okp := fun _ => True) rfl (fun _ hk => hk) trivial (of_decide_eq_true (by first | (with_reducible assumption) | assumption)) (Nat.le_trans (Nat.mul_le_mul_right _ (of_decide_eq_true (by first | (with_reducible assumption) | assumption) : ji3.toNat ≤ 35184372088832)) (by omega)) (Below.refl _ _) (Nat.le_refl _) ?_; intro v258 w6 ho7 hb hg_ hnew_; clear hg_ hnew_; (first | rw [← Ny257.out] at ho7 | (simp only [Int.reduceToNat] at ho7; rw [← Ny257.out] at ho7)); have n0_ := Zb.mk (Kd.ZG ho7 (Zi (by repeat (with_reducible first | exact HB.out | apply Zc | apply Za | apply Zd)))); have n1_ := Zb.mk (Zl (by repeat (with_reducible first | exact HB.out | apply Zc | apply Za | apply Zd)) hb); clear HB; have HO259 := n0_; have HB := n1_; clear n0_ n1_; clear hb ho7)))
   go_loopg [6] k (fun kq v6 w' => ∃ (x5_1 : List Int) (x6_1 : Int), v6 = .int .i64 x6_1 ∧ Zb (r00product.l0 kq l0 l1 x5_1 x6_1 = some r) ∧ Zb (kq ≤ k) ∧ Zb (Kd.R (Kd.int .u64) 46 w' w.heap.size (fun _ => True) v258 x5_1) ∧ Zb (Below w.heap.size w w'))
   case atStart => exact ⟨(y257), (0), (by first | rfl | (simp; done) | (simp [*]; done)), H', ⟨Nat.le_refl _⟩, ⟨by (with_reducible repeat first | apply Kd.Zm | apply Kd.Zo); exact HO259.out⟩, ⟨by repeat (with_reducible first | exact HB.out | apply Zc | apply Za | apply Zd)⟩⟩
   case round =>
    clear H'
    try clear c1
    try clear p2
    try clear c4
    try clear c4b0
    try clear c4b1
    try clear c5
    try clear c5b0
    try clear c5b1
    try clear p6
    obtain ⟨x5_1, x6_1, rfl, HA, HK1, HO_5, HB⟩ := hrel
    cases gk with
    | zero => exact absurd HA.out (by simp [r00product.l0])
    | succ k1 =>
     have H := HA.out
     clear HA
     simp only [r00product.l0] at H
     by_cases c8 : x6_1 < (l0.length : Int)
     ·rw [if_pos c8] at H
      have c8b0 : decide (x6_1 < (l0.length : Int)) = true := decide_eq_true c8
      clear c8
      have H' := Zb.mk H
      clear H
      go_wp2
      repeat (go_quiet (fail); try go_wp2)
      go_loopg [7, 8] k1 (fun kq v7 v8 w' => ∃ (x5_2 : List Int) (x7_2 : Int) (x8_2 : Int), v7 = .int .u64 x7_2 ∧ v8 = .int .i64 x8_2 ∧ Zb (r00product.l1 kq l0 l1 x5_2 x6_1 x7_2 x8_2 = some r) ∧ Zb (kq ≤ k1) ∧ Zb (Kd.R (Kd.int .u64) 46 w' w.heap.size (fun _ => True) v258 x5_2) ∧ Zb (Below w.heap.size w w'))
      case atStart => exact ⟨(x5_1), (0), (0), (by first | rfl | (simp; done) | (simp [*]; done)), (by first | rfl | (simp; done) | (simp [*]; done)), H', ⟨Nat.le_refl _⟩, ⟨by (with_reducible repeat first | apply Kd.Zm | apply Kd.Zo); exact HO_5.out⟩, ⟨by repeat (with_reducible first | exact HB.out | apply Zc | apply Za | apply Zd)⟩⟩
      case round =>
       clear H'
       try clear c1
       try clear p2
       try clear c4
       try clear c4b0
       try clear c4b1
       try clear c5
       try clear c5b0
       try clear c5b1
       try clear p6
       try clear c8
       try clear c8b0
       try clear p2
       try clear p6
       obtain ⟨x5_2, x7_2, x8_2, rfl, rfl, HA, HK2, HO_5, HB⟩ := hrel
       cases gk with
       | zero => exact absurd HA.out (by simp [r00product.l1])
       | succ k2 =>
        have H := HA.out
        clear HA
        simp only [r00product.l1] at H
        by_cases c9 : x8_2 < (l1.length : Int)
        ·rw [if_pos c9] at H
         have c9b0 : decide (x8_2 < (l1.length : Int)) = true := decide_eq_true c9
         clear c9
         by_cases c10 : 0 ≤ x6_1
         ·rw [if_pos c10] at H
          have c10b0 : decide (0 ≤ x6_1) = true := decide_eq_true c10
          clear c10
          by_cases c11 : x6_1 < (l0.length : Int)
          ·rw [if_pos c11] at H
           have c11b0 : decide (x6_1 < (l0.length : Int)) = true := decide_eq_true c11
           clear c11
           by_cases c12 : 0 ≤ x8_2
           ·rw [if_pos c12] at H
            have c12b0 : decide (0 ≤ x8_2) = true := decide_eq_true c12
            clear c12
            obtain ⟨ji13, hji13⟩ : ∃ j_ : Int, (wrap64 (x6_1 + x8_2)) = j_ := ⟨_, rfl⟩
            replace H : (if 0 ≤ (ji13) then (if (ji13) < (x5_2.length : Int) then (r00product.l1 k2 l0 l1 (x5_2.set ((ji13) : Int).toNat (Int.tmod (IntKind.u64.wrap ((IntKind.u64.wrap ((IntKind.u64.wrap ((rd l0 x6_1) * (rd l1 x8_2))) + (rd x5_2 (ji13)))) + x7_2)) 4294967296)) x6_1 (IntKind.u64.wrap (Int.tdiv (IntKind.u64.wrap ((IntKind.u64.wrap ((IntKind.u64.wrap ((rd l0 x6_1) * (rd l1 x8_2))) + (rd x5_2 (ji13)))) + x7_2)) 4294967296)) (wrap64 (x8_2 + 1))) else (none)) else (none)) = some r := by first | (rw [hji13] at H; exact H) | (simp only [hji13] at H ⊢; exact H)
            have hji13w : (IntKind.i64.wrap (x6_1 + x8_2)) = ji13 := (Zx _).trans hji13
            by_cases c14 : 0 ≤ (ji13)
            ·rw [if_pos c14] at H
             have c14b0 : decide (0 ≤ (ji13)) = true := decide_eq_true c14
             clear c14
             by_cases c15 : (ji13) < (x5_2.length : Int)
             ·rw [if_pos c15] at H
              have c15b0 : decide ((ji13) < (x5_2.length : Int)) = true := decide_eq_true c15
              clear c15
              obtain ⟨y266, hy266⟩ : ∃ y_ : List Int, y_ = (x5_2.set ((ji13) : Int).toNat (Int.tmod (IntKind.u64.wrap ((IntKind.u64.wrap ((IntKind.u64.wrap ((rd l0 x6_1) * (rd l1 x8_2))) + (rd x5_2 (ji13)))) + x7_2)) 4294967296)) := ⟨_, rfl⟩
              replace H : (r00product.l1 k2 l0 l1 y266 x6_1 (IntKind.u64.wrap (Int.tdiv (IntKind.u64.wrap ((IntKind.u64.wrap ((IntKind.u64.wrap ((rd l0 x6_1) * (rd l1 x8_2))) + (rd x5_2 (ji13)))) + x7_2)) 4294967296)) (wrap64 (x8_2 + 1))) = some r := by first | (rw [hy266]; with_reducible exact H) | (have H2_ := (Option.bind_some _ _).symm.trans H; rw [hy266]; with_reducible exact H2_) | (have H2_ := (Option.bind_some _ _).symm.trans H; with_reducible exact H2_) | with_reducible exact H | (rw [hy266]; exact H) | exact H
              have Ny266 := Zb.mk hy266
              clear hy266
              have H' := Zb.mk H
              clear H
              have p263 : 0 ≤ (x6_1 : Int) := of_decide_eq_true (by first | (with_reducible assumption) | assumption)
              have q263 : x6_1 < (l0.length : Int) := of_decide_eq_true (by first | (with_reducible assumption) | assumption)
              obtain ⟨ad263, e263, hx263_0⟩ := Kd.at_int HR0.out x6_1 p263 q263
              cases e263
              replace hx263_0 := (HB.out.cell (World.block_lt_of_cell? w _ hx263_0)).trans hx263_0
              replace p263 := eq_true p263
              replace q263 := eq_true q263
              have p264 : 0 ≤ (x8_2 : Int) := of_decide_eq_true (by first | (with_reducible assumption) | assumption)
              have q264 : x8_2 < (l1.length : Int) := of_decide_eq_true (by first | (with_reducible assumption) | assumption)
              obtain ⟨ad264, e264, hx264_0⟩ := Kd.at_int HR1.out x8_2 p264 q264
              cases e264
              replace hx264_0 := (HB.out.cell (World.block_lt_of_cell? w _ hx264_0)).trans hx264_0
              replace p264 := eq_true p264
              replace q264 := eq_true q264
              obtain ⟨Ao17, co17, eo17⟩ := Kd.Zy HO_5.out
              subst eo17
              have p265 : 0 ≤ ((ji13) : Int) := of_decide_eq_true (by first | (with_reducible assumption) | assumption)
              have q265 : (ji13) < (x5_2.length : Int) := of_decide_eq_true (by first | (with_reducible assumption) | assumption)
              obtain ⟨ad265, e265, hx265_0⟩ := Kd.at_int (Kd.Zv HO_5.out).2.2 (ji13) p265 q265
              cases e265
              replace p265 := eq_true p265
              replace q265 := eq_true q265
              have p16 : 0 ≤ ((ji13) : Int) := of_decide_eq_true (by first | (with_reducible assumption) | assumption)
              have q16 : ((ji13) : Int) < ((x5_2.length : Int) : Int) := of_decide_eq_true (by first | (with_reducible assumption) | assumption)
              obtain ⟨go16, co16, eo16, gb16, gl16, cl16, HG16⟩ := Kd.R_form HO_5.out (by omega)
              (first | cases eo16 | (injection eo16 with ea_ en_ ec_; (first | subst ea_ | (injection ea_ with ea_; subst ea_)); subst ec_; clear en_))
              have GB16 := Zb.mk gb16
              have GG16 := Zb.mk HG16
              clear gb16 gl16 HG16
              (first | simp only [add_plain] at hx265_0 | skip)
              obtain ⟨hx16_0, hf16_0⟩ := Kd.R_celln 0 HO_5.out ((ji13) : Int) p16 q16
              replace p16 := eq_true p16
              replace q16 := eq_true q16
              have HP18 := Kd.R_putg HO_5.out ((ji13) : Int) (Int.tmod (IntKind.u64.wrap ((IntKind.u64.wrap ((IntKind.u64.wrap ((rd l0 x6_1) * (rd l1 x8_2))) + (rd x5_2 (ji13)))) + x7_2)) 4294967296)
              go_wp2_with (first | ((with_reducible refine gate_store (t := 46) (p := 52) rfl ?_); (try (rw [ZK wr]; generalize hq_ : World.drewN wr _ = wr; have n0_ := Zb.mk (Kd.R_at hq_ HO_5.out); have n1_ := Zb.mk (below_at hq_ HB.out); clear hq_ HO_5 HB; have HO_5 := n0_; have HB := n1_; clear n0_ n1_; (try (obtain ⟨hx16_0, hf16_0⟩ := Kd.R_celln 0 HO_5.out ((ji13) : Int) (of_eq_true p16) (of_eq_true q16))); (try (have HP18 := Kd.R_putg HO_5.out ((ji13) : Int) (Int.tmod (IntKind.u64.wrap ((IntKind.u64.wrap ((IntKind.u64.wrap ((rd l0 x6_1) * (rd l1 x8_2))) + (rd x5_2 (ji13)))) + x7_2)) 4294967296))))); refine ZQ (t := 46) (p := 52) (v := ?vo_w19) (w1 := (wr.setCell ⟨go16, ((ji13) : Int).toNat, none⟩ (.int .u64 (Int.tmod (IntKind.u64.wrap ((IntKind.u64.wrap ((IntKind.u64.wrap ((rd l0 x6_1) * (rd l1 x8_2))) + (rd x5_2 (ji13)))) + x7_2)) 4294967296)))) ?hg ?ho ?hn ?hr ?_; (case ho => rfl); (case hg => rfl); (case hn => rfl); (case hr => first | (go_simp; done) | (go_simp; rfl)); intro w19 hw; have hg : wr.grownBy w19 (some go16) := (by rw [hw]; exact HP18.2); have hp_ : Kd.R (Kd.int .u64) 46 w19 w.heap.size (fun _ => True) (.slice (some ⟨go16, 0, none⟩) x5_2.length co17) y266 := (by rw [hw, Ny266.out]; exact HP18.1); clear HP18; have n0_ := Zb.mk (hp_); have n1_ := Zb.mk ((by rw [hw]; exact Zh (HB.out) GB16.out : Below w.heap.size w w19)); clear HO_5; clear HB; have HO_5 := n0_; have HB := n1_; clear n0_ n1_; clear hg hw hp_))
              repeat (go_quiet (first | ((with_reducible refine gate_store (t := 46) (p := 52) rfl ?_); (try (rw [ZK wr]; generalize hq_ : World.drewN wr _ = wr; have n0_ := Zb.mk (Kd.R_at hq_ HO_5.out); have n1_ := Zb.mk (below_at hq_ HB.out); clear hq_ HO_5 HB; have HO_5 := n0_; have HB := n1_; clear n0_ n1_; (try (obtain ⟨hx16_0, hf16_0⟩ := Kd.R_celln 0 HO_5.out ((ji13) : Int) (of_eq_true p16) (of_eq_true q16))); (try (have HP18 := Kd.R_putg HO_5.out ((ji13) : Int) (Int.tmod (IntKind.u64.wrap ((IntKind.u64.wrap ((IntKind.u64.wrap ((rd l0 x6_1) * (rd l1 x8_2))) + (rd x5_2 (ji13)))) + x7_2)) 4294967296))))); refine ZQ (t := 46) (p := 52) (v := ?vo_w19) (w1 := (wr.setCell ⟨go16, ((ji13) : Int).toNat, none⟩ (.int .u64 (Int.tmod (IntKind.u64.wrap ((IntKind.u64.wrap ((IntKind.u64.wrap ((rd l0 x6_1) * (rd l1 x8_2))) + (rd x5_2 (ji13)))) + x7_2)) 4294967296)))) ?hg ?ho ?hn ?hr ?_; (case ho => rfl); (case hg => rfl); (case hn => rfl); (case hr => first | (go_simp; done) | (go_simp; rfl)); intro w19 hw; have hg : wr.grownBy w19 (some go16) := (by rw [hw]; exact HP18.2); have hp_ : Kd.R (Kd.int .u64) 46 w19 w.heap.size (fun _ => True) (.slice (some ⟨go16, 0, none⟩) x5_2.length co17) y266 := (by rw [hw, Ny266.out]; exact HP18.1); clear HP18; have n0_ := Zb.mk (hp_); have n1_ := Zb.mk ((by rw [hw]; exact Zh (HB.out) GB16.out : Below w.heap.size w w19)); clear HO_5; clear HB; have HO_5 := n0_; have HB := n1_; clear n0_ n1_; clear hg hw hp_)); try go_wp2_with (first | ((with_reducible refine gate_store (t := 46) (p := 52) rfl ?_); (try (rw [ZK wr]; generalize hq_ : World.drewN wr _ = wr; have n0_ := Zb.mk (Kd.R_at hq_ HO_5.out); have n1_ := Zb.mk (below_at hq_ HB.out); clear hq_ HO_5 HB; have HO_5 := n0_; have HB := n1_; clear n0_ n1_; (try (obtain ⟨hx16_0, hf16_0⟩ := Kd.R_celln 0 HO_5.out ((ji13) : Int) (of_eq_true p16) (of_eq_true q16))); (try (have HP18 := Kd.R_putg HO_5.out ((ji13) : Int) (Int.tmod (IntKind.u64.wrap ((IntKind.u64.wrap ((IntKind.u64.wrap ((rd l0 x6_1) * (rd l1 x8_2))) + (rd x5_2 (ji13)))) + x7_2)) 4294967296))))); refine ZQ (t := 46) (p := 52) (v := ?vo_w19) (w1 := (wr.setCell ⟨go16, ((ji13) : Int).toNat, none⟩ (.int .u64 (Int.tmod (IntKind.u64.wrap ((IntKind.u64.wrap ((IntKind.u64.wrap ((rd l0 x6_1) * (rd l1 x8_2))) + (rd x5_2 (ji13)))) + x7_2)) 4294967296)))) ?hg ?ho ?hn ?hr ?_; (case ho => rfl); (case hg => rfl); (case hn => rfl); (case hr => first | (go_simp; done) | (go_simp; rfl)); intro w19 hw; have hg : wr.grownBy w19 (some go16) := (by rw [hw]; exact HP18.2); have hp_ : Kd.R (Kd.int .u64) 46 w19 w.heap.size (fun _ => True) (.slice (some ⟨go16, 0, none⟩) x5_2.length co17) y266 := (by rw [hw, Ny266.out]; exact HP18.1); clear HP18; have n0_ := Zb.mk (hp_); have n1_ := Zb.mk ((by rw [hw]; exact Zh (HB.out) GB16.out : Below w.heap.size w w19)); clear HO_5; clear HB; have HO_5 := n0_; have HB := n1_; clear n0_ n1_; clear hg hw hp_)))
              go_roundg k2
              case measure => have := HK1.out; have := HK2.out; omega
              case rel => exact ⟨(y266), (IntKind.u64.wrap (Int.tdiv (IntKind.u64.wrap ((IntKind.u64.wrap ((IntKind.u64.wrap ((rd l0 x6_1) * (rd l1 x8_2))) + (rd x5_2 (ji13)))) + x7_2)) 4294967296)), (wrap64 (x8_2 + 1)), (by first | rfl | (simp; done) | (simp only [← hji13] <;> (first | rfl | simp)) | (simp [*]; done)), (by first | rfl | (simp; done) | (simp [*]; done)), H', ⟨by have := HK1.out; have := HK2.out; omega⟩, ⟨by (with_reducible repeat first | apply Kd.Zm | apply Kd.Zo); exact HO_5.out⟩, ⟨by repeat (with_reducible first | exact HB.out | apply Zc | apply Za | apply Zd)⟩⟩
             ·rw [if_neg c15] at H
              exact absurd H (by simp)
            ·rw [if_neg c14] at H
             exact absurd H (by simp)
           ·rw [if_neg c12] at H
            exact absurd H (by simp)
          ·rw [if_neg c11] at H
           exact absurd H (by simp)
         ·rw [if_neg c10] at H
          exact absurd H (by simp)
        ·rw [if_neg c9] at H
         have c9b0 : decide (x8_2 < (l1.length : Int)) = false := decide_eq_false c9
         clear c9
         obtain ⟨ji20, hji20⟩ : ∃ j_ : Int, (wrap64 (x6_1 + (l1.length : Int))) = j_ := ⟨_, rfl⟩
         replace H : (if 0 ≤ (ji20) then (if (ji20) < (x5_2.length : Int) then (r00product.l0 k2 l0 l1 (x5_2.set ((ji20) : Int).toNat x7_2) (wrap64 (x6_1 + 1))) else (none)) else (none)) = some r := by first | (rw [hji20] at H; exact H) | (simp only [hji20] at H ⊢; exact H)
         have hji20w : (IntKind.i64.wrap (x6_1 + (l1.length : Int))) = ji20 := (Zx _).trans hji20
         by_cases c21 : 0 ≤ (ji20)
         ·rw [if_pos c21] at H
          have c21b0 : decide (0 ≤ (ji20)) = true := decide_eq_true c21
          clear c21
          by_cases c22 : (ji20) < (x5_2.length : Int)
          ·rw [if_pos c22] at H
           have c22b0 : decide ((ji20) < (x5_2.length : Int)) = true := decide_eq_true c22
           clear c22
           obtain ⟨y267, hy267⟩ : ∃ y_ : List Int, y_ = (x5_2.set ((ji20) : Int).toNat x7_2) := ⟨_, rfl⟩
           replace H : (r00product.l0 k2 l0 l1 y267 (wrap64 (x6_1 + 1))) = some r := by first | (rw [hy267]; with_reducible exact H) | (have H2_ := (Option.bind_some _ _).symm.trans H; rw [hy267]; with_reducible exact H2_) | (have H2_ := (Option.bind_some _ _).symm.trans H; with_reducible exact H2_) | with_reducible exact H | (rw [hy267]; exact H) | exact H
           have Ny267 := Zb.mk hy267
           clear hy267
           have H' := Zb.mk H
           clear H
           have p23 : 0 ≤ ((ji20) : Int) := of_decide_eq_true (by first | (with_reducible assumption) | assumption)
           have q23 : ((ji20) : Int) < ((x5_2.length : Int) : Int) := of_decide_eq_true (by first | (with_reducible assumption) | assumption)
           obtain ⟨go23, co23, eo23, gb23, gl23, cl23, HG23⟩ := Kd.R_form HO_5.out (by omega)
           (first | cases eo23 | (injection eo23 with ea_ en_ ec_; (first | subst ea_ | (injection ea_ with ea_; subst ea_)); subst ec_; clear en_))
           have GB23 := Zb.mk gb23
           have GG23 := Zb.mk HG23
           clear gb23 gl23 HG23
           obtain ⟨hx23_0, hf23_0⟩ := Kd.R_celln 0 HO_5.out ((ji20) : Int) p23 q23
           replace p23 := eq_true p23
           replace q23 := eq_true q23
           have HP24 := Kd.R_putg HO_5.out ((ji20) : Int) x7_2
           go_wp2_with (first | ((with_reducible refine gate_store (t := 46) (p := 61) rfl ?_); (try (rw [ZK wr]; generalize hq_ : World.drewN wr _ = wr; have n0_ := Zb.mk (Kd.R_at hq_ HO_5.out); have n1_ := Zb.mk (below_at hq_ HB.out); clear hq_ HO_5 HB; have HO_5 := n0_; have HB := n1_; clear n0_ n1_; (try (obtain ⟨hx23_0, hf23_0⟩ := Kd.R_celln 0 HO_5.out ((ji20) : Int) (of_eq_true p23) (of_eq_true q23))); (try (have HP24 := Kd.R_putg HO_5.out ((ji20) : Int) x7_2)))); refine ZQ (t := 46) (p := 61) (v := ?vo_w25) (w1 := (wr.setCell ⟨go23, ((ji20) : Int).toNat, none⟩ (.int .u64 x7_2))) ?hg ?ho ?hn ?hr ?_; (case ho => rfl); (case hg => rfl); (case hn => rfl); (case hr => first | (go_simp; done) | (go_simp; rfl)); intro w25 hw; have hg : wr.grownBy w25 (some go23) := (by rw [hw]; exact HP24.2); have hp_ : Kd.R (Kd.int .u64) 46 w25 w.heap.size (fun _ => True) (.slice (some ⟨go23, 0, none⟩) x5_2.length co23) y267 := (by rw [hw, Ny267.out]; exact HP24.1); clear HP24; have n0_ := Zb.mk (hp_); have n1_ := Zb.mk ((by rw [hw]; exact Zh (HB.out) GB23.out : Below w.heap.size w w25)); clear HO_5; clear HB; have HO_5 := n0_; have HB := n1_; clear n0_ n1_; clear hg hw hp_))
           repeat (go_quiet (first | ((with_reducible refine gate_store (t := 46) (p := 61) rfl ?_); (try (rw [ZK wr]; generalize hq_ : World.drewN wr _ = wr; have n0_ := Zb.mk (Kd.R_at hq_ HO_5.out); have n1_ := Zb.mk (below_at hq_ HB.out); clear hq_ HO_5 HB; have HO_5 := n0_; have HB := n1_; clear n0_ n1_; (try (obtain ⟨hx23_0, hf23_0⟩ := Kd.R_celln 0 HO_5.out ((ji20) : Int) (of_eq_true p23) (of_eq_true q23))); (try (have HP24 := Kd.R_putg HO_5.out ((ji20) : Int) x7_2)))); refine ZQ (t := 46) (p := 61) (v := ?vo_w25) (w1 := (wr.setCell ⟨go23, ((ji20) : Int).toNat, none⟩ (.int .u64 x7_2))) ?hg ?ho ?hn ?hr ?_; (case ho => rfl); (case hg => rfl); (case hn => rfl); (case hr => first | (go_simp; done) | (go_simp; rfl)); intro w25 hw; have hg : wr.grownBy w25 (some go23) := (by rw [hw]; exact HP24.2); have hp_ : Kd.R (Kd.int .u64) 46 w25 w.heap.size (fun _ => True) (.slice (some ⟨go23, 0, none⟩) x5_2.length co23) y267 := (by rw [hw, Ny267.out]; exact HP24.1); clear HP24; have n0_ := Zb.mk (hp_); have n1_ := Zb.mk ((by rw [hw]; exact Zh (HB.out) GB23.out : Below w.heap.size w w25)); clear HO_5; clear HB; have HO_5 := n0_; have HB := n1_; clear n0_ n1_; clear hg hw hp_)); try go_wp2_with (first | ((with_reducible refine gate_store (t := 46) (p := 61) rfl ?_); (try (rw [ZK wr]; generalize hq_ : World.drewN wr _ = wr; have n0_ := Zb.mk (Kd.R_at hq_ HO_5.out); have n1_ := Zb.mk (below_at hq_ HB.out); clear hq_ HO_5 HB; have HO_5 := n0_; have HB := n1_; clear n0_ n1_; (try (obtain ⟨hx23_0, hf23_0⟩ := Kd.R_celln 0 HO_5.out ((ji20) : Int) (of_eq_true p23) (of_eq_true q23))); (try (have HP24 := Kd.R_putg HO_5.out ((ji20) : Int) x7_2)))); refine ZQ (t := 46) (p := 61) (v := ?vo_w25) (w1 := (wr.setCell ⟨go23, ((ji20) : Int).toNat, none⟩ (.int .u64 x7_2))) ?hg ?ho ?hn ?hr ?_; (case ho => rfl); (case hg => rfl); (case hn => rfl); (case hr => first | (go_simp; done) | (go_simp; rfl)); intro w25 hw; have hg : wr.grownBy w25 (some go23) := (by rw [hw]; exact HP24.2); have hp_ : Kd.R (Kd.int .u64) 46 w25 w.heap.size (fun _ => True) (.slice (some ⟨go23, 0, none⟩) x5_2.length co23) y267 := (by rw [hw, Ny267.out]; exact HP24.1); clear HP24; have n0_ := Zb.mk (hp_); have n1_ := Zb.mk ((by rw [hw]; exact Zh (HB.out) GB23.out : Below w.heap.size w w25)); clear HO_5; clear HB; have HO_5 := n0_; have HB := n1_; clear n0_ n1_; clear hg hw hp_)))
           go_roundg k2
           case measure => have := HK1.out; have := HK2.out; omega
           case rel => exact ⟨(y267), (wrap64 (x6_1 + 1)), (by first | rfl | (simp; done) | (simp [*]; done)), H', ⟨by have := HK1.out; have := HK2.out; omega⟩, ⟨by (with_reducible repeat first | apply Kd.Zm | apply Kd.Zo); exact HO_5.out⟩, ⟨by repeat (with_reducible first | exact HB.out | apply Zc | apply Za | apply Zd)⟩⟩
          ·rw [if_neg c22] at H
           exact absurd H (by simp)
         ·rw [if_neg c21] at H
          exact absurd H (by simp)
     ·rw [if_neg c8] at H
      have c8b0 : decide (x6_1 < (l0.length : Int)) = false := decide_eq_false c8
      clear c8
      replace H := Option.bind_eq_some_iff.mp H
      obtain ⟨t260, A260, H⟩ := H
      replace H : (some t260) = some r := H
      have A26 := Zb.mk A260
      clear A260
      obtain rfl := Option.some.inj H
      obtain ⟨Ao27, co27, eo27⟩ := Kd.Zy HO_5.out
      subst eo27
      go_wp2_with (first | (go_at_call 122; (with_reducible refine (r00low.calls k1 (fun k_ => some k_ = (.slice Ao27 x5_1.length co27 : Value).ownBlock) (.slice Ao27 x5_1.length co27) x5_1 t260 w _ ?side1 ?side2 A26.out).mono ?_); (case side1 => repeat (with_reducible first | exact HB.out | apply Zc | apply Za | apply Zd)); (case side2 => exact Kd.R_tight rfl HO_5.out); rintro e w28 ⟨v261, rfl, ho0, hb, hkp⟩; have n0_ := Zb.mk (Kd.ZE (ok' := fun k_ => True) ho0 (fun k_ hk_ => trivial)); have n1_ := Zb.mk (hb); clear HB; clear HO_5; have HO262 := n0_; have HB := n1_; clear n0_ n1_; (try clear hb); (try clear hkp); (try clear ho0)))
      repeat (go_quiet (first | (go_at_call 122; (with_reducible refine (r00low.calls k1 (fun k_ => some k_ = (.slice Ao27 x5_1.length co27 : Value).ownBlock) (.slice Ao27 x5_1.length co27) x5_1 t260 w _ ?side1 ?side2 A26.out).mono ?_); (case side1 => repeat (with_reducible first | exact HB.out | apply Zc | apply Za | apply Zd)); (case side2 => exact Kd.R_tight rfl HO_5.out); rintro e w28 ⟨v261, rfl, ho0, hb, hkp⟩; have n0_ := Zb.mk (Kd.ZE (ok' := fun k_ => True) ho0 (fun k_ hk_ => trivial)); have n1_ := Zb.mk (hb); clear HB; clear HO_5; have HO262 := n0_; have HB := n1_; clear n0_ n1_; (try clear hb); (try clear hkp); (try clear ho0))); try go_wp2_with (first | (go_at_call 122; (with_reducible refine (r00low.calls k1 (fun k_ => some k_ = (.slice Ao27 x5_1.length co27 : Value).ownBlock) (.slice Ao27 x5_1.length co27) x5_1 t260 w _ ?side1 ?side2 A26.out).mono ?_); (case side1 => repeat (with_reducible first | exact HB.out | apply Zc | apply Za | apply Zd)); (case side2 => exact Kd.R_tight rfl HO_5.out); rintro e w28 ⟨v261, rfl, ho0, hb, hkp⟩; have n0_ := Zb.mk (Kd.ZE (ok' := fun k_ => True) ho0 (fun k_ hk_ => trivial)); have n1_ := Zb.mk (hb); clear HB; clear HO_5; have HO262 := n0_; have HB := n1_; clear n0_ n1_; (try clear hb); (try clear hkp); (try clear ho0))))
      go_ret
      exact ⟨_, by first | rfl | (simp [errW_none, errW_some] <;> rfl) | (simp only [← hji3]; first | rfl | (simp [errW_none, errW_some] <;> rfl)) | (simp [*, errW_none, errW_some] <;> rfl), by (with_reducible repeat first | apply Kd.Zm | apply Kd.Zo); exact HO262.out, by repeat (with_reducible first | exact HB.out | apply Zc | apply Za | apply Zd)⟩
  ·rw [if_neg c5] at H
   exact absurd H (by simp)
 ·rw [if_neg c4] at H
  exact absurd H (by simp)
def r00NatMul.f (k : Nat) (l0 : List Int) (l1 : List Int) : Option (List Int) := (r00halves.f k l0).bind fun t268 => ((r00halves.f k l1).bind fun t271 => ((r00product.f k t268 t271).bind fun t274 => ((r00limbs.f k t274).bind fun t277 => (some t277))))
set_option maxHeartbeats 8000000 in
set_option maxRecDepth 100000 in
theorem r00NatMul.calls (k : Nat) (A0 : Option Addr) (c0 : Nat) (l0 : List Int) (A1 : Option Addr) (c1 : Nat) (l1 : List Int) (r : List Int) (w : World) (hr0 : Kd.C (Kd.int .u64) w A0 l0.length l0) (hc0 : l0.length ≤ c0) (hr1 : Kd.C (Kd.int .u64) w A1 l1.length l1) (hc1 : l1.length ≤ c1) (h : r00NatMul.f k l0 l1 = some r) :
  Calls Try.prog 59 #[.slice A0 l0.length c0, .slice A1 l1.length c1] w fun e w' => ∃ v0_ : Value, e = .returned (v0_) ∧ Kd.R (Kd.int .u64) 46 w' w.heap.size (fun _ => True) v0_ r ∧ Below w.heap.size w w' := by
 have HR0 := Zb.mk hr0
 have HC0 := Zb.mk hc0
 clear hr0 hc0
 have HR1 := Zb.mk hr1
 have HC1 := Zb.mk hc1
 clear hr1 hc1
 have HB := Zb.mk (Below.refl w.heap.size w)
 have H : ((r00halves.f k l0).bind fun t268 => ((r00halves.f k l1).bind fun t271 => ((r00product.f k t268 t271).bind fun t274 => ((r00limbs.f k t274).bind fun t277 => (some t277))))) = some r := h
 clear h
 replace H := Option.bind_eq_some_iff.mp H
 obtain ⟨t268, A30, H⟩ := H
 replace H : ((r00halves.f k l1).bind fun t271 => ((r00product.f k t268 t271).bind fun t274 => ((r00limbs.f k t274).bind fun t277 => (some t277)))) = some r := H
 have A3 := Zb.mk A30
 clear A30
 replace H := Option.bind_eq_some_iff.mp H
 obtain ⟨t271, A40, H⟩ := H
 replace H : ((r00product.f k t268 t271).bind fun t274 => ((r00limbs.f k t274).bind fun t277 => (some t277))) = some r := H
 have A4 := Zb.mk A40
 clear A40
 replace H := Option.bind_eq_some_iff.mp H
 obtain ⟨t274, A50, H⟩ := H
 replace H : ((r00limbs.f k t274).bind fun t277 => (some t277)) = some r := H
 have A5 := Zb.mk A50
 clear A50
 replace H := Option.bind_eq_some_iff.mp H
 obtain ⟨t277, A60, H⟩ := H
 replace H : (some t277) = some r := H
 have A6 := Zb.mk A60
 clear A60
 obtain rfl := Option.some.inj H
 go_enter Try.func59, Try.ntmps59
 go_wp2_with (first | ((with_reducible refine Zp (f := 91) rfl ?_); refine ZB (some 6) rfl rfl Try.func91 (by kernel_rfl) rfl #[.slice A0 l0.length c0] rfl (by (try simp only [List.map_toArray, List.map_cons, List.map_nil]); first | done | rfl | (simp only [List.length_drop, List.length_take]; rfl)) ?_; (with_reducible refine (r00halves.calls k _ _ l0 t268 _ ?side1 ?side2 A3.out).mono ?_); (case side1 => repeat (first | exact HR0.out | (with_reducible refine Kd.ZC ?_ _) | (with_reducible refine Kd.ZF ?_ _) | (with_reducible refine Kd.ZN ?_))); (case side2 => exact HC0.out); rintro e w7 ⟨v269, rfl, ho0, hb⟩; refine ⟨_, rfl, ?_⟩; have n0_ := Zb.mk (Kd.ZG ho0 (Zi (by repeat (with_reducible first | exact HB.out | apply Zc | apply Za | apply Zd)))); have n1_ := Zb.mk (Zl (by repeat (with_reducible first | exact HB.out | apply Zc | apply Za | apply Zd)) hb); clear HB; have HO270 := n0_; have HB := n1_; clear n0_ n1_; (try clear hb); (try clear hb2); (try clear hk); (try clear hi); (try clear ho0)) | ((with_reducible refine Zp (f := 91) rfl ?_); refine ZB (some 8) rfl rfl Try.func91 (by kernel_rfl) rfl #[.slice A1 l1.length c1] rfl (by (try simp only [List.map_toArray, List.map_cons, List.map_nil]); first | done | rfl | (simp only [List.length_drop, List.length_take]; rfl)) ?_; (with_reducible refine (r00halves.calls k _ _ l1 t271 _ ?side1 ?side2 A4.out).mono ?_); (case side1 => repeat (first | exact (Kd.C_below HR1.out HB.out) | (with_reducible refine Kd.ZC ?_ _) | (with_reducible refine Kd.ZF ?_ _) | (with_reducible refine Kd.ZN ?_))); (case side2 => exact HC1.out); rintro e w8 ⟨v272, rfl, ho0, hb⟩; refine ⟨_, rfl, ?_⟩; have n0_ := Zb.mk (Kd.ZJ (by (with_reducible repeat first | apply Kd.Zm | apply Kd.Zo); exact HO270.out) (Kd.ZV ho0) hb); have n1_ := Zb.mk (Kd.ZG (Kd.R_new' ho0 (Kd.R_lt (by (with_reducible repeat first | apply Kd.Zm | apply Kd.Zo); exact HO270.out))) (Zi (by repeat (with_reducible first | exact HB.out | apply Zc | apply Za | apply Zd)))); have n2_ := Zb.mk (Zl (by repeat (with_reducible first | exact HB.out | apply Zc | apply Za | apply Zd)) hb); clear HO270; clear HB; have HO270 := n0_; have HO273 := n1_; have HB := n2_; clear n0_ n1_ n2_; (try clear hb); (try clear hb2); (try clear hk); (try clear hi); (try clear ho0); obtain ⟨Ao9, co9, eo9⟩ := Kd.Zy HO270.out; subst eo9; obtain ⟨Ao10, co10, eo10⟩ := Kd.Zy HO273.out; subst eo10) | ((with_reducible refine Zp (f := 94) rfl ?_); refine ZB (some 9) rfl rfl Try.func94 (by kernel_rfl) rfl #[.slice Ao9 t268.length co9, .slice Ao10 t271.length co10] rfl (by (try simp only [List.map_toArray, List.map_cons, List.map_nil]); first | done | rfl | (simp only [List.length_drop, List.length_take]; rfl)) ?_; (with_reducible refine (r00product.calls k _ _ t268 _ _ t271 t274 _ ?side1 ?side2 ?side3 ?side4 A5.out).mono ?_); (case side1 => repeat (first | exact (Kd.Zv HO270.out).2.2 | (with_reducible refine Kd.ZC ?_ _) | (with_reducible refine Kd.ZF ?_ _) | (with_reducible refine Kd.ZN ?_))); (case side2 => exact (Kd.Zv HO270.out).2.1); (case side3 => repeat (first | exact (Kd.Zv HO273.out).2.2 | (with_reducible refine Kd.ZC ?_ _) | (with_reducible refine Kd.ZF ?_ _) | (with_reducible refine Kd.ZN ?_))); (case side4 => exact (Kd.Zv HO273.out).2.1); rintro e w11 ⟨v275, rfl, ho0, hb⟩; refine ⟨_, rfl, ?_⟩; have n0_ := Zb.mk (Kd.ZJ (by (with_reducible repeat first | apply Kd.Zm | apply Kd.Zo); exact HO270.out) (Kd.ZV ho0) hb); have n1_ := Zb.mk (Kd.ZJ (by (with_reducible repeat first | apply Kd.Zm | apply Kd.Zo); exact HO273.out) (Kd.ZV ho0) hb); have n2_ := Zb.mk (Kd.ZG (Kd.R_new' (Kd.R_new' ho0 (Kd.R_lt (by (with_reducible repeat first | apply Kd.Zm | apply Kd.Zo); exact HO270.out))) (Kd.R_lt (by (with_reducible repeat first | apply Kd.Zm | apply Kd.Zo); exact HO273.out))) (Zi (by repeat (with_reducible first | exact HB.out | apply Zc | apply Za | apply Zd)))); have n3_ := Zb.mk (Zl (by repeat (with_reducible first | exact HB.out | apply Zc | apply Za | apply Zd)) hb); clear HO270; clear HO273; clear HB; have HO270 := n0_; have HO273 := n1_; have HO276 := n2_; have HB := n3_; clear n0_ n1_ n2_ n3_; (try clear hb); (try clear hb2); (try clear hk); (try clear hi); (try clear ho0); obtain ⟨Ao12, co12, eo12⟩ := Kd.Zy HO276.out; subst eo12) | ((with_reducible refine Zp (f := 92) rfl ?_); refine ZB (some 10) rfl rfl Try.func92 (by kernel_rfl) rfl #[.slice Ao12 t274.length co12] rfl (by (try simp only [List.map_toArray, List.map_cons, List.map_nil]); first | done | rfl | (simp only [List.length_drop, List.length_take]; rfl)) ?_; (with_reducible refine (r00limbs.calls k _ _ t274 t277 _ ?side1 ?side2 A6.out).mono ?_); (case side1 => repeat (first | exact (Kd.Zv HO276.out).2.2 | (with_reducible refine Kd.ZC ?_ _) | (with_reducible refine Kd.ZF ?_ _) | (with_reducible refine Kd.ZN ?_))); (case side2 => exact (Kd.Zv HO276.out).2.1); rintro e w13 ⟨v278, rfl, ho0, hb⟩; refine ⟨_, rfl, ?_⟩; have n0_ := Zb.mk (Kd.ZJ (by (with_reducible repeat first | apply Kd.Zm | apply Kd.Zo); exact HO270.out) (Kd.ZV ho0) hb); have n1_ := Zb.mk (Kd.ZJ (by (with_reducible repeat first | apply Kd.Zm | apply Kd.Zo); exact HO273.out) (Kd.ZV ho0) hb); have n2_ := Zb.mk (Kd.ZJ (by (with_reducible repeat first | apply Kd.Zm | apply Kd.Zo); exact HO276.out) (Kd.ZV ho0) hb); have n3_ := Zb.mk (Kd.ZG (Kd.R_new' (Kd.R_new' (Kd.R_new' ho0 (Kd.R_lt (by (with_reducible repeat first | apply Kd.Zm | apply Kd.Zo); exact HO270.out))) (Kd.R_lt (by (with_reducible repeat first | apply Kd.Zm | apply Kd.Zo); exact HO273.out))) (Kd.R_lt (by (with_reducible repeat first | apply Kd.Zm | apply Kd.Zo); exact HO276.out))) (Zi (by repeat (with_reducible first | exact HB.out | apply Zc | apply Za | apply Zd)))); have n4_ := Zb.mk (Zl (by repeat (with_reducible first | exact HB.out | apply Zc | apply Za | apply Zd)) hb); clear HO270; clear HO273; clear HO276; clear HB; have HO270 := n0_; have HO273 := n1_; have HO276 := n2_; have HO279 := n3_; have HB := n4_; clear n0_ n1_ n2_ n3_ n4_; (try clear hb); (try clear hb2); (try clear hk); (try clear hi); (try clear ho0)))
 go_ret
 exact ⟨_, by first | rfl | (simp [errW_none, errW_some] <;> rfl) | (simp [*, errW_none, errW_some] <;> rfl), by (with_reducible repeat first | apply Kd.Zm | apply Kd.Zo); exact Kd.ZE HO279.out (fun _ hk => trivial), by repeat (with_reducible first | exact HB.out | apply Zc | apply Za | apply Zd)⟩
def r00Times.f (k : Nat) (a0_0 : Bool) (l0_1 : List Int) (a0_2 : Int) (a1_0 : Bool) (l1_1 : List Int) (a1_2 : Int) : Option (Bool × List Int × Int) := (r00NatMul.f k l0_1 l1_1).bind fun t283 => (some ((a0_0 != a1_0), t283, wrap64 (a0_2 + a1_2)))
def r00Times.T1 : Bool × List (List Nat × List Nat) := (true, [([], []), ([0], [0]), ([], []), ([2], [2]), ([1, 3], [1, 3]), ([], []), ([5], [5]), ([], []), ([7], [7]), ([6, 8], [6, 8]), ([], []), ([10], [10]), ([], []), ([12], [12]), ([11, 13], [11, 13]), ([4, 9, 14], [4, 9, 14]), ([15, 9, 0, 1, 2, 3, 4, 5, 6, 7, 8, 9, 10, 11, 12, 13, 14, 15], [15])])
def r00Times.B1 : List Nat := [0, 1, 0, 4, 15, 0, 32, 0, 128, 480, 0, 1024, 0, 4096, 15360, 32767, 65535]
theorem r00Times.tab1 : rtab .any (opsOf Try.f25 1) = r00Times.T1 := by kernel_rfl
theorem r00Times.bits1 : waitsOk r00Times.T1.2 r00Times.B1 = true := by kernel_rfl
set_option maxHeartbeats 8000000 in
set_option maxRecDepth 100000 in
theorem r00Times.calls (k : Nat) (a0_0 : Bool) (A0_1 : Option Addr) (c0_1 : Nat) (l0_1 : List Int) (a0_2 : Int) (a1_0 : Bool) (A1_1 : Option Addr) (c1_1 : Nat) (l1_1 : List Int) (a1_2 : Int) (r1 : Bool) (r2 : List Int) (r3 : Int) (w : World) (hr0_1 : Kd.C (Kd.int .u64) w A0_1 l0_1.length l0_1) (hc0_1 : l0_1.length ≤ c0_1) (hr1_1 : Kd.C (Kd.int .u64) w A1_1 l1_1.length l1_1) (hc1_1 : l1_1.length ≤ c1_1) (h : r00Times.f k a0_0 l0_1 a0_2 a1_0 l1_1 a1_2 = some (r1, r2, r3)) :
  Calls Try.prog 25 #[.agg #[.bool a0_0, .slice A0_1 l0_1.length c0_1, .int .i64 a0_2], .agg #[.bool a1_0, .slice A1_1 l1_1.length c1_1, .int .i64 a1_2]] w fun e w' => ∃ v1_ : Value, e = .returned (.agg #[.bool r1, v1_, .int .i64 r3]) ∧ Kd.R (Kd.int .u64) 46 w' w.heap.size (fun _ => True) v1_ r2 ∧ Below w.heap.size w w' := by
 have hu48 := Try.underlying48
 have HR0_1 := Zb.mk hr0_1
 have HC0_1 := Zb.mk hc0_1
 clear hr0_1 hc0_1
 have HR1_1 := Zb.mk hr1_1
 have HC1_1 := Zb.mk hc1_1
 clear hr1_1 hc1_1
 have HB := Zb.mk (Below.refl w.heap.size w)
 have H : ((r00NatMul.f k l0_1 l1_1).bind fun t283 => (some ((a0_0 != a1_0), t283, wrap64 (a0_2 + a1_2)))) = some (r1, r2, r3) := h
 clear h
 replace H := Option.bind_eq_some_iff.mp H
 obtain ⟨t283, A30, H⟩ := H
 replace H : (some ((a0_0 != a1_0), t283, wrap64 (a0_2 + a1_2))) = some (r1, r2, r3) := H
 have A3 := Zb.mk A30
 clear A30
 simp only [Option.some.injEq, Prod.mk.injEq] at H
 obtain ⟨rfl, rfl, rfl⟩ := H
 go_enter Try.func25, Try.ntmps25
 try go_wp2_with (first | ((with_reducible refine Zt (N := 2) rfl ?_); refine Zs ?hg (N := 2) ?hd (cs := #[.bool a0_0, .slice A0_1 l0_1.length c0_1, .int .i64 a0_2]) (t := 48) ?hr ?_; (case hd => rfl); (case hg => rfl); (case hr => first | (go_simp; done) | (go_simp; rfl)); intro gb280 hg w4 hbox hb; have n0_ := Zb.mk (Zl (by repeat (with_reducible first | exact HB.out | apply Zc | apply Za | apply Zd)) hb); have n1_ := Zb.mk (hbox); have n2_ := Zb.mk ((by rw [hg]; exact (Zi (by repeat (with_reducible first | exact HB.out | apply Zc | apply Za | apply Zd))) : w.heap.size ≤ gb280)); have n3_ := Zb.mk ((by rw [hg]; exact (Zi (by repeat (with_reducible first | exact HB.out | apply Zc | apply Za | apply Zd))) : w.heap.size ≤ gb280)); clear HB; have HB := n0_; have BK280 := n1_; have GW280 := n2_; have GE280 := n3_; clear n0_ n1_ n2_ n3_; clear hb hbox hg) | ((with_reducible refine Zt (N := 3) rfl ?_); refine Zs ?hg (N := 3) ?hd (cs := #[.bool a1_0, .slice A1_1 l1_1.length c1_1, .int .i64 a1_2]) (t := 48) ?hr ?_; (case hd => rfl); (case hg => rfl); (case hr => first | (go_simp; done) | (go_simp; rfl)); intro gb281 hg w5 hbox hb; have n0_ := Zb.mk (Zn (g := gb280) (o := .cells #[.bool a0_0, .slice A0_1 l0_1.length c0_1, .int .i64 a0_2] 48 (0, 0)) (by (with_reducible repeat first | refine Ze ?_ _ | refine Zg ?_ | refine Zf ?_ _); exact BK280.out) hb); have n1_ := Zb.mk (Zl (by repeat (with_reducible first | exact HB.out | apply Zc | apply Za | apply Zd | refine Zh ?_ GE280.out)) hb); have n2_ := Zb.mk (hbox); have n3_ := Zb.mk ((by rw [hg]; exact (Zi (by repeat (with_reducible first | exact HB.out | apply Zc | apply Za | apply Zd | refine Zh ?_ GE280.out))) : w.heap.size ≤ gb281)); have n4_ := Zb.mk ((by rw [hg]; exact (Zi (by repeat (with_reducible first | exact HB.out | apply Zc | apply Za | apply Zd | refine Zh ?_ GE280.out))) : w.heap.size ≤ gb281)); have n5_ := Zb.mk ((by rw [hg]; exact Nat.ne_of_lt (Zw (g := gb280) (o := .cells #[.bool a0_0, .slice A0_1 l0_1.length c0_1, .int .i64 a0_2] 48 (0, 0)) (by (with_reducible repeat first | refine Ze ?_ _ | refine Zg ?_ | refine Zf ?_ _); exact BK280.out)) : gb280 ≠ gb281)); have n6_ := Zb.mk ((by rw [hg]; exact Nat.ne_of_gt (Zw (g := gb280) (o := .cells #[.bool a0_0, .slice A0_1 l0_1.length c0_1, .int .i64 a0_2] 48 (0, 0)) (by (with_reducible repeat first | refine Ze ?_ _ | refine Zg ?_ | refine Zf ?_ _); exact BK280.out)) : gb281 ≠ gb280)); clear BK280; clear HB; have BK280 := n0_; have HB := n1_; have BK281 := n2_; have GW281 := n3_; have GE281 := n4_; have NB280_281 := n5_; have NB281_280 := n6_; clear n0_ n1_ n2_ n3_ n4_ n5_ n6_; clear hb hbox hg) | ((with_reducible refine Zt (N := 4) rfl ?_); refine Zs ?hg (N := 4) ?hd (cs := #[.bool false, .slice none 0 0, .int .i64 0]) (t := 48) ?hr ?_; (case hd => rfl); (case hg => rfl); (case hr => first | (go_simp; done) | (go_simp; rfl)); intro gb282 hg w6 hbox hb; have n0_ := Zb.mk (Zn (g := gb280) (o := .cells #[.bool a0_0, .slice A0_1 l0_1.length c0_1, .int .i64 a0_2] 48 (0, 0)) (by (with_reducible repeat first | refine Ze ?_ _ | refine Zg ?_ | refine Zf ?_ _); exact BK280.out) hb); have n1_ := Zb.mk (Zn (g := gb281) (o := .cells #[.bool a1_0, .slice A1_1 l1_1.length c1_1, .int .i64 a1_2] 48 (0, 0)) (by (with_reducible repeat first | refine Ze ?_ _ | refine Zg ?_ | refine Zf ?_ _); exact BK281.out) hb); have n2_ := Zb.mk (Zl (by repeat (with_reducible first | exact HB.out | apply Zc | apply Za | apply Zd | refine Zh ?_ GE280.out | refine Zh ?_ GE281.out)) hb); have n3_ := Zb.mk (hbox); have n4_ := Zb.mk ((by rw [hg]; exact (Zi (by repeat (with_reducible first | exact HB.out | apply Zc | apply Za | apply Zd | refine Zh ?_ GE280.out | refine Zh ?_ GE281.out))) : w.heap.size ≤ gb282)); have n5_ := Zb.mk ((by rw [hg]; exact (Zi (by repeat (with_reducible first | exact HB.out | apply Zc | apply Za | apply Zd | refine Zh ?_ GE280.out | refine Zh ?_ GE281.out))) : w.heap.size ≤ gb282)); have n6_ := Zb.mk ((by rw [hg]; exact Nat.ne_of_lt (Zw (g := gb280) (o := .cells #[.bool a0_0, .slice A0_1 l0_1.length c0_1, .int .i64 a0_2] 48 (0, 0)) (by (with_reducible repeat first | refine Ze ?_ _ | refine Zg ?_ | refine Zf ?_ _); exact BK280.out)) : gb280 ≠ gb282)); have n7_ := Zb.mk ((by rw [hg]; exact Nat.ne_of_gt (Zw (g := gb280) (o := .cells #[.bool a0_0, .slice A0_1 l0_1.length c0_1, .int .i64 a0_2] 48 (0, 0)) (by (with_reducible repeat first | refine Ze ?_ _ | refine Zg ?_ | refine Zf ?_ _); exact BK280.out)) : gb282 ≠ gb280)); have n8_ := Zb.mk ((by rw [hg]; exact Nat.ne_of_lt (Zw (g := gb281) (o := .cells #[.bool a1_0, .slice A1_1 l1_1.length c1_1, .int .i64 a1_2] 48 (0, 0)) (by (with_reducible repeat first | refine Ze ?_ _ | refine Zg ?_ | refine Zf ?_ _); exact BK281.out)) : gb281 ≠ gb282)); have n9_ := Zb.mk ((by rw [hg]; exact Nat.ne_of_gt (Zw (g := gb281) (o := .cells #[.bool a1_0, .slice A1_1 l1_1.length c1_1, .int .i64 a1_2] 48 (0, 0)) (by (with_reducible repeat first | refine Ze ?_ _ | refine Zg ?_ | refine Zf ?_ _); exact BK281.out)) : gb282 ≠ gb281)); clear BK280; clear BK281; clear HB; have BK280 := n0_; have BK281 := n1_; have HB := n2_; have BK282 := n3_; have GW282 := n4_; have GE282 := n5_; have NB280_282 := n6_; have NB282_280 := n7_; have NB281_282 := n8_; have NB282_281 := n9_; clear n0_ n1_ n2_ n3_ n4_ n5_ n6_ n7_ n8_ n9_; clear hb hbox hg))
 have n0_ := Zb.mk (Zg BK280.out)
 have n1_ := Zb.mk (Zg BK281.out)
 have n2_ := Zb.mk (Zg BK282.out)
 have n3_ := Zb.mk (Zd HB.out)
 clear BK280
 clear BK281
 clear BK282
 clear HB
 have BK280 := n0_
 have BK281 := n1_
 have BK282 := n2_
 have HB := n3_
 clear n0_ n1_ n2_ n3_
 refine start_ (n := 17) (S := fun w' => w'.cell? ⟨gb280, 0, none⟩ = some (.bool a0_0) ∧ w'.cell? ⟨gb280, 1, none⟩ = some (.slice A0_1 l0_1.length c0_1) ∧ w'.cell? ⟨gb280, 2, none⟩ = some (.int .i64 a0_2) ∧ w'.cell? ⟨gb281, 0, none⟩ = some (.bool a1_0) ∧ w'.cell? ⟨gb281, 1, none⟩ = some (.slice A1_1 l1_1.length c1_1) ∧ w'.cell? ⟨gb281, 2, none⟩ = some (.int .i64 a1_2)) (ds := []) #[false, false, false, false, false, false, false, false, false, false, false, false, false, false, false, false, false] (by kernel_rfl) rfl rfl ⟨(Zk BK280.out 0).trans rfl, (Zk BK280.out 1).trans rfl, (Zk BK280.out 2).trans rfl, (Zk BK281.out 0).trans rfl, (Zk BK281.out 1).trans rfl, (Zk BK281.out 2).trans rfl⟩ (fun hHeld => ?_); refine with_tabW r00Times.tab1 r00Times.bits1 (fun HT_ HW_ => ?_)
 generalize w6.drew = w7 at BK280 BK281 BK282 HB hHeld ⊢
 refine ZM (i := 0) (N := some 5) (v := ?_) (a' := ?_) #[true, false, false, false, false, false, false, false, false, false, false, false, false, false, false, false, false] rfl rfl (ZD HT_.out (by kernel_rfl)) (fun _ _ _ h => h) (Or.inl ⟨by rfl, ?_⟩) ?_ ?_
 rotate_left
 ·intro w'
  go_simp
  with_reducible rfl
 rotate_left
 ·simp only [Act.put, List.setIfInBounds_toArray, List.set_cons_zero, List.set_cons_succ, Zx, ZA]
  rfl
 refine ZM (i := 2) (N := some 7) (v := ?_) (a' := ?_) #[true, false, true, false, false, false, false, false, false, false, false, false, false, false, false, false, false] rfl rfl (ZD HT_.out (by kernel_rfl)) (fun _ _ _ h => h) (Or.inl ⟨by rfl, ?_⟩) ?_ ?_
 rotate_left
 ·intro w'
  go_simp
  with_reducible rfl
 rotate_left
 ·simp only [Act.put, List.setIfInBounds_toArray, List.set_cons_zero, List.set_cons_succ, Zx, ZA]
  rfl
 refine ZM (i := 5) (N := some 10) (v := ?_) (a' := ?_) #[true, false, true, false, false, true, false, false, false, false, false, false, false, false, false, false, false] rfl rfl (ZD HT_.out (by kernel_rfl)) (fun _ _ _ h => h) (Or.inl ⟨by rfl, ?_⟩) ?_ ?_
 rotate_left
 ·intro w'
  go_simp
  with_reducible rfl
 rotate_left
 ·simp only [Act.put, List.setIfInBounds_toArray, List.set_cons_zero, List.set_cons_succ, Zx, ZA]
  rfl
 refine ZM (i := 7) (N := some 12) (v := ?_) (a' := ?_) #[true, false, true, false, false, true, false, true, false, false, false, false, false, false, false, false, false] rfl rfl (ZD HT_.out (by kernel_rfl)) (fun _ _ _ h => h) (Or.inl ⟨by rfl, ?_⟩) ?_ ?_
 rotate_left
 ·intro w'
  go_simp
  with_reducible rfl
 rotate_left
 ·simp only [Act.put, List.setIfInBounds_toArray, List.set_cons_zero, List.set_cons_succ, Zx, ZA]
  rfl
 refine ZM (i := 10) (N := some 15) (v := ?_) (a' := ?_) #[true, false, true, false, false, true, false, true, false, false, true, false, false, false, false, false, false] rfl rfl (ZD HT_.out (by kernel_rfl)) (fun _ _ _ h => h) (Or.inl ⟨by rfl, ?_⟩) ?_ ?_
 rotate_left
 ·intro w'
  go_simp
  with_reducible rfl
 rotate_left
 ·simp only [Act.put, List.setIfInBounds_toArray, List.set_cons_zero, List.set_cons_succ, Zx, ZA]
  rfl
 refine ZM (i := 12) (N := some 17) (v := ?_) (a' := ?_) #[true, false, true, false, false, true, false, true, false, false, true, false, true, false, false, false, false] rfl rfl (ZD HT_.out (by kernel_rfl)) (fun _ _ _ h => h) (Or.inl ⟨by rfl, ?_⟩) ?_ ?_
 rotate_left
 ·intro w'
  go_simp
  with_reducible rfl
 rotate_left
 ·simp only [Act.put, List.setIfInBounds_toArray, List.set_cons_zero, List.set_cons_succ, Zx, ZA]
  rfl
 refine take_ (i := 1) (N := some 6) (v := ?_) (a' := ?_) #[true, true, true, false, false, true, false, true, false, false, true, false, true, false, false, false, false] rfl rfl (take_ofW HT_.out HW_.out (by kernel_rfl)) (fun _ _ _ h => h) (Or.inl ⟨by rfl, ?_⟩) hHeld ?_ ?_
 rotate_left
 ·rintro w' ⟨s0, s1, s2, s3, s4, s5⟩
  go_simp
  with_reducible rfl
 rotate_left
 ·simp only [Act.put, List.setIfInBounds_toArray, List.set_cons_zero, List.set_cons_succ, Zx, ZA]
  rfl
 refine take_ (i := 3) (N := some 8) (v := ?_) (a' := ?_) #[true, true, true, true, false, true, false, true, false, false, true, false, true, false, false, false, false] rfl rfl (take_ofW HT_.out HW_.out (by kernel_rfl)) (fun _ _ _ h => h) (Or.inl ⟨by rfl, ?_⟩) hHeld ?_ ?_
 rotate_left
 ·rintro w' ⟨s0, s1, s2, s3, s4, s5⟩
  go_simp
  with_reducible rfl
 rotate_left
 ·simp only [Act.put, List.setIfInBounds_toArray, List.set_cons_zero, List.set_cons_succ, Zx, ZA]
  rfl
 refine ZM (i := 4) (N := some 9) (v := ?_) (a' := ?_) #[true, true, true, true, true, true, false, true, false, false, true, false, true, false, false, false, false] rfl rfl (ZD HT_.out (by kernel_rfl)) (fun _ _ _ h => h) (Or.inl ⟨by rfl, ?_⟩) ?_ ?_
 rotate_left
 ·intro w'
  go_simp
  with_reducible rfl
 rotate_left
 ·simp only [Act.put, List.setIfInBounds_toArray, List.set_cons_zero, List.set_cons_succ, Zx, ZA]
  rfl
 refine take_ (i := 6) (N := some 11) (v := ?_) (a' := ?_) #[true, true, true, true, true, true, true, true, false, false, true, false, true, false, false, false, false] rfl rfl (take_ofW HT_.out HW_.out (by kernel_rfl)) (fun _ _ _ h => h) (Or.inl ⟨by rfl, ?_⟩) hHeld ?_ ?_
 rotate_left
 ·rintro w' ⟨s0, s1, s2, s3, s4, s5⟩
  go_simp
  with_reducible rfl
 rotate_left
 ·simp only [Act.put, List.setIfInBounds_toArray, List.set_cons_zero, List.set_cons_succ, Zx, ZA]
  rfl
 refine take_ (i := 8) (N := some 13) (v := ?_) (a' := ?_) #[true, true, true, true, true, true, true, true, true, false, true, false, true, false, false, false, false] rfl rfl (take_ofW HT_.out HW_.out (by kernel_rfl)) (fun _ _ _ h => h) (Or.inl ⟨by rfl, ?_⟩) hHeld ?_ ?_
 rotate_left
 ·rintro w' ⟨s0, s1, s2, s3, s4, s5⟩
  go_simp
  with_reducible rfl
 rotate_left
 ·simp only [Act.put, List.setIfInBounds_toArray, List.set_cons_zero, List.set_cons_succ, Zx, ZA]
  rfl
 refine take_ (i := 11) (N := some 16) (v := ?_) (a' := ?_) #[true, true, true, true, true, true, true, true, true, false, true, true, true, false, false, false, false] rfl rfl (take_ofW HT_.out HW_.out (by kernel_rfl)) (fun _ _ _ h => h) (Or.inl ⟨by rfl, ?_⟩) hHeld ?_ ?_
 rotate_left
 ·rintro w' ⟨s0, s1, s2, s3, s4, s5⟩
  go_simp
  with_reducible rfl
 rotate_left
 ·simp only [Act.put, List.setIfInBounds_toArray, List.set_cons_zero, List.set_cons_succ, Zx, ZA]
  rfl
 refine take_ (i := 13) (N := some 18) (v := ?_) (a' := ?_) #[true, true, true, true, true, true, true, true, true, false, true, true, true, true, false, false, false] rfl rfl (take_ofW HT_.out HW_.out (by kernel_rfl)) (fun _ _ _ h => h) (Or.inl ⟨by rfl, ?_⟩) hHeld ?_ ?_
 rotate_left
 ·rintro w' ⟨s0, s1, s2, s3, s4, s5⟩
  go_simp
  with_reducible rfl
 rotate_left
 ·simp only [Act.put, List.setIfInBounds_toArray, List.set_cons_zero, List.set_cons_succ, Zx, ZA]
  rfl
 refine ZM (i := 14) (N := some 19) (v := ?_) (a' := ?_) #[true, true, true, true, true, true, true, true, true, false, true, true, true, true, true, false, false] rfl rfl (ZD HT_.out (by kernel_rfl)) (fun _ _ _ h => h) (Or.inl ⟨by rfl, ?_⟩) ?_ ?_
 rotate_left
 ·intro w'
  go_simp
  with_reducible rfl
 rotate_left
 ·simp only [Act.put, List.setIfInBounds_toArray, List.set_cons_zero, List.set_cons_succ, Zx, ZA]
  rfl
 refine one_ (i := 9) (N := some 14) #[true, true, true, true, true, true, true, true, true, true, true, true, true, true, true, false, false] rfl rfl (one_of HT_.out (by kernel_rfl)) (by decide) (fun K hK => ?_)
 refine goes_ Try.func59 (by kernel_rfl) rfl #[.slice A0_1 l0_1.length c0_1, .slice A1_1 l1_1.length c1_1] (by rfl) rfl rfl (by (try simp only [List.map_toArray, List.map_cons, List.map_nil]); first | done | rfl | (simp only [List.length_drop, List.length_take]; rfl)) ?_
 with_reducible refine (r00NatMul.calls k _ _ l0_1 _ _ l1_1 t283 _ ?side1 ?side2 ?side3 ?side4 A3.out).mono ?_
 (case side1 => repeat (first | exact (Kd.C_below HR0_1.out HB.out) | (with_reducible refine Kd.ZC ?_ _) | (with_reducible refine Kd.ZF ?_ _) | (with_reducible refine Kd.ZN ?_)))
 (case side2 => exact HC0_1.out)
 (case side3 => repeat (first | exact (Kd.C_below HR1_1.out HB.out) | (with_reducible refine Kd.ZC ?_ _) | (with_reducible refine Kd.ZF ?_ _) | (with_reducible refine Kd.ZN ?_)))
 (case side4 => exact HC1_1.out)
 rintro e w8 ⟨v284, rfl, ho0, hb⟩
 refine ⟨_, rfl, ?_⟩
 have n0_ := Zb.mk (Kd.ZG ho0 (Zi (by repeat (with_reducible first | exact HB.out | apply Zc | apply Za | apply Zd | refine Zh ?_ GE280.out | refine Zh ?_ GE281.out | refine Zh ?_ GE282.out))))
 have n1_ := Zb.mk (Zn (g := gb280) (o := .cells #[.bool a0_0, .slice A0_1 l0_1.length c0_1, .int .i64 a0_2] 48 (0, 0)) (by (with_reducible repeat first | refine Ze ?_ _ | refine Zg ?_ | refine Zf ?_ _); exact BK280.out) hb)
 have n2_ := Zb.mk (Zn (g := gb281) (o := .cells #[.bool a1_0, .slice A1_1 l1_1.length c1_1, .int .i64 a1_2] 48 (0, 0)) (by (with_reducible repeat first | refine Ze ?_ _ | refine Zg ?_ | refine Zf ?_ _); exact BK281.out) hb)
 have n3_ := Zb.mk (Zn (g := gb282) (o := .cells #[.bool false, .slice none 0 0, .int .i64 0] 48 (0, 0)) (by (with_reducible repeat first | refine Ze ?_ _ | refine Zg ?_ | refine Zf ?_ _); exact BK282.out) hb)
 have n4_ := Zb.mk (Zl (by repeat (with_reducible first | exact HB.out | apply Zc | apply Za | apply Zd | refine Zh ?_ GE280.out | refine Zh ?_ GE281.out | refine Zh ?_ GE282.out)) hb)
 clear BK280
 clear BK281
 clear BK282
 clear HB
 have HO285 := n0_
 have BK280 := n1_
 have BK281 := n2_
 have BK282 := n3_
 have HB := n4_
 clear n0_ n1_ n2_ n3_ n4_
 (try clear hb)
 (try clear hb2)
 (try clear hk)
 (try clear hi)
 (try clear ho0)
 obtain ⟨Ao9, co9, eo9⟩ := Kd.Zy HO285.out
 (first | subst eo9 | (injection eo9 with f1_ f2_ f3_; have f4_ := f1_.symm; have f5_ := f3_.symm; clear f1_ f2_ f3_; subst f4_; subst f5_))
 refine hK.out _ _ ⟨(Zk BK280.out 0).trans rfl, (Zk BK280.out 1).trans rfl, (Zk BK280.out 2).trans rfl, (Zk BK281.out 0).trans rfl, (Zk BK281.out 1).trans rfl, (Zk BK281.out 2).trans rfl⟩ (fun hHeld => ?_)
 clear hK K
 refine norm_ (a' := ?_) ?_ ?_
 rotate_left
 ·show Act.put _ (some 14) _ = _
  simp only [Act.put, List.setIfInBounds_toArray, List.set_cons_zero, List.set_cons_succ, Zx, ZA]
  rfl
 refine ZM (i := 15) (N := some 20) (v := ?_) (a' := ?_) #[true, true, true, true, true, true, true, true, true, true, true, true, true, true, true, true, false] rfl rfl (ZD HT_.out (by kernel_rfl)) (fun _ _ _ h => h) (Or.inl ⟨by rfl, ?_⟩) ?_ ?_
 rotate_left
 ·intro w'
  go_simp
  with_reducible rfl
 rotate_left
 ·simp only [Act.put, List.setIfInBounds_toArray, List.set_cons_zero, List.set_cons_succ, Zx, ZA]
  rfl
 refine one_ (i := 16) (N := none) #[true, true, true, true, true, true, true, true, true, true, true, true, true, true, true, true, true] rfl rfl (one_of HT_.out (by kernel_rfl)) (by decide) (fun K hK => ?_)
 have hs10 : w8.cell? ⟨gb282, 0, none⟩ = some (.bool false) := (Zk BK282.out 0).trans rfl
 have hfs10 := Zj BK282.out 0
 have hns10_0 := NB280_282.out
 have hns10_1 := NB281_282.out
 have hms10_0 := NB282_280.out
 have hms10_1 := NB282_281.out
 have hs11 : w8.cell? ⟨gb282, 1, none⟩ = some (.slice none 0 0) := (Zk BK282.out 1).trans rfl
 have hfs11 := Zj BK282.out 1
 have hns11_0 := NB280_282.out
 have hns11_1 := NB281_282.out
 have hms11_0 := NB282_280.out
 have hms11_1 := NB282_281.out
 have hs12 : w8.cell? ⟨gb282, 2, none⟩ = some (.int .i64 0) := (Zk BK282.out 2).trans rfl
 have hfs12 := Zj BK282.out 2
 have hns12_0 := NB280_282.out
 have hns12_1 := NB281_282.out
 have hms12_0 := NB282_280.out
 have hms12_1 := NB282_281.out
 refine skip_ (w1 := ?_) (by rfl) rfl ?_ ?_
 rotate_left
 ·go_simp
  rfl
 refine hK.out _ _ ⟨((cell_far (p := ⟨gb282, _, none⟩) NB280_282.out _).trans (((cell_far (p := ⟨gb282, _, none⟩) NB280_282.out _).trans (((cell_far (p := ⟨gb282, _, none⟩) NB280_282.out _).trans (hHeld.1)))))), ((cell_far (p := ⟨gb282, _, none⟩) NB280_282.out _).trans (((cell_far (p := ⟨gb282, _, none⟩) NB280_282.out _).trans (((cell_far (p := ⟨gb282, _, none⟩) NB280_282.out _).trans (hHeld.2.1)))))), ((cell_far (p := ⟨gb282, _, none⟩) NB280_282.out _).trans (((cell_far (p := ⟨gb282, _, none⟩) NB280_282.out _).trans (((cell_far (p := ⟨gb282, _, none⟩) NB280_282.out _).trans (hHeld.2.2.1)))))), ((cell_far (p := ⟨gb282, _, none⟩) NB281_282.out _).trans (((cell_far (p := ⟨gb282, _, none⟩) NB281_282.out _).trans (((cell_far (p := ⟨gb282, _, none⟩) NB281_282.out _).trans (hHeld.2.2.2.1)))))), ((cell_far (p := ⟨gb282, _, none⟩) NB281_282.out _).trans (((cell_far (p := ⟨gb282, _, none⟩) NB281_282.out _).trans (((cell_far (p := ⟨gb282, _, none⟩) NB281_282.out _).trans (hHeld.2.2.2.2.1)))))), ((cell_far (p := ⟨gb282, _, none⟩) NB281_282.out _).trans (((cell_far (p := ⟨gb282, _, none⟩) NB281_282.out _).trans (((cell_far (p := ⟨gb282, _, none⟩) NB281_282.out _).trans (hHeld.2.2.2.2.2))))))⟩ (fun hHeld => ?_)
 clear hK K
 refine done_ (done_of HT_.out (by kernel_rfl)) ?_
 try go_wp2
 refine bodyPost_ret (results_cell_row rfl _ _ gb282 48 #[.bool (a0_0 != a1_0), .slice Ao9 t283.length co9, .int .i64 (wrap64 (a0_2 + a1_2))] (0, 0) _ rfl (by (with_reducible repeat first | refine Ze ?_ _ | refine Zg ?_ | refine Zf ?_ _); refine Zu (cs := #[.bool (a0_0 != a1_0), .slice Ao9 t283.length co9, .int .i64 0]) ?_ 2 _ rfl; (with_reducible repeat first | refine Ze ?_ _ | refine Zg ?_ | refine Zf ?_ _); refine Zu (cs := #[.bool (a0_0 != a1_0), .slice none 0 0, .int .i64 0]) ?_ 1 _ rfl; (with_reducible repeat first | refine Ze ?_ _ | refine Zg ?_ | refine Zf ?_ _); refine Zu (cs := #[.bool false, .slice none 0 0, .int .i64 0]) ?_ 0 _ rfl; (with_reducible repeat first | refine Ze ?_ _ | refine Zg ?_ | refine Zf ?_ _); exact BK282.out) Try.underlying48 rfl (by kernel_rfl)) rfl ?_
 exact ⟨_, by first | rfl | (simp [errW_none, errW_some] <;> rfl) | (simp [*, errW_none, errW_some] <;> rfl), by (with_reducible repeat first | apply Kd.Zm | apply Kd.Zo); exact Kd.ZE (Kd.ZH (p := ⟨gb282, 2, none⟩) (Kd.ZH (p := ⟨gb282, 1, none⟩) (Kd.ZH (p := ⟨gb282, 0, none⟩) (Kd.ZI HO285.out BK282.out (by decide)) (fun _ hk => hk.2) (.bool (a0_0 != a1_0))) (fun _ hk => hk.2) (.slice Ao9 t283.length co9)) (fun _ hk => hk.2) (.int .i64 (wrap64 (a0_2 + a1_2)))) (fun _ hk => trivial), by repeat (with_reducible first | exact HB.out | apply Zc | apply Za | apply Zd | refine Zh ?_ GE280.out | refine Zh ?_ GE281.out | refine Zh ?_ GE282.out)⟩
def r19may.f (a0 : Int) : Option (Bool) := if a0 ≥ 2 then (some (decide (a0 ≤ 36))) else (some false)
end Go.Proofs.Ytbmddlldadbfnaa.BB
end
section
namespace Go.Proofs.Ytbmddlldadbfnaa.BM
open Go.RowKit Go.Proofs.YtbmddlldadbfnaaW.PrintWords Go.Proofs.YtbmddlldadbfnaaW.PrintLast Go.Proofs.YtbmddlldadbfnaaW.PrintMore
def Ev {α : Type} (f : Nat → Option α) (r : α) : Prop := ∃ K, ∀ k, K ≤ k → f k = some r
namespace Ev
variable {α β : Type}
theorem pure (r : α) : Ev (fun _ => some r) r := ⟨0, fun _ _ => rfl⟩
theorem succ {f : Nat → Option α} {r : α} (h : Ev (fun k => f (k + 1)) r) : Ev f r := by
 obtain ⟨K, hK⟩ := h
 refine ⟨K + 1, fun k hk => ?_⟩
 have h : f (k - 1 + 1) = some r := hK (k - 1) (by omega)
 rwa [show k - 1 + 1 = k by omega] at h
theorem bind {f : Nat → Option α} {g : Nat → α → Option β} {a : α} {r : β} (hf : Ev f a) (hg : Ev (fun k => g k a) r) : Ev (fun k => (f k).bind (g k)) r := by
 obtain ⟨K, hK⟩ := hf
 obtain ⟨L, hL⟩ := hg
 refine ⟨max K L, fun k hk => ?_⟩
 show (f k).bind (g k) = some r
 rw [hK k (by omega)]
 exact hL k (by omega)
theorem bind1 {f : Option α} {g : Nat → α → Option β} {a : α} {r : β} (hf : f = some a) (hg : Ev (fun k => g k a) r) : Ev (fun k => f.bind (g k)) r := by
 subst hf; exact hg
theorem congr {f g : Nat → Option α} {r : α} (h : Ev g r) (e : ∀ k, f k = g k) : Ev f r := by
 obtain ⟨K, hK⟩ := h
 exact ⟨K, fun k hk => (e k).trans (hK k hk)⟩
theorem ex {f : Nat → Option α} {r : α} (h : Ev f r) : ∃ k, f k = some r := by
 obtain ⟨K, hK⟩ := h
 exact ⟨K, hK K (Nat.le_refl _)⟩
theorem const {f : Option α} {r : α} (h : f = some r) : Ev (fun _ => f) r := ⟨0, fun _ _ => h⟩
end Ev
theorem w64 {n : Int} (h0 : -9223372036854775808 ≤ n) (h1 : n < 9223372036854775808) : wrap64 n = n := by unfold wrap64; omega
theorem u64 {n : Int} (h0 : 0 ≤ n) (h1 : n < 18446744073709551616) : IntKind.u64.wrap n = n := by rw [IntKind.wrap_u64]; omega
theorem u64m (n : Int) : IntKind.u64.wrap n = n % 18446744073709551616 := IntKind.wrap_u64 n
def V (B : Int) : List Int → Int
 | [] => 0
 | a :: l => a + B * V B l
def Dig (B : Int) (l : List Int) : Prop := ∀ a ∈ l, 0 ≤ a ∧ a < B
def Num (B : Int) (l : List Int) (n : Int) : Prop := Dig B l ∧ V B l = n
def Top (l : List Int) : Prop := ∀ h : l ≠ [], l.getLast h ≠ 0
def Can (B : Int) (l : List Int) (n : Int) : Prop := Num B l n ∧ Top l
theorem V_append (B : Int) (p q : List Int) : V B (p ++ q) = V B p + B ^ p.length * V B q := by
 induction p with
 | nil => simp [V]
 | cons a p ih => simp only [List.cons_append, V, ih, List.length_cons, Int.pow_succ]; grind
theorem V_snoc (B : Int) (p : List Int) (d : Int) : V B (p ++ [d]) = V B p + B ^ p.length * d := by
 rw [V_append]; simp [V]
theorem V_zeros (B : Int) (n : Nat) : V B (List.replicate n 0) = 0 := by
 induction n with
 | zero => rfl
 | succ n ih => simp [List.replicate_succ, V, ih]
theorem V_nonneg {B : Int} (hB : 0 < B) {l : List Int} (h : Dig B l) : 0 ≤ V B l := by
 induction l with
 | nil => simp [V]
 | cons a l ih =>
  have h1 := h a (by simp)
  have h2 := ih (fun x hx => h x (by simp [hx]))
  have := Int.mul_nonneg (Int.le_of_lt hB) h2
  simp only [V]; omega
theorem V_lt {B : Int} (hB : 0 < B) {l : List Int} (h : Dig B l) : V B l < B ^ l.length := by
 induction l with
 | nil => simp [V]
 | cons a l ih =>
  have h1 := h a (by simp)
  have h2 := ih (fun x hx => h x (by simp [hx]))
  have := Int.mul_le_mul_of_nonneg_left (show V B l + 1 ≤ B ^ l.length by omega) (Int.le_of_lt hB)
  simp only [V, List.length_cons, Int.pow_succ]
  grind
theorem Dig_append {B : Int} {p q : List Int} (hp : Dig B p) (hq : Dig B q) : Dig B (p ++ q) := by
 intro a ha
 rcases List.mem_append.1 ha with h | h
 ·exact hp a h
 ·exact hq a h
theorem Dig_one {B d : Int} (h0 : 0 ≤ d) (h1 : d < B) : Dig B [d] := by
 intro a ha; simp only [List.mem_singleton] at ha; subst ha; exact ⟨h0, h1⟩
theorem Dig_snoc {B d : Int} {p : List Int} (hp : Dig B p) (h0 : 0 ≤ d) (h1 : d < B) : Dig B (p ++ [d]) := Dig_append hp (Dig_one h0 h1)
theorem Dig_nil (B : Int) : Dig B [] := by intro a ha; simp at ha
theorem Dig_zeros {B : Int} (hB : 0 < B) (n : Nat) : Dig B (List.replicate n 0) := by
 intro a ha; have := List.eq_of_mem_replicate ha; subst this; exact ⟨by omega, hB⟩
theorem Dig_take {B : Int} {l : List Int} (h : Dig B l) (i : Nat) : Dig B (l.take i) := fun a ha => h a (List.mem_of_mem_take ha)
theorem Dig_tail {B a : Int} {l : List Int} (h : Dig B (a :: l)) : Dig B l := fun x hx => h x (by simp [hx])
theorem pow_pos' {B : Int} (hB : 0 < B) (n : Nat) : 0 < B ^ n := by
 induction n with
 | zero => simp
 | succ n ih => rw [Int.pow_succ]; exact Int.mul_pos ih hB
theorem pow_le' {B : Int} (hB : 1 ≤ B) {m n : Nat} (h : m ≤ n) : B ^ m ≤ B ^ n := by
 induction n with
 | zero => rw [show m = 0 by omega]; simp
 | succ n ih =>
  rcases Nat.lt_or_ge m (n + 1) with hlt | hge
  ·have h1 := ih (by omega)
   have h2 := pow_pos' (show 0 < B by omega) n
   have h3 := Int.mul_le_mul_of_nonneg_left hB (Int.le_of_lt h2)
   rw [Int.pow_succ]; omega
  ·rw [show m = n + 1 by omega]; exact Int.le_refl _
theorem pow_mono {a b : Int} (ha : 0 ≤ a) (h : a ≤ b) (n : Nat) : a ^ n ≤ b ^ n := by
 induction n with
 | zero => simp
 | succ n ih =>
  rw [Int.pow_succ, Int.pow_succ]
  exact Int.mul_le_mul ih h ha (Int.pow_nonneg (by omega))
theorem rd_nat (l : List Int) {i : Nat} (h : i < l.length) : rd l (i : Int) = l[i] := by
 unfold rd; simp [List.getD_eq_getElem?_getD, h]
theorem rd_int (l : List Int) {i : Int} (h0 : 0 ≤ i) (h : i < l.length) : rd l i = l[i.toNat]'(by omega) := by
 unfold rd; simp [List.getD_eq_getElem?_getD, show i.toNat < l.length by omega]
theorem rd_dig {B : Int} {l : List Int} (hl : Dig B l) {i : Int} (h0 : 0 ≤ i) (h : i < l.length) : 0 ≤ rd l i ∧ rd l i < B := by
 rw [rd_int l h0 h]; exact hl _ (List.getElem_mem _)
theorem take_rd (l : List Int) {i : Nat} (h : i < l.length) : l.take (i + 1) = l.take i ++ [rd l (i : Int)] := by
 rw [rd_nat l h, List.take_append_getElem h]
theorem V_take (B : Int) (l : List Int) {i : Nat} (h : i < l.length) : V B (l.take (i + 1)) = V B (l.take i) + B ^ i * rd l (i : Int) := by
 rw [take_rd l h, V_snoc, List.length_take, Nat.min_eq_left (by omega)]
theorem set_pad (p : List Int) (d : Int) (j : Nat) : (p ++ List.replicate (j + 1) 0).set p.length d = (p ++ [d]) ++ List.replicate j 0 := by
 rw [List.set_append_right _ _ (Nat.le_refl _)]; simp [List.replicate_succ]
theorem getLast_rd (l : List Int) (h : l ≠ []) : l.getLast h = rd l ((l.length : Int) - 1) := by
 have : 0 < l.length := List.length_pos_iff.2 h
 rw [rd_int l (by omega) (by omega), List.getLast_eq_getElem]
 congr 1; omega
theorem Can_unique {B : Int} (hB : 1 < B) : ∀ {l m : List Int} {n : Int}, Can B l n → Can B m n → l = m
 | [], [], _, _, _ => rfl
 | [], b :: m, n, h, h' => by
  exfalso
  have e : V B (b :: m) = 0 := by rw [h'.1.2, ← h.1.2]; rfl
  have hd := h'.1.1
  have b0 := hd b (by simp)
  have v0 := V_nonneg (by omega : 0 < B) (Dig_tail hd)
  have p0 := Int.mul_nonneg (show 0 ≤ B by omega) v0
  simp only [V] at e
  have hb : b = 0 := by omega
  have hv : B * V B m = 0 := by omega
  have hv' : V B m = 0 := by rcases Int.mul_eq_zero.1 hv with h | h <;> omega
  cases m with
  | nil => exact h'.2 (by simp) (by simpa using hb)
  | cons c m =>
   have : Can B (c :: m) 0 := ⟨⟨Dig_tail hd, hv'⟩, fun hne => by have := h'.2 (by simp); simpa using this⟩
   exact absurd (Can_unique hB (l := []) (m := c :: m) ⟨⟨Dig_nil B, rfl⟩, fun h => absurd rfl h⟩ this) (by simp)
 | a :: l, [], n, h, h' => by
  exfalso
  have e : V B (a :: l) = 0 := by rw [h.1.2, ← h'.1.2]; rfl
  have hd := h.1.1
  have b0 := hd a (by simp)
  have v0 := V_nonneg (by omega : 0 < B) (Dig_tail hd)
  have p0 := Int.mul_nonneg (show 0 ≤ B by omega) v0
  simp only [V] at e
  have hb : a = 0 := by omega
  have hv : B * V B l = 0 := by omega
  have hv' : V B l = 0 := by rcases Int.mul_eq_zero.1 hv with h | h <;> omega
  cases l with
  | nil => exact h.2 (by simp) (by simpa using hb)
  | cons c m =>
   have : Can B (c :: m) 0 := ⟨⟨Dig_tail hd, hv'⟩, fun hne => by have := h.2 (by simp); simpa using this⟩
   exact absurd (Can_unique hB (l := c :: m) (m := []) this ⟨⟨Dig_nil B, rfl⟩, fun h => absurd rfl h⟩) (by simp)
 | a :: l, b :: m, n, h, h' => by
  have e : a + B * V B l = b + B * V B m := by
   have h1 := h.1.2; have h2 := h'.1.2; simp only [V] at h1 h2; omega
  have a0 := h.1.1 a (by simp)
  have b0 := h'.1.1 b (by simp)
  have hab : a = b := by
   have h1 : (a + B * V B l) % B = a := by rw [Int.add_mul_emod_self_left]; exact Int.emod_eq_of_lt a0.1 a0.2
   have h2 : (b + B * V B m) % B = b := by rw [Int.add_mul_emod_self_left]; exact Int.emod_eq_of_lt b0.1 b0.2
   rw [← h1, e, h2]
  have hv : V B l = V B m := by
   have : B * V B l = B * V B m := by omega
   exact Int.eq_of_mul_eq_mul_left (by omega) this
  have tl : Top l := fun hne => by have := h.2 (by simp); rwa [List.getLast_cons hne] at this
  have tm : Top m := fun hne => by have := h'.2 (by simp); rwa [List.getLast_cons hne] at this
  rw [hab, Can_unique hB (l := l) (m := m) (n := V B l) ⟨⟨Dig_tail h.1.1, rfl⟩, tl⟩ ⟨⟨Dig_tail h'.1.1, hv.symm⟩, tm⟩]
 termination_by l m => l.length + m.length
theorem Can_nil (B : Int) : Can B [] 0 := ⟨⟨Dig_nil B, rfl⟩, fun h => absurd rfl h⟩
theorem Can_zero {B : Int} (hB : 1 < B) {l : List Int} (h : Can B l 0) : l = [] := Can_unique hB h (Can_nil B)
theorem Can_low {B : Int} (hB : 1 < B) {l : List Int} {n : Int} (h : Can B l n) (hne : l ≠ []) : B ^ (l.length - 1) ≤ n := by
 have hl : 0 < l.length := List.length_pos_iff.2 hne
 have e : l = l.take (l.length - 1) ++ [l.getLast hne] := by
  rw [List.getLast_eq_getElem]
  conv => lhs; rw [← List.take_length (l := l), show l.length = l.length - 1 + 1 by omega, List.take_add_one]
  simp [show l.length - 1 < l.length by omega]
 have hv := h.1.2
 rw [e, V_snoc, List.length_take, Nat.min_eq_left (by omega)] at hv
 have v0 := V_nonneg (by omega : 0 < B) (Dig_take h.1.1 (l.length - 1))
 have t0 := h.2 hne
 have d0 := h.1.1 (l.getLast hne) (List.getLast_mem hne)
 have := Int.mul_le_mul_of_nonneg_left (show (1 : Int) ≤ l.getLast hne by omega) (Int.le_of_lt (pow_pos' (by omega : 0 < B) (l.length - 1)))
 omega
theorem Can_len {B : Int} (hB : 1 < B) {l : List Int} {n : Int} (h : Can B l n) {c : Nat} (hn : n < B ^ c) : l.length ≤ c := by
 rcases Nat.lt_or_ge c l.length with hlt | hge
 ·exfalso
  have hne : l ≠ [] := by intro h0; subst h0; simp at hlt
  have h1 := Can_low hB h hne
  have h2 := pow_le' (show 1 ≤ B by omega) (show c ≤ l.length - 1 by omega)
  omega
 ·exact hge
theorem Can_pos {B : Int} (hB : 1 < B) {l : List Int} {n : Int} (h : Can B l n) (hne : l ≠ []) : 0 < n := by
 have h1 := Can_low hB h hne
 have h2 := pow_pos' (show 0 < B by omega) (l.length - 1)
 omega
theorem V_take_zero (B : Int) (l : List Int) {i : Nat} (h : i < l.length) (h0 : rd l (i : Int) = 0) : V B (l.take i) = V B (l.take (i + 1)) := by
 rw [V_take B l h, h0]; simp
theorem Top_take {l : List Int} {i : Nat} (h : i < l.length) (h0 : rd l (i : Int) ≠ 0) : Top (l.take (i + 1)) := by
 intro hne
 simp only [take_rd l h, List.getLast_append, List.getLast_singleton]
 simpa using h0
theorem bt_range (s : ByteArray) (i : Int) : 0 ≤ bt s i ∧ bt s i < 256 := by
 unfold bt; split
 ·rename_i h
  have := (s[i.toNat]'h).toNat_lt
  omega
 ·omega
end Go.Proofs.Ytbmddlldadbfnaa.BM
end
section
namespace Go.Proofs.Ytbmddlldadbfnaa.BM
open Go.RowKit Go.Proofs.YtbmddlldadbfnaaW.PrintWords Go.Proofs.YtbmddlldadbfnaaW.PrintLast Go.Proofs.YtbmddlldadbfnaaW.PrintMore
open Go.Proofs.Ytbmddlldadbfnaa.BB
theorem nattrim_l0 (B : Int) : ∀ (m : Nat) {l : List Int} {n : Int}, m ≤ l.length → l.length < 1099511627776 → Num B (l.take m) n →
  ∃ r, Ev (fun k => r00NatTrim.l0 k l m) r ∧ Can B r n ∧ r.length ≤ m
 | 0, l, n, hm, hb, hn => by
  have hv : n = 0 := by rw [← hn.2]; simp [V]
  subst hv
  refine ⟨[], Ev.succ (Ev.congr (Ev.pure _) fun k => ?_), Can_nil B, by simp⟩
  rw [r00NatTrim.l0, if_neg (by omega), if_pos (by omega), if_pos (by omega)]
  simp
 | m + 1, l, n, hm, hb, hn => by
  have e : wrap64 (((m + 1 : Nat) : Int) - 1) = ((m : Nat) : Int) := by rw [w64 (by omega) (by omega)]; omega
  have c0 : ((m + 1 : Nat) : Int) > 0 := by clear e; omega
  have c1 : ((m : Nat) : Int) < (l.length : Int) := by clear e; omega
  by_cases h0 : rd l ((m : Nat) : Int) = 0
  ·obtain ⟨r, he, hc, hl⟩ := nattrim_l0 B m (l := l) (n := n) (by clear e; omega) (by clear e; omega)
    ⟨Dig_take (by have := Dig_take hn.1 m; rwa [List.take_take, Nat.min_eq_left (by clear e; omega)] at this) m |> fun h => by rwa [List.take_take, Nat.min_self] at h, by rw [V_take_zero B l (by clear e; omega) h0]; exact hn.2⟩
   refine ⟨r, Ev.succ (Ev.congr he fun k => ?_), hc, by clear e; omega⟩
   rw [r00NatTrim.l0, e, if_pos c0, if_pos (Int.natCast_nonneg _), if_pos c1, if_pos h0]
  ·refine ⟨l.take (m + 1), Ev.succ (Ev.congr (Ev.pure _) fun k => ?_), ⟨hn, Top_take (by clear e; omega) h0⟩, by rw [List.length_take]; clear e; omega⟩
   have c2 : ((m + 1 : Nat) : Int) ≤ (l.length : Int) := by clear e; omega
   have c3 : ([] : List Int).length + (l.take (m + 1)).length < 17592186044416 := by rw [List.length_take, List.length_nil]; clear e; omega
   rw [r00NatTrim.l0, e, if_pos c0, if_pos (Int.natCast_nonneg _), if_pos c1, if_neg h0, if_pos (Int.natCast_nonneg _), if_pos c2, Int.toNat_natCast, if_pos c3]
   simp
theorem low_l0 (B : Int) : ∀ (m : Nat) {l : List Int} {n : Int}, m ≤ l.length → l.length < 1099511627776 → Num B (l.take m) n →
  ∃ r, Ev (fun k => r00low.l0 k l m) r ∧ Can B r n ∧ r.length ≤ m
 | 0, l, n, hm, hb, hn => by
  have hv : n = 0 := by rw [← hn.2]; simp [V]
  subst hv
  refine ⟨[], Ev.succ (Ev.congr (Ev.pure _) fun k => ?_), Can_nil B, by simp⟩
  rw [r00low.l0, if_neg (by omega), if_pos (by omega), if_pos (by omega)]
  simp
 | m + 1, l, n, hm, hb, hn => by
  have e : wrap64 (((m + 1 : Nat) : Int) - 1) = ((m : Nat) : Int) := by rw [w64 (by omega) (by omega)]; omega
  have c0 : ((m + 1 : Nat) : Int) > 0 := by clear e; omega
  have c1 : ((m : Nat) : Int) < (l.length : Int) := by clear e; omega
  by_cases h0 : rd l ((m : Nat) : Int) = 0
  ·obtain ⟨r, he, hc, hl⟩ := low_l0 B m (l := l) (n := n) (by clear e; omega) (by clear e; omega)
    ⟨Dig_take (by have := Dig_take hn.1 m; rwa [List.take_take, Nat.min_eq_left (by clear e; omega)] at this) m |> fun h => by rwa [List.take_take, Nat.min_self] at h, by rw [V_take_zero B l (by clear e; omega) h0]; exact hn.2⟩
   refine ⟨r, Ev.succ (Ev.congr he fun k => ?_), hc, by clear e; omega⟩
   rw [r00low.l0, e, if_pos c0, if_pos (Int.natCast_nonneg _), if_pos c1, if_pos h0]
  ·refine ⟨l.take (m + 1), Ev.succ (Ev.congr (Ev.pure _) fun k => ?_), ⟨hn, Top_take (by clear e; omega) h0⟩, by rw [List.length_take]; clear e; omega⟩
   have c2 : ((m + 1 : Nat) : Int) ≤ (l.length : Int) := by clear e; omega
   rw [r00low.l0, e, if_pos c0, if_pos (Int.natCast_nonneg _), if_pos c1, if_neg h0, if_pos (Int.natCast_nonneg _), if_pos c2, Int.toNat_natCast]
theorem nattrim_ev (B : Int) {l : List Int} {n : Int} (hb : l.length < 1099511627776) (hn : Num B l n) : ∃ r, Ev (fun k => r00NatTrim.f k l) r ∧ Can B r n ∧ r.length ≤ l.length :=
 nattrim_l0 B l.length (Nat.le_refl _) hb (by rw [List.take_length]; exact hn)
theorem low_ev (B : Int) {l : List Int} {n : Int} (hb : l.length < 1099511627776) (hn : Num B l n) : ∃ r, Ev (fun k => r00low.f k l) r ∧ Can B r n ∧ r.length ≤ l.length :=
 low_l0 B l.length (Nat.le_refl _) hb (by rw [List.take_length]; exact hn)
theorem nattrim_can {B : Int} (hB : 1 < B) {l : List Int} {n : Int} (h : Can B l n) (hb : l.length < 1099511627776) : Ev (fun k => r00NatTrim.f k l) l := by
 obtain ⟨r, he, hc, _⟩ := nattrim_ev B hb h.1
 rwa [Can_unique hB hc h] at he
theorem natof_ev {a : Int} (h0 : 0 ≤ a) (h1 : a < 18446744073709551616) : ∃ r, Ev (fun k => r00NatOf.f k a) r ∧ Can 18446744073709551616 r a ∧ r.length ≤ 1 := by
 obtain ⟨r, he, hc, hl⟩ := nattrim_ev 18446744073709551616 (l := [a]) (n := a) (by simp) ⟨Dig_one h0 h1, by simp [V]⟩
 exact ⟨r, Ev.bind (g := fun _ t => some t) he (Ev.pure _), hc, hl⟩
theorem whole_ev {a : Int} (h0 : 0 ≤ a) (h1 : a < 9223372036854775808) : ∃ r, Ev (fun k => r00Whole.f k a) (false, r, 0) ∧ Can 18446744073709551616 r a ∧ r.length ≤ 1 := by
 obtain ⟨r, he, hc, hl⟩ := natof_ev h0 (show a < 18446744073709551616 by omega)
 refine ⟨r, Ev.congr (Ev.bind (g := fun _ t => some (false, t, 0)) he (Ev.pure _)) fun k => ?_, hc, hl⟩
 unfold r00Whole.f
 rw [if_neg (by omega), u64 h0 (by omega)]
theorem bits_loop : ∀ (m : Nat) (c x : Int), 0 ≤ x → x < 2 ^ m → m ≤ 64 → 0 ≤ c → c + m < 1099511627776 → Ev (fun k => r00NatBits.l0 k c x) (c + bitLen x.toNat)
 | 0, c, x, h0, h1, hm, hc0, hc => by
  have : x = 0 := by simp at h1; omega
  subst this
  refine Ev.succ (Ev.congr (Ev.pure _) fun k => ?_)
  rw [r00NatBits.l0, if_neg (by omega)]
  simp [bitLen]
 | m + 1, c, x, h0, h1, hm, hc0, hc => by
  by_cases hx : x = 0
  ·subst hx
   refine Ev.succ (Ev.congr (Ev.pure _) fun k => ?_)
   rw [r00NatBits.l0, if_neg (by omega)]
   simp [bitLen]
  ·have h64 : (2 : Int) ^ (m + 1) ≤ 18446744073709551616 := pow_le' (B := 2) (by omega) hm
   have hlt : x / 2 < 2 ^ m := by rw [Int.pow_succ] at h1; omega
   have hb : bitLen x.toNat = bitLen (x / 2).toNat + 1 := by
    have e2 : (x / 2).toNat = x.toNat / 2 ^ 1 := by omega
    by_cases h2 : x.toNat / 2 ^ 1 = 0
    ·have : x = 1 := by omega
     subst this
     decide
    ·rw [e2, bitLen_shift x.toNat 1 h2]; omega
   have h := bits_loop m (c + 1) (x / 2) (by omega) hlt (by omega) (by omega) (by omega)
   refine Ev.succ (Ev.congr (r := c + bitLen x.toNat) (g := fun k => r00NatBits.l0 k (c + 1) (x / 2)) (by rwa [show c + 1 + (bitLen (x / 2).toNat : Int) = c + (bitLen x.toNat : Int) by rw [hb]; omega] at h) fun k => ?_)
   rw [r00NatBits.l0, if_pos (by omega), w64 (by omega) (by omega), Int.tdiv_eq_ediv_of_nonneg h0, u64 (by omega) (by omega)]
end Go.Proofs.Ytbmddlldadbfnaa.BM
end
section
namespace Go.Proofs.Ytbmddlldadbfnaa.BM
open Go.RowKit Go.Proofs.YtbmddlldadbfnaaW.PrintWords Go.Proofs.YtbmddlldadbfnaaW.PrintLast Go.Proofs.YtbmddlldadbfnaaW.PrintMore
open Go.Proofs.Ytbmddlldadbfnaa.BB
def bitsOf (l : List Int) : Int := if l = [] then 0 else 64 * ((l.length : Int) - 1) + bitLen (rd l ((l.length : Int) - 1)).toNat
theorem natbits_ev {l : List Int} {n : Int} (h : Can 18446744073709551616 l n) (hb : l.length < 1073741824) : Ev (fun k => r00NatBits.f k l) (bitsOf l) := by
 refine Ev.bind (g := fun k (t134 : List Int) => if (t134.length : Int) = 0 then some 0 else (if 0 ≤ (wrap64 ((t134.length : Int) - 1)) then (if (wrap64 ((t134.length : Int) - 1)) < (t134.length : Int) then r00NatBits.l0 k (wrap64 (64 * (wrap64 ((t134.length : Int) - 1)))) (rd t134 (wrap64 ((t134.length : Int) - 1))) else none) else none)) (nattrim_can (by omega) h (by omega)) ?_
 by_cases hl : l = []
 ·subst hl; exact Ev.const (by simp [bitsOf])
 ·have h0 : 0 < l.length := List.length_pos_iff.2 hl
  have hr := rd_dig h.1.1 (i := (l.length : Int) - 1) (by omega) (by omega)
  have hlp := bits_loop 64 (64 * ((l.length : Int) - 1)) _ hr.1 hr.2 (by omega) (by omega) (by omega)
  refine Ev.congr (r := bitsOf l) (by unfold bitsOf; rw [if_neg hl]; exact hlp) fun k => ?_
  have c1 : ¬ (l.length : Int) = 0 := by omega
  have c2 : 0 ≤ (l.length : Int) - 1 := by omega
  have c3 : (l.length : Int) - 1 < (l.length : Int) := by omega
  rw [if_neg c1, w64 (n := (l.length : Int) - 1) (by omega) (by omega), if_pos c2, if_pos c3, w64 (by omega) (by omega)]
theorem bitsOf_zero {l : List Int} {n : Int} (h : Can 18446744073709551616 l n) : (bitsOf l == 0) = decide (l = []) := by
 unfold bitsOf
 by_cases hl : l = []
 ·simp [hl]
 ·have h0 : 0 < l.length := List.length_pos_iff.2 hl
  have hr := rd_dig h.1.1 (i := (l.length : Int) - 1) (by omega) (by omega)
  have ht := h.2 hl
  rw [getLast_rd] at ht
  have : bitLen (rd l ((l.length : Int) - 1)).toNat ≠ 0 := by unfold bitLen; rw [if_neg (by omega)]; omega
  rw [if_neg hl, decide_eq_false hl]
  exact beq_false_of_ne (by omega)
theorem bitsOf_le {l : List Int} {n : Int} (h : Can 18446744073709551616 l n) : 0 ≤ bitsOf l ∧ bitsOf l ≤ 64 * (l.length : Int) := by
 unfold bitsOf
 by_cases hl : l = []
 ·simp [hl]
 ·have h0 : 0 < l.length := List.length_pos_iff.2 hl
  have hr := rd_dig h.1.1 (i := (l.length : Int) - 1) (by omega) (by omega)
  have : bitLen (rd l ((l.length : Int) - 1)).toNat ≤ 64 := by
   unfold bitLen
   split
   ·omega
   ·rename_i hx
    have := (Nat.log2_lt hx).2 (show (rd l ((l.length : Int) - 1)).toNat < 2 ^ 64 by omega)
    omega
  rw [if_neg hl]; omega
theorem halves_step (k : Nat) (l p : List Int) (i : Nat) (hi : i < l.length) (hl : l.length < 1099511627776) (hp : p.length = 2 * i) :
  r00halves.l0 (k + 1) l p i = r00halves.l0 k l (p ++ [rd l i % 4294967296, rd l i / 4294967296]) ((i + 1 : Nat) : Int) ∨ ¬ (0 ≤ rd l i ∧ rd l i < 18446744073709551616) := by
 by_cases hr : 0 ≤ rd l i ∧ rd l i < 18446744073709551616
 ·left
  have e1 : Int.tmod (rd l i) 4294967296 = rd l i % 4294967296 := Int.tmod_eq_emod_of_nonneg hr.1
  have e2 : IntKind.u64.wrap (Int.tdiv (rd l i) 4294967296) = rd l i / 4294967296 := by rw [Int.tdiv_eq_ediv_of_nonneg hr.1]; exact u64 (by omega) (by omega)
  have e3 : wrap64 ((i : Int) + 1) = ((i + 1 : Nat) : Int) := by rw [w64 (by omega) (by omega)]; omega
  have c1 : p.length + [rd l i % 4294967296, rd l i / 4294967296].length < 17592186044416 := by simp; clear e1 e2 e3; omega
  rw [r00halves.l0, if_pos (Int.ofNat_lt.2 hi), if_pos (Int.natCast_nonneg _), e1, e2, e3]
  simp only [Option.bind_some]
  rw [if_pos c1]
 ·exact .inr hr
theorem pow_two_i (i : Nat) : (4294967296 : Int) ^ (2 * i) = 18446744073709551616 ^ i := by rw [Int.pow_mul]; rfl
theorem halves_loop {l : List Int} (hd : Dig 18446744073709551616 l) (hl : l.length < 1073741824) : ∀ (m i : Nat) (p : List Int), i + m = l.length → p.length = 2 * i → Dig 4294967296 p → V 4294967296 p = V 18446744073709551616 (l.take i) →
  ∃ r, Ev (fun k => r00halves.l0 k l p i) r ∧ Can 4294967296 r (V 18446744073709551616 l) ∧ r.length ≤ 2 * l.length := by
 intro m
 induction m with
 | zero =>
  intro i p hi hp hdp hv
  rw [List.take_of_length_le (by omega)] at hv
  obtain ⟨r, he, hc, hlen⟩ := low_ev 4294967296 (l := p) (n := V 18446744073709551616 l) (by omega) ⟨hdp, hv⟩
  refine ⟨r, Ev.succ (Ev.congr (Ev.bind (g := fun _ t => some t) he (Ev.pure _)) fun k => ?_), hc, by omega⟩
  rw [r00halves.l0, if_neg (by omega)]
 | succ m ih =>
  intro i p hi hp hdp hv
  have hr := rd_dig hd (i := (i : Int)) (by omega) (by omega)
  obtain ⟨r, he, hc, hlen⟩ := ih (i + 1) (p ++ [rd l i % 4294967296, rd l i / 4294967296]) (by omega) (by simp; omega)
   (Dig_append hdp (by intro a ha; simp at ha; rcases ha with rfl | rfl <;> omega))
   (by rw [V_append, hv, V_take _ _ (by omega), hp, pow_two_i]; simp only [V]; congr 2; omega)
  refine ⟨r, Ev.succ (Ev.congr he fun k => ?_), hc, hlen⟩
  rcases halves_step k l p i (by omega) (by omega) hp with h | h
  ·exact h
  ·exact absurd hr h
theorem halves_ev {l : List Int} {n : Int} (h : Num 18446744073709551616 l n) (hl : l.length < 1073741824) : ∃ r, Ev (fun k => r00halves.f k l) r ∧ Can 4294967296 r n ∧ r.length ≤ 2 * l.length := by
 obtain ⟨r, he, hc, hlen⟩ := halves_loop h.1 hl l.length 0 [] (by omega) rfl (Dig_nil _) (by simp [V])
 rw [h.2] at hc
 exact ⟨r, he, hc, hlen⟩
theorem limbs_step2 (k : Nat) (l p : List Int) (i : Nat) (d : Int) (hi : 2 * i < l.length) (hl : l.length < 1099511627776) (hp : p.length = i)
  (hd : (2 * i + 1 < l.length ∧ IntKind.u64.wrap (rd l ((2 * i : Nat) : Int) + IntKind.u64.wrap (4294967296 * rd l ((2 * i + 1 : Nat) : Int))) = d) ∨ (¬ 2 * i + 1 < l.length ∧ rd l ((2 * i : Nat) : Int) = d)) :
  r00limbs.l0 (k + 1) l p ((2 * i : Nat) : Int) = r00limbs.l0 k l (p ++ [d]) ((2 * (i + 1) : Nat) : Int) := by
 have e1 : wrap64 (((2 * i : Nat) : Int) + 1) = ((2 * i + 1 : Nat) : Int) := by rw [w64 (by omega) (by omega)]; omega
 have e2 : wrap64 (((2 * i : Nat) : Int) + 2) = ((2 * (i + 1) : Nat) : Int) := by rw [w64 (by omega) (by omega)]; omega
 have c1 : p.length < 17592186044416 := by clear e1 e2; omega
 rw [r00limbs.l0, if_pos (Int.ofNat_lt.2 hi), if_pos (Int.natCast_nonneg _), e1, e2]
 rcases hd with ⟨h1, h2⟩ | ⟨h1, h2⟩
 ·rw [if_pos (Int.ofNat_lt.2 h1), if_pos (Int.natCast_nonneg _), if_pos c1, h2]
 ·rw [if_neg (fun h => h1 (Int.ofNat_lt.1 h)), if_pos c1, h2]
theorem limbs2_loop {l : List Int} (hd : Dig 4294967296 l) (hl : l.length < 1073741824) : ∀ (m i : Nat) (p : List Int), l.length - 2 * i ≤ m → p.length = i → Dig 18446744073709551616 p → V 18446744073709551616 p = V 4294967296 (l.take (2 * i)) →
  i ≤ l.length → ∃ r, Ev (fun k => r00limbs.l0 k l p ((2 * i : Nat) : Int)) r ∧ Can 18446744073709551616 r (V 4294967296 l) ∧ r.length ≤ l.length := by
 intro m
 induction m with
 | zero =>
  intro i p hi hp hdp hv hil
  rw [List.take_of_length_le (by omega)] at hv
  obtain ⟨r, he, hc, hlen⟩ := nattrim_ev 18446744073709551616 (l := p) (n := V 4294967296 l) (by omega) ⟨hdp, hv⟩
  refine ⟨r, Ev.succ (Ev.congr (Ev.bind (g := fun _ t => some t) he (Ev.pure _)) fun k => ?_), hc, by omega⟩
  rw [r00limbs.l0, if_neg (by omega)]
 | succ m ih =>
  intro i p hi hp hdp hv hil
  by_cases hlt : 2 * i < l.length
  ·have hr := rd_dig hd (i := ((2 * i : Nat) : Int)) (by omega) (by omega)
   by_cases h1 : 2 * i + 1 < l.length
   ·have hr1 := rd_dig hd (i := ((2 * i + 1 : Nat) : Int)) (by omega) (by omega)
    obtain ⟨d, hdd⟩ : ∃ d, d = rd l ((2 * i : Nat) : Int) + 4294967296 * rd l ((2 * i + 1 : Nat) : Int) := ⟨_, rfl⟩
    obtain ⟨r, he, hc, hlen⟩ := ih (i + 1) (p ++ [d]) (by omega) (by simp; omega) (Dig_snoc hdp (by omega) (by omega))
     (by rw [V_snoc, hv, hp, show 2 * (i + 1) = 2 * i + 1 + 1 by omega, V_take _ _ h1, V_take _ _ hlt, Int.pow_succ, pow_two_i, hdd]; grind) (by omega)
    refine ⟨r, Ev.succ (Ev.congr he fun k => ?_), hc, hlen⟩
    exact limbs_step2 k l p i d hlt (by omega) hp (.inl ⟨h1, by rw [u64 (n := 4294967296 * rd l ((2 * i + 1 : Nat) : Int)) (by omega) (by omega), hdd]; exact u64 (by omega) (by omega)⟩)
   ·obtain ⟨r, he, hc, hlen⟩ := ih (i + 1) (p ++ [rd l ((2 * i : Nat) : Int)]) (by omega) (by simp; omega) (Dig_snoc hdp (by omega) (by omega))
     (by
      have e := V_take 4294967296 l hlt
      rw [List.take_of_length_le (i := 2 * i + 1) (by omega), pow_two_i] at e
      rw [V_snoc, hv, hp, List.take_of_length_le (i := 2 * (i + 1)) (by omega), e]) (by omega)
    refine ⟨r, Ev.succ (Ev.congr he fun k => ?_), hc, hlen⟩
    exact limbs_step2 k l p i _ hlt (by omega) hp (.inr ⟨h1, rfl⟩)
  ·exact ih i p (by omega) hp hdp hv hil
theorem limbs2_ev {l : List Int} {n : Int} (h : Num 4294967296 l n) (hl : l.length < 1073741824) : ∃ r, Ev (fun k => r00limbs.f k l) r ∧ Can 18446744073709551616 r n ∧ r.length ≤ l.length := by
 obtain ⟨r, he, hc, hlen⟩ := limbs2_loop h.1 hl l.length 0 [] (by omega) rfl (Dig_nil _) (by simp [V]) (by omega)
 rw [h.2] at hc
 exact ⟨r, he, hc, hlen⟩
theorem natup_loop {h : List Int} (hd : Dig 4294967296 h) (hl : h.length < 1000000000) : ∀ (m i : Nat), i + m = h.length →
  ∃ r, Ev (fun k => r00NatUp.l1 k h (h.take i) 0 1 i) r ∧ Can 18446744073709551616 r (V 4294967296 h) := by
 intro m
 induction m with
 | zero =>
  intro i hi
  obtain ⟨r, he, hc, hlen⟩ := limbs2_ev (l := h ++ [0]) (n := V 4294967296 h) ⟨Dig_snoc hd (by omega) (by omega), by rw [V_snoc]; simp⟩ (by simp; omega)
  refine ⟨r, Ev.succ (Ev.congr (Ev.bind (g := fun _ t => some t) he (Ev.pure _)) fun k => ?_), hc⟩
  rw [r00NatUp.l1, if_neg (by omega), List.take_of_length_le (by omega), if_pos (by omega)]
 | succ m ih =>
  intro i hi
  have hr := rd_dig hd (i := (i : Int)) (by omega) (by omega)
  obtain ⟨r, he, hc⟩ := ih (i + 1) (by omega)
  refine ⟨r, Ev.succ (Ev.congr he fun k => ?_), hc⟩
  have e1 : IntKind.u64.wrap (IntKind.u64.wrap (rd h (i : Int) * 1) + 0) = rd h (i : Int) := by rw [u64 (n := rd h (i : Int) * 1) (by omega) (by omega)]; rw [u64 (by omega) (by omega)]; omega
  have e2 : Int.tmod (rd h (i : Int)) 4294967296 = rd h (i : Int) := by rw [Int.tmod_eq_emod_of_nonneg hr.1]; omega
  have e3 : IntKind.u64.wrap (Int.tdiv (rd h (i : Int)) 4294967296) = 0 := by rw [Int.tdiv_eq_ediv_of_nonneg hr.1, u64m]; omega
  have e4 : wrap64 ((i : Int) + 1) = ((i + 1 : Nat) : Int) := by rw [w64 (by omega) (by omega)]; omega
  have c1 : (h.take i).length < 17592186044416 := by rw [List.length_take]; clear e1 e2 e3 e4; omega
  have c2 : i < h.length := by clear e1 e2 e3 e4; omega
  rw [r00NatUp.l1, if_pos (Int.ofNat_lt.2 c2), if_pos (Int.natCast_nonneg _), if_pos c1, e1, e2, e3, e4, ← take_rd h c2]
theorem natup_ev {l : List Int} {n : Int} (h : Can 18446744073709551616 l n) (hl : l.length < 268435456) : Ev (fun k => r00NatUp.f k l 0) l := by
 obtain ⟨hh, he, hc, hlen⟩ := halves_ev h.1 (by omega)
 refine Ev.bind (g := fun k (t169 : List Int) => (if (t169.length : Int) = 0 then some ([] : List Int) else (if 0 ≤ (wrap64 (Int.tdiv 0 32)) then (if (wrap64 (Int.tdiv 0 32) : Int).toNat ≤ 35184372088832 then r00NatUp.l0 k 0 t169 (List.replicate (wrap64 (Int.tdiv 0 32) : Int).toNat 0) 0 1 0 else none) else none))) he ?_
 by_cases h0 : hh = []
 ·subst h0
  have : n = 0 := by rw [← hc.1.2]; rfl
  subst this
  rw [Can_zero (by omega) h]
  exact Ev.const (by simp)
 ·obtain ⟨r, hr, hcr⟩ := natup_loop hc.1.1 (by omega) hh.length 0 (by omega)
  rw [hc.1.2] at hcr
  rw [Can_unique (by omega) hcr h] at hr
  refine Ev.congr (Ev.succ (f := fun k => r00NatUp.l0 k 0 hh [] 0 1 0) (Ev.congr hr fun k => ?_)) fun k => ?_
  ·show r00NatUp.l0 (k + 1) 0 hh [] 0 1 0 = _
   rw [r00NatUp.l0, if_neg (by decide)]
   rfl
  ·have : ¬ (hh.length : Int) = 0 := by have := List.length_pos_iff.2 h0; omega
   have e : wrap64 (Int.tdiv 0 32) = 0 := by rw [show Int.tdiv 0 32 = 0 from rfl]; exact w64 (by omega) (by omega)
   rw [if_neg this, e, if_pos (Int.le_refl _), if_pos (by decide)]
   rfl
end Go.Proofs.Ytbmddlldadbfnaa.BM
end
section
namespace Go.Proofs.Ytbmddlldadbfnaa.BM
open Go.RowKit Go.Proofs.YtbmddlldadbfnaaW.PrintWords Go.Proofs.YtbmddlldadbfnaaW.PrintLast Go.Proofs.YtbmddlldadbfnaaW.PrintMore
open Go.Proofs.Ytbmddlldadbfnaa.BB
def dg (l : List Int) (i : Nat) : Int := if i < l.length then rd l i else 0
theorem digit_f (l : List Int) (i : Nat) : r00digit.f l i = some (dg l i) := by
 unfold r00digit.f dg
 by_cases h : i < l.length
 ·rw [if_pos (Int.ofNat_lt.2 h), if_pos (Int.natCast_nonneg _), if_pos h]
 ·rw [if_neg (fun h' => h (Int.ofNat_lt.1 h')), if_neg h]
theorem dg_range {B : Int} (hB : 0 < B) {l : List Int} (h : Dig B l) (i : Nat) : 0 ≤ dg l i ∧ dg l i < B := by
 unfold dg
 split
 ·exact rd_dig h (by omega) (by omega)
 ·omega
theorem V_dg (B : Int) (l : List Int) (i : Nat) : V B (l.take (i + 1)) = V B (l.take i) + B ^ i * dg l i := by
 unfold dg
 split
 ·rename_i h; exact V_take B l h
 ·rw [List.take_of_length_le (by omega), List.take_of_length_le (by omega)]; omega
theorem add_alg (B P vp c va vb d c2 x y : Int) (h : vp + P * c = va + vb) (h2 : x + y + c = d + B * c2) : vp + P * d + P * B * c2 = va + P * x + (vb + P * y) := by
 rw [show vp + P * d + P * B * c2 = vp + P * (d + B * c2) by grind, ← h2, show vp + P * (x + y + c) = (vp + P * c) + P * x + P * y by grind, h]; omega
theorem add_step (k : Nat) (a b p : List Int) (c : Int) (i : Nat) (s : Int) (hc : (i : Int) < (a.length : Int) ∨ (i : Int) < (b.length : Int) ∨ c > 0) (hp : p.length < 17592186044416) (hi : i < 1099511627776)
  (hs : IntKind.u64.wrap (IntKind.u64.wrap (dg a i + dg b i) + c) = s) :
  r00NatAdd.l0 (k + 1 + 1) a b p c i = r00NatAdd.l0 k a b (p ++ [Int.tmod s 4294967296]) (IntKind.u64.wrap (Int.tdiv s 4294967296)) ((i + 1 : Nat) : Int) := by
 have e : wrap64 ((i : Int) + 1) = ((i + 1 : Nat) : Int) := by rw [w64 (by omega) (by omega)]; omega
 have hj : r00NatAdd.l0 (k + 1 + 1) a b p c i = r00NatAdd.j1 (k + 1) a b p c i true := by
  rw [r00NatAdd.l0]
  by_cases h1 : (i : Int) < (a.length : Int)
  ·rw [if_pos h1]
  ·rw [if_neg h1]
   by_cases h2 : (i : Int) < (b.length : Int)
   ·rw [if_pos h2]
   ·have h3 : c > 0 := by rcases hc with h | h | h <;> first | exact absurd h h1 | exact absurd h h2 | exact h
    rw [if_neg h2, decide_eq_true h3]
 rw [hj, r00NatAdd.j1, if_pos rfl, digit_f, digit_f]
 simp only [Option.bind_some]
 rw [if_pos hp, hs, e]
theorem add_loop {a b : List Int} (ha : Dig 4294967296 a) (hb : Dig 4294967296 b) (hla : a.length < 100000000) (hlb : b.length < 100000000) : ∀ (m i : Nat) (p : List Int) (c : Int),
  i + m = max a.length b.length + 1 → p.length = i → Dig 4294967296 p → 0 ≤ c → c ≤ 1 → (m = 0 → c = 0) → V 4294967296 p + 4294967296 ^ i * c = V 4294967296 (a.take i) + V 4294967296 (b.take i) →
  ∃ r, Ev (fun k => r00NatAdd.l0 k a b p c i) r ∧ Can 18446744073709551616 r (V 4294967296 a + V 4294967296 b) := by
 have fin : ∀ (i : Nat) (p : List Int) (c : Int), a.length ≤ i → b.length ≤ i → i ≤ max a.length b.length + 1 → p.length = i → Dig 4294967296 p → c = 0 → V 4294967296 p + 4294967296 ^ i * c = V 4294967296 (a.take i) + V 4294967296 (b.take i) →
   ∃ r, Ev (fun k => r00NatAdd.l0 k a b p c i) r ∧ Can 18446744073709551616 r (V 4294967296 a + V 4294967296 b) := by
  intro i p c hai hbi hi hp hd hc hv
  subst hc
  rw [List.take_of_length_le hai, List.take_of_length_le hbi, Int.mul_zero, Int.add_zero] at hv
  obtain ⟨r, he, hcan, hlen⟩ := limbs2_ev (l := p) ⟨hd, hv⟩ (by omega)
  refine ⟨r, Ev.succ (Ev.succ (Ev.congr (Ev.bind (g := fun _ t => some t) he (Ev.pure _)) fun k => ?_)), hcan⟩
  rw [r00NatAdd.l0, if_neg (by omega), if_neg (by omega), r00NatAdd.j1, if_neg (by decide)]
 intro m
 induction m with
 | zero =>
  intro i p c hi hp hd hc0 hc1 hm hv
  exact fin i p c (by omega) (by omega) (by omega) hp hd (hm rfl) hv
 | succ m ih =>
  intro i p c hi hp hd hc0 hc1 hm hv
  by_cases hgo : i < a.length ∨ i < b.length ∨ c > 0
  ·have ra := dg_range (by omega) ha i
   have rb := dg_range (by omega) hb i
   obtain ⟨s, hs⟩ : ∃ s, s = dg a i + dg b i + c := ⟨_, rfl⟩
   have hlast : m = 0 → s / 4294967296 = 0 := by
    intro hm0
    have e1 : dg a i = 0 := by unfold dg; rw [if_neg (by omega)]
    have e2 : dg b i = 0 := by unfold dg; rw [if_neg (by omega)]
    omega
   obtain ⟨r, he, hcan⟩ := ih (i + 1) (p ++ [s % 4294967296]) (s / 4294967296) (by omega) (by simp; omega) (Dig_snoc hd (by omega) (by omega)) (by omega) (by omega) hlast (by
    rw [V_snoc, hp, V_dg, V_dg, Int.pow_succ]
    exact add_alg 4294967296 (4294967296 ^ i) _ c _ _ _ _ _ _ hv (by omega))
   refine ⟨r, Ev.succ (Ev.succ (Ev.congr he fun k => ?_)), hcan⟩
   have hw : IntKind.u64.wrap (IntKind.u64.wrap (dg a i + dg b i) + c) = s := by rw [u64 (n := dg a i + dg b i) (by omega) (by omega), hs]; exact u64 (by omega) (by omega)
   have := add_step k a b p c i s (hgo.elim (fun h => .inl (Int.ofNat_lt.2 h)) (fun h => .inr (h.elim (fun h => .inl (Int.ofNat_lt.2 h)) .inr))) (by clear hw; omega) (by clear hw; omega) hw
   rw [this, Int.tmod_eq_emod_of_nonneg (by clear hw this; omega), Int.tdiv_eq_ediv_of_nonneg (by clear hw this; omega), u64 (by clear hw this; omega) (by clear hw this; omega)]
  ·exact fin i p c (by omega) (by omega) (by omega) hp hd (by omega) hv
theorem natadd_ev {a b : List Int} {x y : Int} (ha : Num 18446744073709551616 a x) (hb : Num 18446744073709551616 b y) (hla : a.length < 10000000) (hlb : b.length < 10000000) :
  ∃ r, Ev (fun k => r00NatAdd.f k a b) r ∧ Can 18446744073709551616 r (x + y) := by
 obtain ⟨p, hp, hcp, hlp⟩ := halves_ev ha (by omega)
 obtain ⟨q, hq, hcq, hlq⟩ := halves_ev hb (by omega)
 obtain ⟨r, hr, hcr⟩ := add_loop hcp.1.1 hcq.1.1 (by omega) (by omega) (max p.length q.length + 1) 0 [] 0 (by omega) rfl (Dig_nil _) (by omega) (by omega) (by omega) (by simp [V])
 rw [hcp.1.2, hcq.1.2] at hcr
 exact ⟨r, Ev.bind (g := fun k t232 => (r00halves.f k b).bind fun t235 => r00NatAdd.l0 k t232 t235 ([] : List Int) 0 0) hp (Ev.bind (g := fun k t235 => r00NatAdd.l0 k p t235 ([] : List Int) 0 0) hq hr), hcr⟩
theorem V_set (B : Int) (d : Int) : ∀ (l : List Int) (i : Nat), i < l.length → V B (l.set i d) = V B l + B ^ i * (d - rd l i)
 | [], i, h => by simp at h
 | a :: l, 0, _ => by
  have : rd (a :: l) ((0 : Nat) : Int) = a := rfl
  rw [this]; simp [V]; omega
 | a :: l, i + 1, h => by
  have hi : i < l.length := by simpa using h
  have : rd (a :: l) ((i + 1 : Nat) : Int) = rd l (i : Int) := by rw [rd_nat _ h, rd_nat _ hi]; rfl
  rw [this, List.set_cons_succ, V, V, V_set B d l i hi, Int.pow_succ]
  grind
theorem rd_set (l : List Int) (i t : Nat) (d : Int) (hi : i < l.length) : rd (l.set i d) (t : Int) = if t = i then d else rd l (t : Int) := by
 unfold rd
 simp only [List.getD_eq_getElem?_getD, Int.toNat_natCast, List.getElem?_set]
 by_cases h : i = t
 ·subst h; simp [hi]
 ·rw [if_neg h, if_neg (fun h' => h h'.symm)]
theorem Dig_set {B d : Int} {l : List Int} (h : Dig B l) (i : Nat) (h0 : 0 ≤ d) (h1 : d < B) : Dig B (l.set i d) := by
 intro a ha
 rcases List.mem_or_eq_of_mem_set ha with h' | h'
 ·exact h a h'
 ·subst h'; exact ⟨h0, h1⟩
theorem prod_step (k : Nat) (a b buf : List Int) (i j : Nat) (c s : Int) (hj : j < b.length) (hi : i < a.length) (hij : i + j < buf.length) (hb : buf.length < 1099511627776)
  (hs : IntKind.u64.wrap (IntKind.u64.wrap (IntKind.u64.wrap (rd a i * rd b j) + rd buf ((i + j : Nat) : Int)) + c) = s) :
  r00product.l1 (k + 1) a b buf i c j = r00product.l1 k a b (buf.set (i + j) (Int.tmod s 4294967296)) i (IntKind.u64.wrap (Int.tdiv s 4294967296)) ((j + 1 : Nat) : Int) := by
 have e1 : wrap64 ((i : Int) + (j : Int)) = ((i + j : Nat) : Int) := by rw [w64 (by omega) (by omega)]; omega
 have e2 : wrap64 ((j : Int) + 1) = ((j + 1 : Nat) : Int) := by rw [w64 (by omega) (by omega)]; omega
 rw [r00product.l1, if_pos (Int.ofNat_lt.2 hj), if_pos (Int.natCast_nonneg _), if_pos (Int.ofNat_lt.2 hi), if_pos (Int.natCast_nonneg _), e1, if_pos (Int.natCast_nonneg _), if_pos (Int.ofNat_lt.2 hij), hs, e2, Int.toNat_natCast]
theorem prod_end (k : Nat) (a b buf : List Int) (i : Nat) (c : Int) (hij : i + b.length < buf.length) (hb : buf.length < 1099511627776) :
  r00product.l1 (k + 1) a b buf i c b.length = r00product.l0 k a b (buf.set (i + b.length) c) ((i + 1 : Nat) : Int) := by
 have e1 : wrap64 ((i : Int) + (b.length : Int)) = ((i + b.length : Nat) : Int) := by rw [w64 (by omega) (by omega)]; omega
 have e2 : wrap64 ((i : Int) + 1) = ((i + 1 : Nat) : Int) := by rw [w64 (by omega) (by omega)]; omega
 rw [r00product.l1, if_neg (Int.lt_irrefl _), e1, if_pos (Int.natCast_nonneg _), if_pos (Int.ofNat_lt.2 hij), e2, Int.toNat_natCast]
theorem prod_alg (B P Q vb vb0 v c x y z d c2 : Int) (h : vb + P * Q * c = vb0 + P * (x * v)) (h2 : x * y + z + c = d + B * c2) : vb + P * Q * (d - z) + P * Q * B * c2 = vb0 + P * (x * (v + Q * y)) := by
 rw [show vb + P * Q * (d - z) + P * Q * B * c2 = vb + P * Q * (d + B * c2) - P * Q * z by grind, ← h2, show vb + P * Q * (x * y + z + c) - P * Q * z = (vb + P * Q * c) + P * Q * x * y by grind, h]
 grind
theorem prod_in {a b : List Int} (ha : Dig 4294967296 a) (hb : Dig 4294967296 b) (hla : a.length < 100000000) (hlb : b.length < 100000000) (i : Nat) (hi : i < a.length) (buf0 : List Int) (hz : ∀ t, i + b.length ≤ t → rd buf0 ((t : Nat) : Int) = 0)
  (Q : List Int → Prop) (H : ∀ buf, buf.length = a.length + b.length → Dig 4294967296 buf → V 4294967296 buf = V 4294967296 buf0 + 4294967296 ^ i * (rd a i * V 4294967296 b) → (∀ t, i + 1 + b.length ≤ t → rd buf ((t : Nat) : Int) = 0) →
   ∃ r, Ev (fun k => r00product.l0 k a b buf ((i + 1 : Nat) : Int)) r ∧ Q r) :
  ∀ (m j : Nat) (buf : List Int) (c : Int), j + m = b.length → buf.length = a.length + b.length → Dig 4294967296 buf → 0 ≤ c → c < 4294967296 →
   V 4294967296 buf + 4294967296 ^ i * 4294967296 ^ j * c = V 4294967296 buf0 + 4294967296 ^ i * (rd a i * V 4294967296 (b.take j)) → (∀ t, i + j ≤ t → rd buf ((t : Nat) : Int) = rd buf0 ((t : Nat) : Int)) →
   ∃ r, Ev (fun k => r00product.l1 k a b buf i c j) r ∧ Q r := by
 intro m
 induction m with
 | zero =>
  intro j buf c hj hl hd hc0 hc1 hv ht
  have : j = b.length := by omega
  subst this
  rw [List.take_length] at hv
  have h0 : rd buf ((i + b.length : Nat) : Int) = 0 := by rw [ht _ (Nat.le_refl _)]; exact hz _ (Nat.le_refl _)
  obtain ⟨r, he, hq⟩ := H (buf.set (i + b.length) c) (by rw [List.length_set]; exact hl) (Dig_set hd _ hc0 hc1)
   (by rw [V_set _ _ _ _ (by omega), h0, Int.sub_zero, Int.pow_add]; exact hv)
   (fun t ht' => by rw [rd_set _ _ _ _ (by omega), if_neg (by omega), ht t (by omega)]; exact hz t (by omega))
  exact ⟨r, Ev.succ (Ev.congr he fun k => prod_end k a b buf i c (by omega) (by omega)), hq⟩
 | succ m ih =>
  intro j buf c hj hl hd hc0 hc1 hv ht
  have ra := rd_dig ha (i := (i : Int)) (by omega) (by omega)
  have rb := rd_dig hb (i := (j : Int)) (by omega) (by omega)
  have rz := rd_dig hd (i := ((i + j : Nat) : Int)) (by omega) (by omega)
  have hP0 := Int.mul_nonneg ra.1 rb.1
  have hP1 : rd a i * rd b j ≤ 18446744065119617025 := by
   have := Int.mul_le_mul (show rd a (i : Int) ≤ 4294967295 by omega) (show rd b (j : Int) ≤ 4294967295 by omega) rb.1 (by omega)
   simpa using this
  obtain ⟨s, hs⟩ : ∃ s, s = rd a i * rd b j + rd buf ((i + j : Nat) : Int) + c := ⟨_, rfl⟩
  have hs0 : 0 ≤ s := by omega
  have hs1 : s < 18446744073709551616 := by omega
  have hc2 : s / 4294967296 < 4294967296 := by omega
  have hv2 : V 4294967296 (buf.set (i + j) (s % 4294967296)) + 4294967296 ^ i * 4294967296 ^ (j + 1) * (s / 4294967296) = V 4294967296 buf0 + 4294967296 ^ i * (rd a i * V 4294967296 (b.take (j + 1))) := by
   rw [V_set _ _ _ _ (by omega), V_take _ _ (by omega), Int.pow_add, Int.pow_succ, ← Int.mul_assoc]
   exact prod_alg 4294967296 (4294967296 ^ i) (4294967296 ^ j) _ _ _ c _ _ _ _ _ hv (by omega)
  obtain ⟨r, he, hq⟩ := ih (j + 1) (buf.set (i + j) (s % 4294967296)) (s / 4294967296) (by omega) (by rw [List.length_set]; exact hl) (Dig_set hd _ (by omega) (by omega)) (by omega) hc2 hv2
   (fun t ht' => by rw [rd_set _ _ _ _ (by omega), if_neg (by omega)]; exact ht t (by omega))
  refine ⟨r, Ev.succ (Ev.congr he fun k => ?_), hq⟩
  have hw : IntKind.u64.wrap (IntKind.u64.wrap (IntKind.u64.wrap (rd a i * rd b j) + rd buf ((i + j : Nat) : Int)) + c) = s := by
   rw [u64 (n := rd a i * rd b j) hP0 (by omega), u64 (n := rd a i * rd b j + rd buf ((i + j : Nat) : Int)) (by omega) (by omega), ← hs]
   exact u64 hs0 hs1
  have ht' : Int.tmod s 4294967296 = s % 4294967296 := Int.tmod_eq_emod_of_nonneg hs0
  have ht2 : IntKind.u64.wrap (Int.tdiv s 4294967296) = s / 4294967296 := by rw [Int.tdiv_eq_ediv_of_nonneg hs0]; exact u64 (Int.ediv_nonneg hs0 (by decide)) (Int.lt_trans hc2 (by decide))
  rw [prod_step k a b buf i j c s (by clear hw ht' ht2; omega) hi (by clear hw ht' ht2; omega) (by clear hw ht' ht2; omega) hw, ht', ht2]
theorem prod_out {a b : List Int} (ha : Dig 4294967296 a) (hb : Dig 4294967296 b) (hla : a.length < 100000000) (hlb : b.length < 100000000) : ∀ (m i : Nat) (buf : List Int), i + m = a.length → buf.length = a.length + b.length → Dig 4294967296 buf →
  V 4294967296 buf = V 4294967296 (a.take i) * V 4294967296 b → (∀ t, i + b.length ≤ t → rd buf ((t : Nat) : Int) = 0) →
  ∃ r, Ev (fun k => r00product.l0 k a b buf i) r ∧ (Can 4294967296 r (V 4294967296 a * V 4294967296 b) ∧ r.length ≤ a.length + b.length) := by
 intro m
 induction m with
 | zero =>
  intro i buf hi hl hd hv hz
  rw [List.take_of_length_le (by omega)] at hv
  obtain ⟨r, he, hc, hlen⟩ := low_ev 4294967296 (l := buf) (by omega) ⟨hd, hv⟩
  refine ⟨r, Ev.succ (Ev.congr (Ev.bind (g := fun _ t => some t) he (Ev.pure _)) fun k => ?_), hc, by omega⟩
  rw [r00product.l0, if_neg (by omega)]
 | succ m ih =>
  intro i buf hi hl hd hv hz
  obtain ⟨r, he, hq⟩ := prod_in ha hb hla hlb i (by omega) buf hz (fun r => Can 4294967296 r (V 4294967296 a * V 4294967296 b) ∧ r.length ≤ a.length + b.length)
   (fun buf2 hl2 hd2 hv2 hz2 => ih (i + 1) buf2 (by omega) hl2 hd2 (by rw [hv2, hv, V_take _ _ (by omega)]; grind) hz2)
   b.length 0 buf 0 (by omega) hl hd (by omega) (by omega) (by simp [V]) (fun _ _ => rfl)
  refine ⟨r, Ev.succ (Ev.congr he fun k => ?_), hq⟩
  rw [r00product.l0, if_pos (by omega)]
  rfl
theorem product_ev {a b : List Int} {x y : Int} (ha : Num 4294967296 a x) (hb : Num 4294967296 b y) (hla : a.length < 100000000) (hlb : b.length < 100000000) :
  ∃ r, Ev (fun k => r00product.f k a b) r ∧ Can 4294967296 r (x * y) ∧ r.length ≤ a.length + b.length := by
 obtain ⟨r, he, hc⟩ := prod_out ha.1 hb.1 hla hlb a.length 0 (List.replicate (a.length + b.length) 0) (by omega) (by simp) (Dig_zeros (by omega) _) (by simp [V, V_zeros]) (fun t _ => by unfold rd; simp [List.getD_eq_getElem?_getD, List.getElem?_replicate]; split <;> rfl)
 rw [ha.2, hb.2] at hc
 refine ⟨r, Ev.congr he fun k => ?_, hc⟩
 have e : wrap64 ((a.length : Int) + (b.length : Int)) = ((a.length + b.length : Nat) : Int) := by rw [w64 (by omega) (by omega)]; omega
 have c1 : a.length + b.length ≤ 35184372088832 := by clear e; omega
 unfold r00product.f
 rw [e, if_pos (Int.natCast_nonneg _), Int.toNat_natCast, if_pos c1]
 rfl
theorem natmul_ev {a b : List Int} {x y : Int} (ha : Num 18446744073709551616 a x) (hb : Num 18446744073709551616 b y) (hla : a.length < 10000000) (hlb : b.length < 10000000) :
  ∃ r, Ev (fun k => r00NatMul.f k a b) r ∧ Can 18446744073709551616 r (x * y) := by
 obtain ⟨p, hp, hcp, hlp⟩ := halves_ev ha (by omega)
 obtain ⟨q, hq, hcq, hlq⟩ := halves_ev hb (by omega)
 obtain ⟨t, ht, hct, hlt⟩ := product_ev hcp.1 hcq.1 (by omega) (by omega)
 obtain ⟨r, hr, hcr, _⟩ := limbs2_ev hct.1 (by omega)
 exact ⟨r, Ev.bind (g := fun k t268 => (r00halves.f k b).bind fun t271 => (r00product.f k t268 t271).bind fun t274 => (r00limbs.f k t274).bind fun t277 => some t277) hp
  (Ev.bind (g := fun k t271 => (r00product.f k p t271).bind fun t274 => (r00limbs.f k t274).bind fun t277 => some t277) hq
   (Ev.bind (g := fun k t274 => (r00limbs.f k t274).bind fun t277 => some t277) ht (Ev.bind (g := fun _ t277 => some t277) hr (Ev.pure _)))), hcr⟩
end Go.Proofs.Ytbmddlldadbfnaa.BM
end
section
namespace Go.Proofs.Ytbmddlldadbfnaa.BM
open Go.RowKit Go.Proofs.YtbmddlldadbfnaaW.PrintWords Go.Proofs.YtbmddlldadbfnaaW.PrintLast Go.Proofs.YtbmddlldadbfnaaW.PrintMore
open Go.Proofs.Ytbmddlldadbfnaa.BA
theorem trim_ev (B : Int) : ∀ (m : Nat) {l : List Int} {n : Int}, l.length = m → m < 4611686018427387904 → Num B l n →
  ∃ r, Ev (fun k => big_trim.f k l) r ∧ Can B r n ∧ r.length ≤ m
 | 0, l, n, hm, _, hn => by
  have : l = [] := List.eq_nil_of_length_eq_zero hm
  subst this
  refine ⟨[], Ev.succ (Ev.congr (Ev.pure _) fun k => ?_), ⟨hn, fun h => absurd rfl h⟩, by simp⟩
  simp [big_trim.f, big_trim.l0]
 | m + 1, l, n, hm, hb, hn => by
  have e : wrap64 ((l.length : Int) - 1) = ((m : Nat) : Int) := by rw [w64 (by omega) (by omega)]; omega
  by_cases h0 : rd l ((m : Nat) : Int) = 0
  ·obtain ⟨r, he, hc, hl⟩ := trim_ev B m (l := l.take m) (n := n) (by rw [List.length_take]; omega) (by omega)
    ⟨Dig_take hn.1 m, by rw [V_take_zero B l (by omega) h0, show m + 1 = l.length by omega, List.take_length]; exact hn.2⟩
   refine ⟨r, Ev.succ (Ev.congr he fun k => ?_), hc, by omega⟩
   show big_trim.l0 (k + 1) l = big_trim.l0 k _
   rw [big_trim.l0, e, if_pos (by omega), if_pos (by omega), if_pos (by omega), if_pos h0, if_pos (by omega)]
   simp
  ·refine ⟨l, Ev.succ (Ev.congr (Ev.pure _) fun k => ?_), ⟨hn, ?_⟩, by omega⟩
   ·show big_trim.l0 (k + 1) l = _
    rw [big_trim.l0, e, if_pos (by omega), if_pos (by omega), if_pos (by omega), if_neg h0]
   ·have := Top_take (l := l) (i := m) (by omega) h0
    rwa [show m + 1 = l.length by omega, List.take_length] at this
theorem trim_can {B : Int} (hB : 1 < B) {l : List Int} {n : Int} (h : Can B l n) (hl : l.length < 4611686018427387904) : Ev (fun k => big_trim.f k l) l := by
 obtain ⟨r, he, hc, _⟩ := trim_ev B l.length rfl hl h.1
 rwa [Can_unique hB hc h] at he
theorem mul64 {a b : Int} (ha0 : 0 ≤ a) (ha : a < 18446744073709551616) (hb0 : 0 ≤ b) (hb : b < 18446744073709551616) : bits_Mul64.f a b = some (a * b / 18446744073709551616, a * b % 18446744073709551616) := by
 unfold bits_Mul64.f
 have := mul64_arith a b ha0 ha hb0 hb
 simp only [u64m]
 rw [and_low32 a ha0 ha, and_low32 b hb0 hb, and_low32 _ (Int.emod_nonneg _ (by omega)) (Int.emod_lt_of_pos _ (by omega)), this]
theorem add64 {a b c : Int} (ha0 : 0 ≤ a) (hb0 : 0 ≤ b) (hc0 : 0 ≤ c) (hc : c ≤ 1) : bits_Add64.f a b c = some ((a + b + c) % 18446744073709551616, (a + b + c) / 18446744073709551616) := by
 unfold bits_Add64.f
 rw [if_pos ⟨ha0, hb0, hc0, hc⟩]
theorem chunk_loop (b : Int) (hb : 2 ≤ b) (hb' : b ≤ 36) : ∀ (j e : Nat), 1 ≤ e → e + j = 64 → b ^ e < 18446744073709551616 →
  ∃ r : Nat, 1 ≤ r ∧ r ≤ 64 ∧ b ^ r < 18446744073709551616 ∧ 18446744073709551616 ≤ b ^ (r + 1) ∧ Ev (fun k => big_chunk.l0 k b (b ^ e) e) (b ^ r, (r : Int)) := by
 intro j
 induction j with
 | zero =>
  intro e he hj hlt
  exfalso
  have h1 := pow_mono (by omega) hb e
  have : e = 64 := by omega
  subst this
  have h2 : (2 : Int) ^ 64 = 18446744073709551616 := by decide
  omega
 | succ j ih =>
  intro e he hj hlt
  have hp := pow_pos' (show 0 < b by omega) e
  have hm := mul64 (a := b ^ e) (b := b) (by omega) hlt (by omega) (by omega)
  have hu : IntKind.u64.wrap b = b := u64 (by omega) (by omega)
  by_cases hz : b ^ e * b / 18446744073709551616 = 0
  ·have hlt2 : b ^ (e + 1) < 18446744073709551616 := by rw [Int.pow_succ]; omega
   have heq : b ^ e * b % 18446744073709551616 = b ^ (e + 1) := by
    rw [Int.pow_succ] at hlt2 ⊢
    exact Int.emod_eq_of_lt (by have := Int.mul_pos hp (show 0 < b by omega); omega) hlt2
   obtain ⟨r, h1, h2, h3, h4, h5⟩ := ih (e + 1) (by omega) (by omega) hlt2
   refine ⟨r, h1, h2, h3, h4, Ev.succ (Ev.congr h5 fun k => ?_)⟩
   rw [big_chunk.l0, hu, hm]
   simp only [Option.bind_some, hz, if_true, heq]
   rw [w64 (by omega) (by omega)]
   simp
  ·refine ⟨e, he, by omega, hlt, ?_, Ev.succ (Ev.congr (Ev.pure _) fun k => ?_)⟩
   ·rw [Int.pow_succ]; have := Int.mul_pos hp (show 0 < b by omega); omega
   ·rw [big_chunk.l0, hu, hm]
    simp only [Option.bind_some, hz, if_false]
theorem chunk_ev (b : Int) (hb : 2 ≤ b) (hb' : b ≤ 36) :
  ∃ r : Nat, 1 ≤ r ∧ r ≤ 64 ∧ b ^ r < 18446744073709551616 ∧ 18446744073709551616 ≤ b ^ (r + 1) ∧ Ev (fun k => big_chunk.f k b) (b ^ r, (r : Int)) := by
 obtain ⟨r, h1, h2, h3, h4, h5⟩ := chunk_loop b hb hb' 63 1 (by omega) (by omega) (by rw [Int.pow_one]; omega)
 refine ⟨r, h1, h2, h3, h4, Ev.congr h5 fun k => ?_⟩
 rw [big_chunk.f, u64 (show 0 ≤ b by omega) (show b < 18446744073709551616 by omega), Int.pow_one]; rfl
theorem plus_alg (B P vp c va vb d c2 x y : Int) (h : vp + P * c = va + vb) (h2 : x + y + c = d + B * c2) : vp + P * d + P * B * c2 = va + P * x + (vb + P * y) := by grind
theorem plusE_loop {a b : List Int} (hab : b.length ≤ a.length) (ha : Dig 18446744073709551616 a) (hb : Dig 18446744073709551616 b) (hl : a.length < 1099511627776) :
  ∀ (j i : Nat) (p : List Int) (c : Int), i + j = a.length → p.length = i → Dig 18446744073709551616 p → 0 ≤ c → c ≤ 1 →
   V 18446744073709551616 p + 18446744073709551616 ^ i * c = V 18446744073709551616 (a.take i) + V 18446744073709551616 (b.take i) →
   ∃ r, Ev (fun k => big_plus_E1.l0 k a b (p ++ List.replicate (j + 1) 0) c a a.length i) r ∧ Can 18446744073709551616 r (V 18446744073709551616 a + V 18446744073709551616 b) ∧ r.length ≤ a.length + 1 := by
 intro j
 induction j with
 | zero =>
  intro i p c hi hp hd hc0 hc1 hv
  have e1 : i = a.length := by omega
  rw [List.take_of_length_le (by omega), List.take_of_length_le (by omega)] at hv
  obtain ⟨r, he, hcan, hlen⟩ := trim_ev 18446744073709551616 (a.length + 1) (l := p ++ [c]) (n := V 18446744073709551616 a + V 18446744073709551616 b) (by simp; omega) (by omega)
   ⟨Dig_snoc hd hc0 (by omega), by rw [V_snoc, hp]; exact hv⟩
  refine ⟨r, Ev.succ (Ev.congr he fun k => ?_), hcan, hlen⟩
  rw [big_plus_E1.l0, if_neg (by omega), if_pos (by omega), if_pos (by simp; omega), show ((a.length : Int)).toNat = p.length by omega, set_pad]
  simp
 | succ j ih =>
  intro i p c hi hp hd hc0 hc1 hv
  have ra := rd_dig ha (i := (i : Int)) (by omega) (by omega)
  have stepEq : ∃ y, 0 ≤ y ∧ y < 18446744073709551616 ∧ V 18446744073709551616 (b.take (i + 1)) = V 18446744073709551616 (b.take i) + 18446744073709551616 ^ i * y ∧
    ((i : Int) < (b.length : Int) → rd b (i : Int) = y) ∧ (¬ (i : Int) < (b.length : Int) → y = 0) := by
   by_cases hib : i < b.length
   ·have rb := rd_dig hb (i := (i : Int)) (by omega) (by omega)
    exact ⟨rd b (i : Int), rb.1, rb.2, V_take 18446744073709551616 b hib, fun _ => rfl, fun h => absurd (by omega) h⟩
   ·refine ⟨0, by omega, by omega, ?_, fun h => absurd h (by omega), fun _ => rfl⟩
    rw [List.take_of_length_le (by omega), List.take_of_length_le (by omega)]; omega
  obtain ⟨y, y0, y1, hvb, hy1, hy2⟩ := stepEq
  have had := add64 (a := rd a (i : Int)) (b := y) (c := c) ra.1 y0 hc0 hc1
  generalize hs : rd a (i : Int) + y + c = s at had
  obtain ⟨r, he, hcan, hlen⟩ := ih (i + 1) (p ++ [s % 18446744073709551616]) (s / 18446744073709551616) (by omega) (by simp; omega) (Dig_snoc hd (by omega) (by omega)) (by omega) (by omega) (by
   rw [V_snoc, hp, V_take 18446744073709551616 a (by omega), hvb, Int.pow_succ]
   exact plus_alg 18446744073709551616 (18446744073709551616 ^ i) _ c _ _ _ _ _ _ hv (by omega))
  refine ⟨r, Ev.succ (Ev.congr he fun k => ?_), hcan, hlen⟩
  rw [big_plus_E1.l0, if_pos (by omega), if_pos (by omega), if_pos (by omega), w64 (by omega) (by omega)]
  by_cases hib : (i : Int) < (b.length : Int)
  ·rw [if_pos hib, hy1 hib, had]
   simp only [Option.bind_some]
   rw [if_pos (by simp; omega), show ((i : Nat) : Int).toNat = p.length by omega, set_pad]
   simp
  ·have := hy2 hib
   subst this
   rw [if_neg hib, had]
   simp only [Option.bind_some]
   rw [if_pos (by simp; omega), show ((i : Nat) : Int).toNat = p.length by omega, set_pad]
   simp
theorem plusT_loop {a b : List Int} (hab : b.length ≤ a.length) (ha : Dig 18446744073709551616 a) (hb : Dig 18446744073709551616 b) (hl : a.length < 1099511627776) :
  ∀ (j i : Nat) (p : List Int) (c : Int), i + j = a.length → p.length = i → Dig 18446744073709551616 p → 0 ≤ c → c ≤ 1 →
   V 18446744073709551616 p + 18446744073709551616 ^ i * c = V 18446744073709551616 (a.take i) + V 18446744073709551616 (b.take i) →
   ∃ r, Ev (fun k => big_plus_T1.l0 k a b (p ++ List.replicate (j + 1) 0) c a a.length i) r ∧ Can 18446744073709551616 r (V 18446744073709551616 a + V 18446744073709551616 b) ∧ r.length ≤ a.length + 1 := by
 intro j
 induction j with
 | zero =>
  intro i p c hi hp hd hc0 hc1 hv
  have e1 : i = a.length := by omega
  rw [List.take_of_length_le (by omega), List.take_of_length_le (by omega)] at hv
  obtain ⟨r, he, hcan, hlen⟩ := trim_ev 18446744073709551616 (a.length + 1) (l := p ++ [c]) (n := V 18446744073709551616 a + V 18446744073709551616 b) (by simp; omega) (by omega)
   ⟨Dig_snoc hd hc0 (by omega), by rw [V_snoc, hp]; exact hv⟩
  refine ⟨r, Ev.succ (Ev.congr he fun k => ?_), hcan, hlen⟩
  rw [big_plus_T1.l0, if_neg (by omega), if_pos (by omega), if_pos (by simp; omega), show ((a.length : Int)).toNat = p.length by omega, set_pad]
  simp
 | succ j ih =>
  intro i p c hi hp hd hc0 hc1 hv
  have ra := rd_dig ha (i := (i : Int)) (by omega) (by omega)
  have stepEq : ∃ y, 0 ≤ y ∧ y < 18446744073709551616 ∧ V 18446744073709551616 (b.take (i + 1)) = V 18446744073709551616 (b.take i) + 18446744073709551616 ^ i * y ∧
    ((i : Int) < (b.length : Int) → rd b (i : Int) = y) ∧ (¬ (i : Int) < (b.length : Int) → y = 0) := by
   by_cases hib : i < b.length
   ·have rb := rd_dig hb (i := (i : Int)) (by omega) (by omega)
    exact ⟨rd b (i : Int), rb.1, rb.2, V_take 18446744073709551616 b hib, fun _ => rfl, fun h => absurd (by omega) h⟩
   ·refine ⟨0, by omega, by omega, ?_, fun h => absurd h (by omega), fun _ => rfl⟩
    rw [List.take_of_length_le (by omega), List.take_of_length_le (by omega)]; omega
  obtain ⟨y, y0, y1, hvb, hy1, hy2⟩ := stepEq
  have had := add64 (a := rd a (i : Int)) (b := y) (c := c) ra.1 y0 hc0 hc1
  generalize hs : rd a (i : Int) + y + c = s at had
  obtain ⟨r, he, hcan, hlen⟩ := ih (i + 1) (p ++ [s % 18446744073709551616]) (s / 18446744073709551616) (by omega) (by simp; omega) (Dig_snoc hd (by omega) (by omega)) (by omega) (by omega) (by
   rw [V_snoc, hp, V_take 18446744073709551616 a (by omega), hvb, Int.pow_succ]
   exact plus_alg 18446744073709551616 (18446744073709551616 ^ i) _ c _ _ _ _ _ _ hv (by omega))
  refine ⟨r, Ev.succ (Ev.congr he fun k => ?_), hcan, hlen⟩
  rw [big_plus_T1.l0, if_pos (by omega), if_pos (by omega), if_pos (by omega), w64 (by omega) (by omega)]
  by_cases hib : (i : Int) < (b.length : Int)
  ·rw [if_pos hib, hy1 hib, had]
   simp only [Option.bind_some]
   rw [if_pos (by simp; omega), show ((i : Nat) : Int).toNat = p.length by omega, set_pad]
   simp
  ·have := hy2 hib
   subst this
   rw [if_neg hib, had]
   simp only [Option.bind_some]
   rw [if_pos (by simp; omega), show ((i : Nat) : Int).toNat = p.length by omega, set_pad]
   simp
theorem plus_ev {a b : List Int} (ha : Dig 18446744073709551616 a) (hb : Dig 18446744073709551616 b) (hla : a.length < 1099511627776) (hlb : b.length < 1099511627776) :
  ∃ r, Ev (fun k => big_plus.f k a b) r ∧ Can 18446744073709551616 r (V 18446744073709551616 a + V 18446744073709551616 b) ∧ r.length ≤ max a.length b.length + 1 := by
 by_cases h : (a.length : Int) < (b.length : Int)
 ·obtain ⟨r, he, hc, hl⟩ := plusT_loop (a := b) (b := a) (by omega) hb ha hlb b.length 0 [] 0 (by omega) rfl (Dig_nil _) (by omega) (by omega) (by simp [V])
  refine ⟨r, Ev.congr he fun k => ?_, by rw [Int.add_comm]; exact hc, by omega⟩
  unfold big_plus.f big_plus_T1.f
  have e : wrap64 ((b.length : Int) + 1) = (b.length : Int) + 1 := w64 (by omega) (by omega)
  rw [if_pos h, if_pos h, e, if_pos (by omega), if_pos (by omega)]
  simp [show ((b.length : Int) + 1).toNat = b.length + 1 by omega]
 ·obtain ⟨r, he, hc, hl⟩ := plusE_loop (a := a) (b := b) (by omega) ha hb hla a.length 0 [] 0 (by omega) rfl (Dig_nil _) (by omega) (by omega) (by simp [V])
  refine ⟨r, Ev.congr he fun k => ?_, hc, by omega⟩
  unfold big_plus.f big_plus_E1.f
  have e : wrap64 ((a.length : Int) + 1) = (a.length : Int) + 1 := w64 (by omega) (by omega)
  rw [if_neg h, if_neg h, e, if_pos (by omega), if_pos (by omega)]
  simp [show ((a.length : Int) + 1).toNat = a.length + 1 by omega]
end Go.Proofs.Ytbmddlldadbfnaa.BM
end
section
namespace Go.Proofs.Ytbmddlldadbfnaa.BM
open Go.RowKit Go.Proofs.YtbmddlldadbfnaaW.PrintWords Go.Proofs.YtbmddlldadbfnaaW.PrintLast Go.Proofs.YtbmddlldadbfnaaW.PrintMore
open Go.Proofs.Ytbmddlldadbfnaa.BA
theorem times_alg (B P vp c va m d c2 x : Int) (h : vp + P * c = va * m) (h2 : x * m + c = d + B * c2) : vp + P * d + P * B * c2 = (va + P * x) * m := by
 rw [show vp + P * d + P * B * c2 = vp + P * (d + B * c2) by grind, ← h2, show vp + P * (x * m + c) = (vp + P * c) + P * x * m by grind, h, Int.add_mul]
theorem times_step (k : Nat) (x1 x5 : List Int) (x6 x7 x8 : Int) (x29 : List Int) (x30 x31 : Int) (x36 : List Int) (x37 x38 hi lo s1 c1 s2 c2 : Int)
  (h : x38 < x37) (h0 : 0 ≤ x38) (h1 : x38 < (x36.length : Int)) (hm : bits_Mul64.f x7 (rd x36 x38) = some (hi, lo)) (h2 : 0 ≤ wrap64 (x6 + x38)) (h3 : wrap64 (x6 + x38) < (x5.length : Int))
  (ha : bits_Add64.f lo (rd x5 (wrap64 (x6 + x38))) 0 = some (s1, c1)) (hb : bits_Add64.f s1 x8 0 = some (s2, c2)) :
  big_times.l1 (k + 1) x1 x5 x6 x7 x8 x29 x30 x31 x36 x37 x38 = big_times.l1 k x1 (x5.set (wrap64 (x6 + x38)).toNat s2) x6 x7 (IntKind.u64.wrap (IntKind.u64.wrap (hi + c1) + c2)) x29 x30 x31 x36 x37 (wrap64 (x38 + 1)) := by
 rw [big_times.l1, if_pos h, if_pos h0, if_pos h1, hm]
 simp only [Option.bind_some]
 rw [if_pos h2, if_pos h3, ha]
 simp only [Option.bind_some]
 rw [hb]
 simp only [Option.bind_some]
theorem times_outer (k : Nat) (m : Int) (x5 a : List Int) (i : Nat) (hi lo s1 c1 s2 c2 y : Int) (hl : a.length < 1099511627776) (h : i < a.length) (h5 : i + 1 < x5.length)
  (hm : bits_Mul64.f (rd a i) m = some (hi, lo)) (ha : bits_Add64.f lo (rd x5 i) 0 = some (s1, c1)) (hb : bits_Add64.f s1 0 0 = some (s2, c2))
  (hy : IntKind.u64.wrap (IntKind.u64.wrap (hi + c1) + c2) = y) :
  big_times.l0 (k + 1 + 1 + 1) [m] x5 a a.length i = big_times.l0 k [m] ((x5.set i s2).set (i + 1) y) a a.length ((i + 1 : Nat) : Int) := by
 have ew : wrap64 ((i : Int) + 0) = (i : Int) := by rw [w64 (by omega) (by omega)]; omega
 have e1 : wrap64 (0 + 1) = 1 := by rw [w64 (by omega) (by omega)]; rfl
 have e2 : wrap64 ((i : Int) + (([m] : List Int).length : Int)) = ((i + 1 : Nat) : Int) := by rw [w64 (by simp; omega) (by simp; omega)]; simp
 have e3 : wrap64 ((i : Int) + 1) = ((i + 1 : Nat) : Int) := by rw [w64 (by omega) (by omega)]; omega
 rw [big_times.l0, if_pos (by omega), if_pos (by omega), if_pos (by omega)]
 rw [times_step (k + 1) [m] x5 (i : Int) (rd a i) 0 a a.length i [m] ([m] : List Int).length 0 hi lo s1 c1 s2 c2 (by simp) (by omega) (by simp) hm (by rw [ew]; omega) (by rw [ew]; omega) (by rw [ew]; exact ha) hb]
 rw [ew, e1, hy, big_times.l1, if_neg (by simp), e2, e3, if_pos (by omega), if_pos (by rw [List.length_set]; omega)]
 rfl
theorem times_carry (s c : Int) (h0 : 0 ≤ s) (h1 : s ≤ 340282366920938463426481119284349108225) (hc0 : 0 ≤ c) (hc1 : c < 18446744073709551616) :
  IntKind.u64.wrap (IntKind.u64.wrap (s / 18446744073709551616 + (s % 18446744073709551616 + c + 0) / 18446744073709551616) + ((s % 18446744073709551616 + c + 0) % 18446744073709551616 + 0 + 0) / 18446744073709551616) = (s + c) / 18446744073709551616 := by
 rw [u64m, u64m]
 omega
theorem times_loop {a : List Int} (ha : Dig 18446744073709551616 a) {m : Int} (hm0 : 0 ≤ m) (hm : m < 18446744073709551616) (hl : a.length < 1099511627776) :
  ∀ (j i : Nat) (p : List Int) (c : Int), i + j = a.length → p.length = i → Dig 18446744073709551616 p → 0 ≤ c → c < 18446744073709551616 → V 18446744073709551616 p + 18446744073709551616 ^ i * c = V 18446744073709551616 (a.take i) * m →
   ∃ r, Ev (fun k => big_times.l0 k [m] ((p ++ [c]) ++ List.replicate j 0) a a.length i) r ∧ Can 18446744073709551616 r (V 18446744073709551616 a * m) ∧ r.length ≤ a.length + 1 := by
 intro j
 induction j with
 | zero =>
  intro i p c hi hp hd hc0 hc1 hv
  rw [List.take_of_length_le (by omega)] at hv
  obtain ⟨r, he, hcan, hlen⟩ := trim_ev 18446744073709551616 (a.length + 1) (l := p ++ [c]) (n := V 18446744073709551616 a * m) (by simp; omega) (by omega)
   ⟨Dig_snoc hd hc0 (by omega), by rw [V_snoc, hp]; exact hv⟩
  refine ⟨r, Ev.succ (Ev.congr he fun k => ?_), hcan, hlen⟩
  rw [big_times.l0, if_neg (by omega)]
  simp
 | succ j ih =>
  intro i p c hi hp hd hc0 hc1 hv
  have ra := rd_dig ha (i := (i : Int)) (by omega) (by omega)
  have hmul := mul64 (a := rd a (i : Int)) (b := m) ra.1 ra.2 hm0 hm
  have hP0 := Int.mul_nonneg ra.1 hm0
  have hP1 : rd a (i : Int) * m ≤ 340282366920938463426481119284349108225 := by
   have := Int.mul_le_mul (show rd a (i : Int) ≤ 18446744073709551615 by omega) (show m ≤ 18446744073709551615 by omega) hm0 (by omega)
   simpa using this
  generalize hs : rd a (i : Int) * m = s at hmul hP0 hP1
  obtain ⟨r, he, hcan, hlen⟩ := ih (i + 1) (p ++ [(s + c) % 18446744073709551616]) ((s + c) / 18446744073709551616) (by omega) (by simp; omega) (Dig_snoc hd (by omega) (by omega)) (by omega) (by omega) (by
   rw [V_snoc, hp, V_take 18446744073709551616 a (by omega), Int.pow_succ]
   exact times_alg 18446744073709551616 (18446744073709551616 ^ i) _ c _ _ _ _ _ hv (by omega))
  refine ⟨r, Ev.succ (Ev.succ (Ev.succ (Ev.congr he fun k => ?_))), hcan, hlen⟩
  have e1 : rd (p ++ [c] ++ List.replicate (j + 1) 0) (i : Int) = c := by
   unfold rd; simp [List.getD_eq_getElem?_getD, hp]
  have e2 : (p ++ [c] ++ List.replicate (j + 1) 0).set i ((s + c) % 18446744073709551616) = (p ++ [(s + c) % 18446744073709551616]) ++ List.replicate (j + 1) 0 := by
   rw [← hp, List.append_assoc, List.set_append_right _ _ (Nat.le_refl _)]; simp
  have hA := add64 (a := s % 18446744073709551616) (b := c) (c := 0) (by omega) hc0 (by omega) (by omega)
  have hA2 := add64 (a := (s % 18446744073709551616 + c + 0) % 18446744073709551616) (b := 0) (c := 0) (by omega) (by omega) (by omega) (by omega)
  refine (times_outer k m _ a i _ _ _ _ _ _ _ hl (by omega) (by simp; omega) hmul (by rw [e1]; exact hA) hA2 (times_carry s c hP0 hP1 hc0 hc1)).trans ?_
  rw [show ((s % 18446744073709551616 + c + 0) % 18446744073709551616 + 0 + 0) % 18446744073709551616 = (s + c) % 18446744073709551616 by omega, e2]
  rw [show i + 1 = (p ++ [(s + c) % 18446744073709551616]).length by simp; omega, set_pad]
theorem times_ev {a : List Int} (ha : Dig 18446744073709551616 a) {m : Int} (hm0 : 0 ≤ m) (hm : m < 18446744073709551616) (hl : a.length < 1099511627776) :
  ∃ r, Ev (fun k => big_times.f k a [m]) r ∧ Can 18446744073709551616 r (V 18446744073709551616 a * m) ∧ r.length ≤ a.length + 1 := by
 by_cases h0 : a.length = 0
 ·have : a = [] := List.eq_nil_of_length_eq_zero h0
  subst this
  refine ⟨[], Ev.succ (Ev.congr (Ev.pure _) fun k => ?_), by simpa [V] using Can_nil 18446744073709551616, by simp⟩
  simp [big_times.f, big_times.j0]
 ·obtain ⟨r, he, hc, hlen⟩ := times_loop ha hm0 hm hl a.length 0 [] 0 (by omega) rfl (Dig_nil _) (by omega) (by omega) (by simp [V])
  refine ⟨r, Ev.succ (Ev.congr he fun k => ?_), hc, hlen⟩
  have e : wrap64 ((a.length : Int) + (([m] : List Int).length : Int)) = (a.length : Int) + 1 := by simp; rw [w64 (by omega) (by omega)]
  unfold big_times.f
  rw [if_neg (by omega), big_times.j0, if_neg (by simp), e, if_pos (by omega), if_pos (by omega)]
  simp [show ((a.length : Int) + 1).toNat = a.length + 1 by omega, List.replicate_succ]
end Go.Proofs.Ytbmddlldadbfnaa.BM
end
section
namespace Go.Proofs.Ytbmddlldadbfnaa.BM
open Go.RowKit Go.Proofs.YtbmddlldadbfnaaW.PrintWords Go.Proofs.YtbmddlldadbfnaaW.PrintLast Go.Proofs.YtbmddlldadbfnaaW.PrintMore
open Go.Proofs.Ytbmddlldadbfnaa.BA
def wv (c b : Int) : Int := if 48 ≤ c ∧ c ≤ 57 ∧ c - 48 < b then c - 48 else if 97 ≤ c ∧ c ≤ 122 ∧ c - 87 < b then c - 87 else -1
theorem wv_lt (c b : Int) (hb : 0 < b) : wv c b < b := by unfold wv; split <;> (try split) <;> omega
theorem worth_ev (c b : Int) (h0 : 0 ≤ c) (h1 : c < 256) (hb : 2 ≤ b) (hb' : b ≤ 36) : Ev (fun k => big_worth.f k c b) (wv c b) := by
 refine Ev.succ (Ev.succ (Ev.congr (Ev.pure _) fun k => ?_))
 simp only [big_worth.f, big_worth.j0, big_worth.j1, decide_eq_true_eq, wv]
 repeat' split
 all_goals first | rfl | (exfalso; omega) | (congr 1; omega)
def D (b : Int) (g : Nat → Int) : Nat → Int
 | 0 => 0
 | i + 1 => D b g i * b + g i
theorem D_add (b : Int) (g : Nat → Int) (i : Nat) : ∀ t, D b g (i + t) = D b g i * b ^ t + D b (fun j => g (i + j)) t
 | 0 => by simp [D]
 | t + 1 => by
  show D b g (i + t) * b + g (i + t) = _
  rw [D_add b g i t, Int.pow_succ]
  simp only [D]
  grind
theorem D_nonneg {b : Int} (hb : 0 ≤ b) {g : Nat → Int} : ∀ {t : Nat}, (∀ j, j < t → 0 ≤ g j) → 0 ≤ D b g t
 | 0, _ => by simp [D]
 | t + 1, h => by
  have h1 := D_nonneg hb (t := t) (fun j hj => h j (by omega))
  have h2 := h t (by omega)
  have := Int.mul_nonneg h1 hb
  simp only [D]; omega
theorem D_lt {b : Int} (hb : 0 < b) {g : Nat → Int} : ∀ {t : Nat}, (∀ j, j < t → g j < b) → D b g t < b ^ t
 | 0, _ => by simp [D]
 | t + 1, h => by
  have h1 := D_lt hb (t := t) (fun j hj => h j (by omega))
  have h2 := h t (by omega)
  have := Int.mul_le_mul_of_nonneg_right (show D b g t + 1 ≤ b ^ t by omega) (Int.le_of_lt hb)
  rw [Int.add_mul] at this
  rw [Int.pow_succ]; simp only [D]; omega
theorem D_congr {b : Int} {g g' : Nat → Int} : ∀ {t : Nat}, (∀ j, j < t → g j = g' j) → D b g t = D b g' t
 | 0, _ => rfl
 | t + 1, h => by simp only [D]; rw [D_congr (t := t) (fun j hj => h j (by omega)), h t (by omega)]
theorem bt_extract (s : ByteArray) {i j t : Nat} (h : i + t < j) (hj : j ≤ s.size) : bt (s.extract i j) ((t : Nat) : Int) = bt s ((i + t : Nat) : Int) := by
 unfold bt
 have h1 : ((t : Nat) : Int).toNat = t := by omega
 have h2 : ((i + t : Nat) : Int).toNat = i + t := by omega
 simp only [h1, h2]
 have hs : (s.extract i j).size = j - i := by rw [ByteArray.size_extract]; omega
 rw [dif_pos (by omega), dif_pos (by omega)]
 congr 2
 rw [ByteArray.getElem_extract]
theorem pow_lt_of_le {b : Int} (hb : 1 ≤ b) {m n : Nat} (h : m ≤ n) {c : Int} (hc : b ^ n < c) : b ^ m < c := by
 have := pow_le' hb h; omega
theorem ss_step (k : Nat) (s : ByteArray) (b : Int) (neg : Bool) (e : Int) (acc : List Int) (pos v p cnt : Int) (c : ByteArray) (n i w : Int) (h : i < n) (h0 : 0 ≤ i) (h1 : i < (c.size : Int))
  (hw : big_worth.f k (bt c i) b = some w) (hw0 : ¬ w < 0) :
  bISetString.l1 (k + 1) s b neg e acc pos v p cnt c n i =
   bISetString.l1 k s b neg e acc pos (IntKind.u64.wrap (IntKind.u64.wrap (v * IntKind.u64.wrap b) + IntKind.u64.wrap w)) (IntKind.u64.wrap (p * IntKind.u64.wrap b)) cnt c n (wrap64 (i + 1)) := by
 rw [bISetString.l1, if_pos h, if_pos h0, if_pos h1, hw]
 simp only [Option.bind_some]
 rw [if_neg hw0]
theorem Ev.step {α β : Type} {f : Nat → Option α} {g : Nat → Option β} {a : α} {r : β} {t : Nat → Option β} (hf : Ev f a) (h : ∀ k, f k = some a → t (k + 1) = g k) (hg : Ev g r) : Ev t r := by
 obtain ⟨K, hK⟩ := hf
 obtain ⟨L, hL⟩ := hg
 refine ⟨max K L + 1, fun k hk => ?_⟩
 have h1 := h (k - 1) (hK _ (by omega))
 rw [show k - 1 + 1 = k by omega] at h1
 rw [h1]
 exact hL _ (by omega)
def ssTail (s : ByteArray) (b : Int) (neg : Bool) (e : Int) (acc : List Int) (nxt v p : Int) (k : Nat) : Option (List Int × Bool) :=
 (big_times.f k acc [p]).bind fun t => (big_trim.f k [v]).bind fun u => (big_plus.f k t u).bind fun x => bISetString.l0 k s b neg e x nxt
theorem ss_l1 (s : ByteArray) (b : Int) (hb : 2 ≤ b) (hb' : b ≤ 36) (neg : Bool) (e : Int) (acc : List Int) (pos cnt nxt : Int) (hnx : wrap64 (pos + cnt) = nxt) (c : ByteArray) (hc : ∀ i : Nat, i < c.size → 0 ≤ wv (bt c i) b) (hn : c.size < 4294967296)
  (hp : b ^ c.size < 18446744073709551616) (r : List Int × Bool)
  (ht : Ev (ssTail s b neg e acc nxt (D b (fun i => wv (bt c i) b) c.size) (b ^ c.size)) r) :
  ∀ (j u : Nat), u + j = c.size → Ev (fun k => bISetString.l1 k s b neg e acc pos (D b (fun i => wv (bt c i) b) u) (b ^ u) cnt c c.size u) r := by
 intro j
 induction j with
 | zero =>
  intro u hu
  have : u = c.size := by omega
  subst this
  refine Ev.succ (Ev.congr ht fun k => ?_)
  rw [bISetString.l1, if_neg (by omega), hnx]
  rfl
 | succ j ih =>
  intro u hu
  have hbr := bt_range c (u : Int)
  refine Ev.step (worth_ev (bt c (u : Int)) b hbr.1 hbr.2 hb hb') (fun k hk => ?_) (ih (u + 1) (by omega))
  show bISetString.l1 (k + 1) s b neg e acc pos (D b (fun i => wv (bt c i) b) u) (b ^ u) cnt c c.size u = bISetString.l1 k s b neg e acc pos (D b (fun i => wv (bt c i) b) (u + 1)) (b ^ (u + 1)) cnt c c.size ((u + 1 : Nat) : Int)
  have hw0 := hc u (by omega)
  have hwl := wv_lt (bt c (u : Int)) b (by omega)
  have hD0 := D_nonneg (b := b) (g := fun i => wv (bt c i) b) (t := u) (by omega) (fun j hj => hc j (by omega))
  have hDl := D_lt (b := b) (g := fun i => wv (bt c i) b) (t := u + 1) (by omega) (fun j _ => wv_lt _ b (by omega))
  have hpu := pow_lt_of_le (show 1 ≤ b by omega) (show u + 1 ≤ c.size by omega) hp
  have hq := pow_pos' (show 0 < b by omega) u
  have hm0 := Int.mul_nonneg hD0 (show 0 ≤ b by omega)
  have hm1 := Int.mul_nonneg (Int.le_of_lt hq) (show 0 ≤ b by omega)
  have hbu : IntKind.u64.wrap b = b := u64 (by omega) (by omega)
  have hwu : IntKind.u64.wrap (wv (bt c (u : Int)) b) = wv (bt c (u : Int)) b := u64 (by omega) (by omega)
  have e1 : IntKind.u64.wrap (b ^ u * IntKind.u64.wrap b) = b ^ (u + 1) := by
   rw [Int.pow_succ] at hpu ⊢
   rw [hbu]
   exact u64 hm1 hpu
  simp only [D] at hDl ⊢
  have e2 : IntKind.u64.wrap (IntKind.u64.wrap (D b (fun i => wv (bt c i) b) u * IntKind.u64.wrap b) + IntKind.u64.wrap (wv (bt c (u : Int)) b)) = D b (fun i => wv (bt c i) b) u * b + wv (bt c (u : Int)) b := by
   rw [hwu, hbu, u64 hm0 (by omega)]
   exact u64 (by omega) (by omega)
  rw [ss_step k s b neg e acc pos _ _ cnt c _ _ _ (by omega) (by omega) (by omega) hk (by omega), e1, e2, w64 (by omega) (by omega)]
  rfl
theorem ss_outer (k : Nat) (s : ByteArray) (b : Int) (neg : Bool) (e : Int) (acc : List Int) (pos cnt : Nat) (h : pos < s.size) (he : e ≠ 0)
  (hcnt : wrap64 ((Int.tmod (wrap64 ((wrap64 ((s.size : Int) - (pos : Int))) - 1)) e) + 1) = (cnt : Int)) (e4 : wrap64 ((pos : Int) + (cnt : Int)) = ((pos + cnt : Nat) : Int)) (hle : pos + cnt ≤ s.size) :
  bISetString.l0 (k + 1) s b neg e acc pos = bISetString.l1 k s b neg e acc pos 0 1 cnt (s.extract pos (pos + cnt)) ((s.extract pos (pos + cnt)).size : Int) 0 := by
 rw [bISetString.l0, if_pos (by omega), if_neg he, if_pos (by omega), hcnt, e4, if_pos (by omega), if_pos (by omega)]
 simp only [Int.toNat_natCast]
theorem ss_cnt {n pos e : Nat} (h : pos < n) (hn : n < 1073741824) (he1 : 1 ≤ e) (he : e ≤ 64) :
  wrap64 ((Int.tmod (wrap64 ((wrap64 ((n : Int) - (pos : Int))) - 1)) (e : Int)) + 1) = (((n - pos - 1) % e + 1 : Nat) : Int) := by
 have h2 : (n - pos - 1) % e < e := Nat.mod_lt _ (by omega)
 rw [w64 (n := (n : Int) - (pos : Int)) (by omega) (by omega), w64 (n := (n : Int) - (pos : Int) - 1) (by omega) (by omega)]
 rw [show (n : Int) - (pos : Int) - 1 = ((n - pos - 1 : Nat) : Int) by omega]
 have h1 : Int.tmod ((n - pos - 1 : Nat) : Int) (e : Int) = (((n - pos - 1) % e : Nat) : Int) := by
  rw [Int.tmod_eq_emod_of_nonneg (by omega), Int.natCast_emod]
 rw [h1, w64 (by omega) (by omega)]
 omega
theorem ss_tail_ev {s : ByteArray} {b : Int} {neg : Bool} {e : Int} {acc : List Int} {nxt v p : Int} {x1 x2 x3 : List Int} {r : List Int × Bool} (h1 : Ev (fun k => big_times.f k acc [p]) x1) (h2 : Ev (fun k => big_trim.f k [v]) x2)
  (h3 : Ev (fun k => big_plus.f k x1 x2) x3) (h4 : Ev (fun k => bISetString.l0 k s b neg e x3 nxt) r) : Ev (ssTail s b neg e acc nxt v p) r :=
 Ev.bind (g := fun k t => (big_trim.f k [v]).bind fun u => (big_plus.f k t u).bind fun x => bISetString.l0 k s b neg e x nxt) h1
  (Ev.bind (g := fun k u => (big_plus.f k x1 u).bind fun x => bISetString.l0 k s b neg e x nxt) h2 (Ev.bind (g := fun k x => bISetString.l0 k s b neg e x nxt) h3 h4))
theorem ss_chunk (s : ByteArray) (b : Int) (hb : 2 ≤ b) (hb' : b ≤ 36) (hs : s.size < 1073741824) (hg : ∀ i : Nat, i < s.size → 0 ≤ wv (bt s i) b) (e : Nat) (he : b ^ e < 18446744073709551616) (neg : Bool)
  (pos cnt : Nat) (acc : List Int) (c : ByteArray) (hle2 : pos + cnt ≤ s.size) (hle : cnt ≤ e) (hc1 : 1 ≤ cnt) (hsz : c.size = cnt) (hbt : ∀ i : Nat, i < cnt → bt c (i : Int) = bt s ((pos + i : Nat) : Int))
  (hc : Can 18446744073709551616 acc (D b (fun i => wv (bt s i) b) pos)) :
  ∃ x3, (∀ (nxt : Int) (r : List Int × Bool), wrap64 ((pos : Int) + (cnt : Int)) = nxt → Ev (fun k => bISetString.l0 k s b neg e x3 nxt) r → Ev (fun k => bISetString.l1 k s b neg e acc pos 0 1 cnt c c.size 0) r) ∧
   Can 18446744073709551616 x3 (D b (fun i => wv (bt s i) b) (pos + cnt)) := by
 have hpc := pow_lt_of_le (show 1 ≤ b by omega) hle he
 have hal : acc.length ≤ pos := by
  refine Can_len (by omega) hc ?_
  have h1 := D_lt (b := b) (g := fun i => wv (bt s i) b) (t := pos) (by omega) (fun j _ => wv_lt _ b (by omega))
  have h2 := pow_mono (show 0 ≤ b by omega) (show b ≤ 18446744073709551616 by omega) pos
  exact Int.lt_of_lt_of_le h1 h2
 have hgc : ∀ i : Nat, i < c.size → 0 ≤ wv (bt c i) b := fun i hi => by rw [hbt i (by omega)]; exact hg (pos + i) (by omega)
 have hD0 := D_nonneg (b := b) (g := fun i => wv (bt c i) b) (t := cnt) (by omega) (fun j hj => hgc j (by omega))
 have hDl := D_lt (b := b) (g := fun i => wv (bt c i) b) (t := cnt) (by omega) (fun j _ => wv_lt _ b (by omega))
 have hv : D b (fun i => wv (bt s i) b) pos * b ^ cnt + D b (fun i => wv (bt c i) b) cnt = D b (fun i => wv (bt s i) b) (pos + cnt) := by
  rw [D_add]
  congr 1
  exact D_congr (fun j hj => by show wv _ b = wv _ b; rw [hbt j hj])
 obtain ⟨x1, ht1, hc1', hl1⟩ := times_ev hc.1.1 (m := b ^ cnt) (Int.le_of_lt (pow_pos' (by omega) cnt)) hpc (by omega)
 obtain ⟨x2, ht2, hc2', hl2⟩ := trim_ev 18446744073709551616 1 (l := [D b (fun i => wv (bt c i) b) cnt]) (n := D b (fun i => wv (bt c i) b) cnt) rfl (by omega) ⟨Dig_one hD0 (Int.lt_trans hDl hpc), by simp [V]⟩
 obtain ⟨x3, ht3, hc3', hl3⟩ := plus_ev hc1'.1.1 hc2'.1.1 (by omega) (by omega)
 rw [hc1'.1.2, hc2'.1.2, hc.1.2, hv] at hc3'
 refine ⟨x3, fun nxt r hn hr => ?_, hc3'⟩
 subst hsz
 have h := ss_l1 s b hb hb' neg e acc pos c.size nxt hn c hgc (by omega) hpc r (ss_tail_ev ht1 ht2 ht3 hr) c.size 0 (by omega)
 simpa only [D, Int.pow_zero, Int.natCast_zero, Int.cast_ofNat_Int] using h
theorem ss_l0 (s : ByteArray) (b : Int) (hb : 2 ≤ b) (hb' : b ≤ 36) (neg : Bool) (hs0 : 0 < s.size) (hs : s.size < 1073741824) (hg : ∀ i : Nat, i < s.size → 0 ≤ wv (bt s i) b)
  (e : Nat) (he1 : 1 ≤ e) (he : b ^ e < 18446744073709551616) (he64 : e ≤ 64) :
  ∀ (m pos : Nat) (acc : List Int), s.size - pos ≤ m → pos ≤ s.size → Can 18446744073709551616 acc (D b (fun i => wv (bt s i) b) pos) →
   ∃ r, Ev (fun k => bISetString.l0 k s b neg e acc pos) (r, neg) ∧ Can 18446744073709551616 r (D b (fun i => wv (bt s i) b) s.size) := by
 intro m
 induction m with
 | zero =>
  intro pos acc hm hp hc
  have : pos = s.size := by omega
  subst this
  refine ⟨acc, Ev.succ (Ev.congr (Ev.pure _) fun k => ?_), hc⟩
  rw [bISetString.l0, if_neg (by omega), if_neg ?_]
  intro h0
  have := (toList_nil_iff_emptyBytes s).1 h0
  subst this
  simp at hs0
 | succ m ih =>
  intro pos acc hm hp hc
  rcases Nat.lt_or_ge pos s.size with hlt | hge
  ·obtain ⟨cnt, hcn⟩ : ∃ cnt, cnt = (s.size - pos - 1) % e + 1 := ⟨_, rfl⟩
   have hle : cnt ≤ e := by have := Nat.mod_lt (s.size - pos - 1) (show 0 < e by omega); omega
   have hle2 : pos + cnt ≤ s.size := by have := Nat.mod_le (s.size - pos - 1) e; omega
   have hc1 : 1 ≤ cnt := by omega
   have hne : (e : Int) ≠ 0 := by omega
   have hdone : s.size - (pos + cnt) ≤ m := by omega
   have hsz : (s.extract pos (pos + cnt)).size = cnt := by rw [ByteArray.size_extract]; omega
   have hbt : ∀ i : Nat, i < cnt → bt (s.extract pos (pos + cnt)) (i : Int) = bt s ((pos + i : Nat) : Int) := fun i hi => bt_extract s (by omega) (by omega)
   have e4 : wrap64 ((pos : Int) + (cnt : Int)) = ((pos + cnt : Nat) : Int) := by rw [w64 (by omega) (by omega)]; omega
   have hcnt := ss_cnt hlt hs he1 he64
   rw [← hcn] at hcnt
   have hout := fun k => ss_outer k s b neg e acc pos cnt hlt hne hcnt e4 hle2
   generalize hce : s.extract pos (pos + cnt) = c at hsz hbt hout
   obtain ⟨x3, hx3, hc3⟩ := ss_chunk s b hb hb' hs hg e he neg pos cnt acc c hle2 hle hc1 hsz hbt hc
   obtain ⟨r, hr, hcr⟩ := ih (pos + cnt) x3 hdone hle2 hc3
   refine ⟨r, Ev.succ (Ev.congr ?_ hout), hcr⟩
   exact hx3 _ (r, neg) e4 hr
  ·exact ih pos acc (by omega) hp hc
def bodyOf (s : ByteArray) : ByteArray := if 0 < s.size ∧ bt s 0 = 45 then s.extract 1 s.size else s
theorem ss_ev (s : ByteArray) (b : Int) (hb : 2 ≤ b) (hb' : b ≤ 36) (hs0 : 0 < (bodyOf s).size) (hs : s.size < 1073741824) (hg : ∀ i : Nat, i < (bodyOf s).size → 0 ≤ wv (bt (bodyOf s) i) b) :
  ∃ r, Ev (fun k => bISetString.f k 0 s b) (r, (bt s 0 == 45)) ∧ Can 18446744073709551616 r (D b (fun i => wv (bt (bodyOf s) i) b) (bodyOf s).size) := by
 obtain ⟨e, h1, h2, h3, _, h5⟩ := chunk_ev b hb hb'
 have hsz : 0 < s.size := by
  rcases Nat.eq_zero_or_pos s.size with h | h
  ·exfalso
   unfold bodyOf at hs0
   rw [if_neg (by omega)] at hs0
   omega
  ·exact h
 have hbs : (bodyOf s).size ≤ s.size := by unfold bodyOf; split <;> simp
 obtain ⟨r, hr, hcr⟩ := ss_l0 (bodyOf s) b hb hb' (bt s 0 == 45) hs0 (by omega) hg e h1 h3 h2 (bodyOf s).size 0 [] (by omega) (by omega) (Can_nil _)
 refine ⟨r, Ev.succ (Ev.succ (Ev.congr (Ev.bind (g := fun k a => bISetString.l0 k (bodyOf s) b (bt s 0 == 45) a.2 [] 0) h5 hr) fun k => ?_)), hcr⟩
 unfold bISetString.f
 rw [if_pos (by omega), if_pos (by omega), bISetString.j0]
 by_cases hm : bt s 0 = 45
 ·rw [if_pos (by simp [hm]), if_pos (by omega), bISetString.j1]
  unfold bodyOf
  rw [if_pos ⟨hsz, hm⟩]
 ·rw [if_neg (by simp [hm]), bISetString.j1]
  unfold bodyOf
  rw [if_neg (by simp [hm])]
end Go.Proofs.Ytbmddlldadbfnaa.BM
end
section
namespace Go.Proofs.Ytbmddlldadbfnaa.BM
open Go.RowKit Go.Proofs.YtbmddlldadbfnaaW.PrintWords Go.Proofs.YtbmddlldadbfnaaW.PrintLast Go.Proofs.YtbmddlldadbfnaaW.PrintMore
open Go.Proofs.Ytbmddlldadbfnaa.BA
def tab8 : ByteArray := (⟨#[0, 1, 2, 2, 3, 3, 3, 3, 4, 4, 4, 4, 4, 4, 4, 4, 5, 5, 5, 5, 5, 5, 5, 5, 5, 5, 5, 5, 5, 5, 5, 5, 6, 6, 6, 6, 6, 6, 6, 6, 6, 6, 6, 6, 6, 6, 6, 6, 6, 6, 6, 6, 6, 6, 6, 6, 6, 6, 6, 6, 6, 6, 6, 6, 7, 7, 7, 7, 7, 7, 7, 7, 7, 7, 7, 7, 7, 7, 7, 7, 7, 7, 7, 7, 7, 7, 7, 7, 7, 7, 7, 7, 7, 7, 7, 7, 7, 7, 7, 7, 7, 7, 7, 7, 7, 7, 7, 7, 7, 7, 7, 7, 7, 7, 7, 7, 7, 7, 7, 7, 7, 7, 7, 7, 7, 7, 7, 7, 8, 8, 8, 8, 8, 8, 8, 8, 8, 8, 8, 8, 8, 8, 8, 8, 8, 8, 8, 8, 8, 8, 8, 8, 8, 8, 8, 8, 8, 8, 8, 8, 8, 8, 8, 8, 8, 8, 8, 8, 8, 8, 8, 8, 8, 8, 8, 8, 8, 8, 8, 8, 8, 8, 8, 8, 8, 8, 8, 8, 8, 8, 8, 8, 8, 8, 8, 8, 8, 8, 8, 8, 8, 8, 8, 8, 8, 8, 8, 8, 8, 8, 8, 8, 8, 8, 8, 8, 8, 8, 8, 8, 8, 8, 8, 8, 8, 8, 8, 8, 8, 8, 8, 8, 8, 8, 8, 8, 8, 8, 8, 8, 8, 8, 8, 8, 8, 8, 8, 8, 8, 8, 8, 8, 8, 8, 8, 8]⟩ : ByteArray)
theorem tab8_bt (i : Int) (h0 : 0 ≤ i) (h1 : i < 256) : bt tab8 i = (bitLen i.toNat : Int) := by
 have hs : tab8.size = 256 := by decide +kernel
 have h : i.toNat < tab8.size := by omega
 unfold bt
 rw [dif_pos h]
 exact congrArg Int.ofNat (len8tab_get i.toNat h)
theorem len_j0 (k : Nat) (y c : Int) (h0 : 0 ≤ y) (h1 : y < 4294967296) (hc0 : 0 ≤ c) (hc : c ≤ 32) : bits_Len64.j0 (k + 1) y c = some (c + bitLen y.toNat) := by
 have e : bits_Len64.j0 (k + 1) y c = if y ≥ 65536 then (if (y / 65536) ≥ 256 then (if 0 ≤ (((y / 65536) / 256) % 256) then (if (((y / 65536) / 256) % 256) < 256 then (some (wrap64 ((wrap64 ((wrap64 (c + 16)) + 8)) + (wrap64 (bt tab8 (((y / 65536) / 256) % 256)))))) else none) else none)
   else (if 0 ≤ ((y / 65536) % 256) then (if ((y / 65536) % 256) < 256 then (some (wrap64 ((wrap64 (c + 16)) + (wrap64 (bt tab8 ((y / 65536) % 256)))))) else none) else none))
   else (if y ≥ 256 then (if 0 ≤ ((y / 256) % 256) then (if ((y / 256) % 256) < 256 then (some (wrap64 ((wrap64 (c + 8)) + (wrap64 (bt tab8 ((y / 256) % 256)))))) else none) else none)
   else (if 0 ≤ ((y) % 256) then (if ((y) % 256) < 256 then (some (wrap64 (c + (wrap64 (bt tab8 ((y) % 256)))))) else none) else none)) := by
  rw [bits_Len64.j0]; rfl
 have fin : ∀ (z d : Int) (b : Nat), 0 ≤ z → z < 256 → 0 ≤ d → d ≤ 64 → bitLen y.toNat = b + bitLen z.toNat → c + b = d → wrap64 (d + wrap64 (bt tab8 z)) = c + bitLen y.toNat := by
  intro z d b hz0 hz hd0 hd hb hcd
  have h8 := bitLen_le8 z.toNat (by omega)
  rw [tab8_bt z hz0 hz, w64 (n := (bitLen z.toNat : Int)) (by omega) (by omega), w64 (by omega) (by omega), hb]
  omega
 have sh : ∀ (b : Nat) (z : Int), (z = y / 2 ^ b) → 0 < z → bitLen y.toNat = b + bitLen z.toNat := by
  intro b z hz hz0
  have ez : z.toNat = y.toNat / 2 ^ b := by
   subst hz
   have : ((y.toNat / 2 ^ b : Nat) : Int) = y / 2 ^ b := by rw [Int.natCast_ediv, Int.toNat_of_nonneg h0, Int.natCast_pow]; rfl
   omega
  rw [bitLen_shift y.toNat b (by omega), ez]
 rw [e]
 clear e
 by_cases g1 : y ≥ 65536
 ·rw [if_pos g1]
  by_cases g2 : y / 65536 ≥ 256
  ·rw [if_pos g2, if_pos (by omega), if_pos (by omega), w64 (n := c + 16) (by omega) (by omega), w64 (n := c + 16 + 8) (by omega) (by omega)]
   exact congrArg some (fin _ _ 24 (by omega) (by omega) (by omega) (by omega) (by rw [show y / 65536 / 256 % 256 = y / 16777216 by omega]; exact sh 24 _ (by rfl) (by omega)) (by omega))
  ·rw [if_neg g2, if_pos (by omega), if_pos (by omega), w64 (n := c + 16) (by omega) (by omega)]
   exact congrArg some (fin _ _ 16 (by omega) (by omega) (by omega) (by omega) (by rw [show y / 65536 % 256 = y / 65536 by omega]; exact sh 16 _ (by rfl) (by omega)) (by omega))
 ·rw [if_neg g1]
  by_cases g2 : y ≥ 256
  ·rw [if_pos g2, if_pos (by omega), if_pos (by omega), w64 (n := c + 8) (by omega) (by omega)]
   exact congrArg some (fin _ _ 8 (by omega) (by omega) (by omega) (by omega) (by rw [show y / 256 % 256 = y / 256 by omega]; exact sh 8 _ (by rfl) (by omega)) (by omega))
  ·rw [if_neg g2, if_pos (by omega), if_pos (by omega)]
   exact congrArg some (fin _ _ 0 (by omega) (by omega) (by omega) (by omega) (by rw [show y % 256 = y by omega]; omega) (by omega))
theorem len_ev (x : Int) (h0 : 0 ≤ x) (h1 : x < 18446744073709551616) : Ev (fun k => bits_Len64.f k x) (bitLen x.toNat : Int) := by
 refine Ev.succ (Ev.congr (Ev.pure _) fun k => ?_)
 unfold bits_Len64.f
 by_cases g : x ≥ 4294967296
 ·rw [if_pos g, len_j0 k _ _ (by omega) (by omega) (by omega) (by omega)]
  have ez : (x / 4294967296).toNat = x.toNat / 2 ^ 32 := by
   have : ((x.toNat / 2 ^ 32 : Nat) : Int) = x / 4294967296 := by omega
   omega
  have := bitLen_shift x.toNat 32 (by omega)
  rw [ez, this]
  congr 1
 ·rw [if_neg g, len_j0 k _ _ (by omega) (by omega) (by omega) (by omega)]
  congr 1
  omega
theorem bitLen_le64 {x : Nat} (h : x < 18446744073709551616) : bitLen x ≤ 64 := by
 unfold bitLen
 split
 ·omega
 ·rename_i h0
  have := (Nat.log2_lt h0).2 (show x < 2 ^ 64 from h)
  omega
theorem bitLen_pos {x : Nat} (h : x ≠ 0) : 1 ≤ bitLen x := by unfold bitLen; rw [if_neg h]; omega
theorem lz_ev (x : Int) (h0 : 0 ≤ x) (h1 : x < 18446744073709551616) : Ev (fun k => bits_LeadingZeros64.f k x) (64 - bitLen x.toNat : Int) := by
 refine Ev.bind (g := fun _ t => some (wrap64 (64 - t))) (len_ev x h0 h1) (Ev.const ?_)
 have := bitLen_le64 (x := x.toNat) (by omega)
 rw [w64 (by omega) (by omega)]
def topOf (l : List Int) : Int := rd l ((l.length : Int) - 1)
theorem size_ev {l : List Int} (hl : l ≠ []) (hd : Dig 18446744073709551616 l) (hlen : l.length < 1099511627776) :
  Ev (fun k => big_size.f k l) (64 * ((l.length : Int) - 1) + bitLen (topOf l).toNat) := by
 have h0 : 0 < l.length := List.length_pos_iff.2 hl
 have hr := rd_dig hd (i := (l.length : Int) - 1) (by omega) (by omega)
 have hb := bitLen_le64 (x := (topOf l).toNat) (by unfold topOf; omega)
 have := Ev.bind (g := fun _ t => some (wrap64 ((wrap64 (64 * (l.length : Int))) - t))) (lz_ev (topOf l) hr.1 hr.2) (Ev.const (r := 64 * ((l.length : Int) - 1) + bitLen (topOf l).toNat) (by rw [w64 (n := 64 * (l.length : Int)) (by omega) (by omega), w64 (by omega) (by omega)]; congr 1; omega))
 refine Ev.congr this fun k => ?_
 have e : wrap64 ((l.length : Int) - 1) = (l.length : Int) - 1 := w64 (by omega) (by omega)
 have c1 : ¬ (l.length : Int) = 0 := by omega
 have c2 : 0 ≤ (l.length : Int) - 1 := by omega
 have c3 : (l.length : Int) - 1 < (l.length : Int) := by omega
 unfold big_size.f
 rw [if_neg c1, e, if_pos c2, if_pos c3]
 rfl
theorem or_byte {a b : Int} (h0 : 0 ≤ a) (h1 : a < 72057594037927936) (hb0 : 0 ≤ b) (hb : b < 256) : Go.bits .or .u64 (IntKind.u64.wrap (a * 256)) (IntKind.u64.wrap b) = a * 256 + b := by
 rw [u64 (by omega) (by omega), u64 (by omega) (by omega)]
 obtain ⟨n, rfl⟩ := Int.eq_ofNat_of_zero_le h0
 obtain ⟨m, rfl⟩ := Int.eq_ofNat_of_zero_le hb0
 have := bits_or_u64_nat (n * 256) m (by omega) (by omega)
 rw [show ((n : Nat) : Int) * 256 = ((n * 256 : Nat) : Int) by omega, this]
 have h2 := Nat.two_pow_add_eq_or_of_lt (i := 8) (b := m) (by omega) n
 rw [show n * 256 = 2 ^ 8 * n by omega, ← h2]
 omega
theorem pow256 (m : Nat) : (2 : Int) ^ (8 * m) = 256 ^ m := by rw [Int.pow_mul]; rfl
def byteAt (l : List Int) (j : Nat) : Int := rd l ((j / 8 : Nat) : Int) / 256 ^ (j % 8) % 256
theorem shr_byte (x : Int) (m : Nat) (h : m < 8) : shr .u64 x ((8 * m : Nat) : Int) % 256 = x / 256 ^ m % 256 := by
 unfold shr
 rw [show min ((8 * m : Nat) : Int).toNat IntKind.u64.bits = 8 * m by simp [IntKind.bits]; omega, pow256]
def bytesOf (l : List Int) (nb : Nat) : List Int := (List.range nb).map fun i => byteAt l (nb - 1 - i)
theorem bytes_step (k : Nat) (l x4 : List Int) (nb i j : Nat) (hi : i < nb) (h4 : x4.length = nb) (hj : j = nb - 1 - i) (hj8 : j / 8 < l.length) (hn : nb < 1099511627776) :
  bIBytes.l0 (k + 1) l nb x4 nb i = bIBytes.l0 k l nb (x4.set i (byteAt l j)) nb ((i + 1 : Nat) : Int) := by
 have e1 : wrap64 ((wrap64 ((nb : Int) - 1)) - (i : Int)) = (j : Int) := by rw [w64 (n := (nb : Int) - 1) (by omega) (by omega), w64 (by omega) (by omega)]; omega
 have e2 : wrap64 (Int.tdiv ((j : Nat) : Int) 8) = ((j / 8 : Nat) : Int) := by rw [Int.tdiv_eq_ediv_of_nonneg (by omega), w64 (by omega) (by omega)]; omega
 have e3 : wrap64 (8 * (Int.tmod ((j : Nat) : Int) 8)) = ((8 * (j % 8) : Nat) : Int) := by rw [Int.tmod_eq_emod_of_nonneg (by omega), w64 (by omega) (by omega)]; omega
 have e4 : wrap64 ((i : Int) + 1) = ((i + 1 : Nat) : Int) := by rw [w64 (by omega) (by omega)]; omega
 have c1 : (i : Int) < (nb : Int) := by clear e1 e2 e3 e4; omega
 have c2 : ((j / 8 : Nat) : Int) < (l.length : Int) := by clear e1 e2 e3 e4; omega
 have c3 : (i : Int) < (x4.length : Int) := by clear e1 e2 e3 e4; omega
 rw [bIBytes.l0, if_pos c1, e1, e2, e3, e4, if_pos (Int.natCast_nonneg _), if_pos c2, if_pos (Int.natCast_nonneg _), if_pos (Int.natCast_nonneg _), if_pos c3, shr_byte _ _ (Nat.mod_lt _ (by decide))]
 rfl
theorem bytes_loop (l : List Int) (nb : Nat) (hn : nb < 1099511627776) (hl : ∀ j, j < nb → j / 8 < l.length) : ∀ (m i : Nat), i + m = nb →
  Ev (fun k => bIBytes.l0 k l nb ((List.range i).map (fun i => byteAt l (nb - 1 - i)) ++ List.replicate m 0) nb i) (bytesOf l nb) := by
 intro m
 induction m with
 | zero =>
  intro i hi
  refine Ev.succ (Ev.congr (Ev.pure _) fun k => ?_)
  have : i = nb := by omega
  subst this
  rw [bIBytes.l0, if_neg (Int.lt_irrefl _)]
  simp [bytesOf]
 | succ m ih =>
  intro i hi
  refine Ev.succ (Ev.congr (ih (i + 1) (by omega)) fun k => ?_)
  rw [bytes_step k l _ nb i (nb - 1 - i) (by omega) (by simp; omega) rfl (hl _ (by omega)) hn]
  have e := set_pad ((List.range i).map (fun i => byteAt l (nb - 1 - i))) (byteAt l (nb - 1 - i)) m
  rw [List.length_map, List.length_range] at e
  rw [e, List.range_succ, List.map_append]
  rfl
def nbOf (l : List Int) : Nat := 8 * (l.length - 1) + (bitLen (topOf l).toNat + 7) / 8
theorem bytes_ev {l : List Int} (hl : l ≠ []) (hd : Dig 18446744073709551616 l) (hlen : l.length < 1073741824) : Ev (fun k => bIBytes.f k l) (bytesOf l (nbOf l)) := by
 have h0 : 0 < l.length := List.length_pos_iff.2 hl
 have hr := rd_dig hd (i := (l.length : Int) - 1) (by omega) (by omega)
 have hb := bitLen_le64 (x := (topOf l).toNat) (by unfold topOf; omega)
 have hloop := bytes_loop l (nbOf l) (by unfold nbOf; omega) (fun j hj => by unfold nbOf at hj; omega) (nbOf l) 0 (by omega)
 have e : wrap64 (Int.tdiv (wrap64 (64 * ((l.length : Int) - 1) + (bitLen (topOf l).toNat : Int) + 7)) 8) = ((nbOf l : Nat) : Int) := by
  rw [w64 (n := 64 * ((l.length : Int) - 1) + (bitLen (topOf l).toNat : Int) + 7) (by omega) (by omega), Int.tdiv_eq_ediv_of_nonneg (by omega), w64 (by omega) (by omega)]
  unfold nbOf; omega
 have c : (((nbOf l : Nat) : Int)).toNat ≤ 281474976710656 := by clear e; unfold nbOf; omega
 refine Ev.bind (g := fun k t121 => (if 0 ≤ (wrap64 (Int.tdiv (wrap64 (t121 + 7)) 8)) then (if (wrap64 (Int.tdiv (wrap64 (t121 + 7)) 8) : Int).toNat ≤ 281474976710656 then (bIBytes.l0 k l (wrap64 (Int.tdiv (wrap64 (t121 + 7)) 8)) (List.replicate (wrap64 (Int.tdiv (wrap64 (t121 + 7)) 8) : Int).toNat 0) (wrap64 (Int.tdiv (wrap64 (t121 + 7)) 8)) 0) else none) else none)) (size_ev hl hd (by omega)) (Ev.congr hloop fun k => ?_)
 rw [e, if_pos (Int.natCast_nonneg _), if_pos c, Int.toNat_natCast]
 simp
end Go.Proofs.Ytbmddlldadbfnaa.BM
end
section
namespace Go.Proofs.Ytbmddlldadbfnaa.BM
open Go.RowKit Go.Proofs.YtbmddlldadbfnaaW.PrintWords Go.Proofs.YtbmddlldadbfnaaW.PrintLast Go.Proofs.YtbmddlldadbfnaaW.PrintMore
open Go.Proofs.Ytbmddlldadbfnaa.BA
theorem limbs_step (k : Nat) (x3 x4 : List Int) (x5 x6 y z : Int) (c : List Int) (u : Nat) (hu : u < c.length) (hl : c.length < 100) (hz : rd c u = z) (hy : Go.bits .or .u64 (IntKind.u64.wrap (x6 * 256)) (IntKind.u64.wrap z) = y) :
  exact_Limbs.l1 (k + 1) x3 x4 x5 x6 c c.length u = exact_Limbs.l1 k x3 x4 x5 y c c.length ((u + 1 : Nat) : Int) := by
 have e : wrap64 ((u : Int) + 1) = ((u + 1 : Nat) : Int) := by rw [w64 (by omega) (by omega)]; omega
 rw [exact_Limbs.l1, if_pos (Int.ofNat_lt.2 hu), if_pos (Int.natCast_nonneg _), if_pos (Int.ofNat_lt.2 hu), hz, hy, e]
theorem div_step (x : Int) (m : Nat) : x / 256 ^ (m + 1) * 256 + x / 256 ^ m % 256 = x / 256 ^ m := by
 rw [Int.pow_succ, ← Int.ediv_ediv_of_nonneg (Int.pow_nonneg (by omega))]
 omega
theorem div_small {x : Int} {m : Nat} (h0 : 0 ≤ x) (h1 : x < 18446744073709551616) : x / 256 ^ (m + 1) < 72057594037927936 := by
 have hp := pow_pos' (show (0 : Int) < 256 by omega) m
 rw [Int.pow_succ, Int.mul_comm, ← Int.ediv_ediv_of_nonneg (by omega)]
 have := Int.ediv_le_self (a := x / 256) (256 ^ m) (by omega)
 omega
theorem limb_loop (x : Int) (h0 : 0 ≤ x) (h1 : x < 18446744073709551616) (x3 x4 : List Int) (x5 : Int) (c : List Int) (hl : c.length < 100) (hc : ∀ u : Nat, u < c.length → rd c (u : Int) = x / 256 ^ (c.length - 1 - u) % 256)
  (h3 : x3.length < 17592186044416) (nxt : Int) (hnx : wrap64 (x5 - 8) = nxt) (r : List Int) (hr : Ev (fun k => exact_Limbs.l0 k (x3 ++ [x]) x4 nxt) r) :
  ∀ (m u : Nat), u + m = c.length → Ev (fun k => exact_Limbs.l1 k x3 x4 x5 (x / 256 ^ m) c c.length u) r := by
 intro m
 induction m with
 | zero =>
  intro u hu
  have : u = c.length := by omega
  subst this
  refine Ev.succ (Ev.congr hr fun k => ?_)
  rw [exact_Limbs.l1, if_neg (Int.lt_irrefl _), if_pos h3, hnx]
  simp
 | succ m ih =>
  intro u hu
  have hd0 : 0 ≤ x / 256 ^ (m + 1) := Int.ediv_nonneg h0 (Int.pow_nonneg (by omega))
  refine Ev.succ (Ev.congr (ih (u + 1) (by omega)) fun k => ?_)
  refine limbs_step k x3 x4 x5 _ _ (x / 256 ^ m % 256) c u (by omega) hl ?_ ?_
  ·rw [hc u (by omega), show c.length - 1 - u = m by omega]
  ·rw [or_byte hd0 (div_small h0 h1) (by omega) (by omega), div_step]
theorem rd_bytes (l : List Int) (nb i : Nat) (h : i < nb) : (bytesOf l nb)[i]'(by simp [bytesOf]; exact h) = byteAt l (nb - 1 - i) := by simp [bytesOf]
theorem limbs_out (k : Nat) (x3 x4 : List Int) (x5 lo : Nat) (c : List Int) (h : 0 < x5) (hx : x5 < 1099511627776) (hlo : lo = x5 - 8) (h4 : x5 ≤ x4.length) (hc : (x4.take x5).drop lo = c) :
  exact_Limbs.l0 (k + 1) x3 x4 x5 = exact_Limbs.l1 k x3 x4 x5 0 c c.length 0 := by
 have e : mx (wrap64 ((x5 : Int) - 8)) 0 = (lo : Int) := by
  rw [w64 (by omega) (by omega)]
  unfold mx
  split <;> omega
 have c0 : (x5 : Int) > 0 := by omega
 have c1 : (lo : Int) ≤ (x5 : Int) := by omega
 have c2 : (x5 : Int) ≤ (x4.length : Int) := by omega
 rw [exact_Limbs.l0, if_pos c0, e, if_pos (Int.natCast_nonneg _), if_pos c1, if_pos c2, Int.toNat_natCast, Int.toNat_natCast, hc]
theorem pow_bits {x : Int} (h0 : 0 ≤ x) (c : Nat) (h : bitLen x.toNat ≤ 8 * c) : x < 256 ^ c := by
 have h1 := (bitLen_spec x.toNat).1
 have h2 : (2 : Nat) ^ bitLen x.toNat ≤ 2 ^ (8 * c) := Nat.pow_le_pow_right (by omega) h
 have h3 : x.toNat < 2 ^ (8 * c) := Nat.lt_of_lt_of_le h1 h2
 rw [← pow256]
 have : ((2 ^ (8 * c) : Nat) : Int) = (2 : Int) ^ (8 * c) := by rw [Int.natCast_pow]; rfl
 omega
theorem limbs_loop {l : List Int} (hl : l ≠ []) (hd : Dig 18446744073709551616 l) (ht : Top l) (hlen : l.length < 1073741824) :
  ∀ (m t : Nat), t + m = l.length → Ev (fun k => exact_Limbs.l0 k (l.take t) (bytesOf l (nbOf l)) ((nbOf l : Int) - 8 * (t : Int))) l := by
 have h0 : 0 < l.length := List.length_pos_iff.2 hl
 have hr := rd_dig hd (i := (l.length : Int) - 1) (by omega) (by omega)
 have hb := bitLen_le64 (x := (topOf l).toNat) (by unfold topOf; omega)
 have htop : topOf l ≠ 0 := by have := ht hl; rwa [getLast_rd] at this
 have hb1 := bitLen_pos (x := (topOf l).toNat) (by unfold topOf at htop ⊢; omega)
 have hnb : nbOf l = 8 * (l.length - 1) + (bitLen (topOf l).toNat + 7) / 8 := rfl
 have hnl : (bytesOf l (nbOf l)).length = nbOf l := by simp [bytesOf]
 intro m
 induction m with
 | zero =>
  intro t htt
  have : t = l.length := by omega
  subst this
  refine Ev.succ (Ev.congr (Ev.pure _) fun k => ?_)
  rw [exact_Limbs.l0, if_neg (by omega), List.take_length]
 | succ m ih =>
  intro t htt
  have hx := rd_dig hd (i := (t : Int)) (by omega) (by omega)
  have h5 : 8 * t < nbOf l := by omega
  have hih := ih (t + 1) (by omega)
  rw [show l.take (t + 1) = l.take t ++ [rd l (t : Int)] from take_rd l (by omega)] at hih
  obtain ⟨x5, e5⟩ : ∃ x5, x5 = nbOf l - 8 * t := ⟨_, rfl⟩
  obtain ⟨c, ec⟩ : ∃ c, ((bytesOf l (nbOf l)).take x5).drop (x5 - 8) = c := ⟨_, rfl⟩
  have hcl : c.length = x5 - (x5 - 8) := by rw [← ec, List.length_drop, List.length_take, hnl]; omega
  have hcr : ∀ u : Nat, u < c.length → rd c (u : Int) = rd l (t : Int) / 256 ^ (c.length - 1 - u) % 256 := by
   intro u hu
   have h1 : rd c (u : Int) = (bytesOf l (nbOf l))[x5 - 8 + u]'(by rw [hnl]; omega) := by
    rw [rd_nat c hu]
    simp only [← ec, List.getElem_drop, List.getElem_take]
   have e8 : nbOf l - 1 - (x5 - 8 + u) = 8 * t + (c.length - 1 - u) := by omega
   rw [h1, rd_bytes l (nbOf l) _ (by omega), e8]
   unfold byteAt
   rw [show (8 * t + (c.length - 1 - u)) / 8 = t by omega, show (8 * t + (c.length - 1 - u)) % 8 = c.length - 1 - u by omega]
  have hzero : rd l (t : Int) / 256 ^ c.length = 0 := by
   refine Int.ediv_eq_zero_of_lt hx.1 ?_
   rcases Nat.lt_or_ge (t + 1) l.length with hlt | hge
   ·have : c.length = 8 := by omega
    rw [this]; exact hx.2
   ·have e : topOf l = rd l (t : Int) := by unfold topOf; rw [show (l.length : Int) - 1 = (t : Int) by omega]
    rw [← e]
    refine pow_bits (by rw [e]; exact hx.1) _ ?_
    omega
  have hnx : wrap64 ((x5 : Int) - 8) = (nbOf l : Int) - 8 * ((t + 1 : Nat) : Int) := by rw [w64 (by omega) (by omega)]; omega
  have hloop := limb_loop (rd l (t : Int)) hx.1 hx.2 (l.take t) (bytesOf l (nbOf l)) (x5 : Int) c (by clear hnx; omega) hcr (by clear hnx; rw [List.length_take]; omega) _ hnx l hih c.length 0 (by clear hnx; omega)
  rw [hzero] at hloop
  refine Ev.succ (Ev.congr hloop fun k => ?_)
  rw [show (nbOf l : Int) - 8 * (t : Int) = (x5 : Int) by clear hnx; omega]
  exact limbs_out k (l.take t) (bytesOf l (nbOf l)) x5 (x5 - 8) c (by clear hnx; omega) (by clear hnx; omega) rfl (by clear hnx; omega) ec
theorem limbs_ev {l : List Int} (hl : l ≠ []) (hd : Dig 18446744073709551616 l) (ht : Top l) (hlen : l.length < 1073741824) : Ev (fun k => exact_Limbs.f k (bytesOf l (nbOf l))) l := by
 have hnl : (bytesOf l (nbOf l)).length = nbOf l := by simp [bytesOf]
 refine Ev.congr (limbs_loop hl hd ht hlen l.length 0 (by omega)) fun k => ?_
 unfold exact_Limbs.f
 rw [hnl]
 simp
theorem clone_f (l : List Int) (h : l.length < 17592186044416) : sClone.f l = some l := by
 unfold sClone.f
 simp [h]
theorem bigLimbs_ev {l : List Int} {n : Int} (h : Can 18446744073709551616 l n) (hlen : l.length < 1073741824) : Ev (fun k => bigLimbs.f k l) l := by
 refine Ev.bind1 (clone_f l (by omega)) ?_
 refine Ev.bind (g := fun k m => (bIBytes.f k m).bind fun b => exact_Limbs.f k b) (trim_can (by omega) h (by omega)) ?_
 by_cases hl : l = []
 ·subst hl
  refine Ev.bind (g := fun k b => exact_Limbs.f k b) (a := []) ?_ ?_
  ·refine Ev.succ (Ev.congr (Ev.pure _) fun k => ?_)
   unfold bIBytes.f big_size.f
   rw [if_pos (show ((([] : List Int).length : Nat) : Int) = 0 from rfl)]
   simp [wrap64, bIBytes.l0]
  ·refine Ev.succ (Ev.congr (Ev.pure _) fun k => ?_)
   unfold exact_Limbs.f
   rw [exact_Limbs.l0]
   simp
 ·exact Ev.bind (g := fun k b => exact_Limbs.f k b) (bytes_ev hl h.1.1 hlen) (limbs_ev hl h.1.1 h.2 hlen)
theorem told_ev {l : List Int} {n : Int} (h : Can 18446744073709551616 l n) (hlen : l.length ≤ 4096) (neg : Bool) : Ev (fun k => exact_Told.f k (neg && decide (0 < l.length)) l) (neg && decide (0 < l.length), l, true) := by
 unfold exact_Told.f bigSign.f
 simp only [Option.bind_some]
 refine Ev.bind (g := fun _ (t103 : List Int) => if (t103.length : Int) > 4096 then some (false, ([] : List Int), false) else some (decide ((if l.length = 0 then (0 : Int) else if (neg && decide (0 < l.length)) = true then -1 else 1) < 0), t103, true)) (bigLimbs_ev h (by omega)) (Ev.const ?_)
 rw [if_neg (by omega)]
 congr 2
 by_cases h0 : l.length = 0
 ·simp [h0]
 ·rw [if_neg h0]
  cases neg <;> simp [show 0 < l.length by omega]
theorem bigRead_of {s : ByteArray} {b : Int} {q1 m : List Int} {q2 : Bool} {r : Bool × List Int × Bool} (h1 : Ev (fun k => bISetString.f k 0 s b) (q1, q2)) (h2 : Ev (fun k => big_trim.f k q1) m)
  (h3 : Ev (fun k => exact_Told.f k (q2 && decide (0 < m.length)) m) r) : Ev (fun k => bigRead.f k s b) r := by
 obtain ⟨K1, h1⟩ := h1
 obtain ⟨K2, h2⟩ := h2
 obtain ⟨K3, h3⟩ := h3
 refine ⟨max K1 (max K2 K3), fun k hk => ?_⟩
 have e1 : bISetString.f k 0 s b = some (q1, q2) := h1 k (by omega)
 have e2 : big_trim.f k q1 = some m := h2 k (by omega)
 have e3 : exact_Told.f k (q2 && decide (0 < m.length)) m = some r := h3 k (by omega)
 show bigRead.f k s b = some r
 unfold bigRead.f
 rw [e1, Option.bind_some, e2, Option.bind_some, e3]
theorem bigRead_ev (s : ByteArray) (b : Int) (hb : 2 ≤ b) (hb' : b ≤ 36) (hs0 : 0 < (bodyOf s).size) (hs : s.size ≤ 4096) (hg : ∀ i : Nat, i < (bodyOf s).size → 0 ≤ wv (bt (bodyOf s) i) b) :
  ∃ l, Ev (fun k => bigRead.f k s b) ((bt s 0 == 45) && decide (0 < l.length), l, true) ∧ Can 18446744073709551616 l (D b (fun i => wv (bt (bodyOf s) i) b) (bodyOf s).size) := by
 obtain ⟨l, h1, h2⟩ := ss_ev s b hb hb' hs0 (by omega) hg
 have hbs : (bodyOf s).size ≤ s.size := by unfold bodyOf; split <;> simp
 have hlen : l.length ≤ (bodyOf s).size := by
  refine Can_len (by omega) h2 ?_
  have h1 := D_lt (b := b) (g := fun i => wv (bt (bodyOf s) i) b) (t := (bodyOf s).size) (by omega) (fun j _ => wv_lt _ b (by omega))
  have h2 := pow_mono (show 0 ≤ b by omega) (show b ≤ 18446744073709551616 by omega) (bodyOf s).size
  exact Int.lt_of_lt_of_le h1 h2
 have hl4 : l.length ≤ 4096 := by omega
 have hl5 : l.length < 4611686018427387904 := by omega
 refine ⟨l, ?_, h2⟩
 exact bigRead_of h1 (trim_can (B := 18446744073709551616) (n := D b (fun i => wv (bt (bodyOf s) i) b) (bodyOf s).size) (by omega) h2 hl5) (told_ev h2 hl4 (bt s 0 == 45))
end Go.Proofs.Ytbmddlldadbfnaa.BM
end
section
namespace Go.Proofs.Ytbmddlldadbfnaa.BM
open Go.RowKit Go.Proofs.YtbmddlldadbfnaaW.PrintWords Go.Proofs.YtbmddlldadbfnaaW.PrintLast Go.Proofs.YtbmddlldadbfnaaW.PrintMore
open Go.Proofs.Ytbmddlldadbfnaa.BB
def Late (P : Nat → Prop) : Prop := ∃ K, ∀ k, K ≤ k → P k
theorem Late.and {P Q : Nat → Prop} (h : Late P) (h' : Late Q) : Late fun k => P k ∧ Q k := by
 obtain ⟨K, hK⟩ := h
 obtain ⟨L, hL⟩ := h'
 exact ⟨max K L, fun k hk => ⟨hK k (by omega), hL k (by omega)⟩⟩
theorem Ev.late {α : Type} {f : Nat → Option α} {r : α} (h : Ev f r) : Late fun k => f k = some r := h
theorem Late.step {β : Type} {P : Nat → Prop} {g t : Nat → Option β} {r : β} (hP : Late P) (h : ∀ k, P k → t k = g k) (hg : Ev g r) : Ev t r := by
 obtain ⟨K, hK⟩ := hP
 obtain ⟨L, hL⟩ := hg
 exact ⟨max K L, fun k hk => (h k (hK k (by omega))).trans (hL k (by omega))⟩
theorem zero_ev {l : List Int} {n : Int} (h : Can 18446744073709551616 l n) (hb : l.length < 1073741824) (neg : Bool) (e : Int) : Ev (fun k => r00Num_Zero.f k neg l e) (decide (l = [])) := by
 refine Ev.bind (g := fun _ t139 => some (t139 == 0)) (natbits_ev h hb) (Ev.const ?_)
 rw [bitsOf_zero h]
theorem times0_ev {a b : List Int} {x y : Int} (ha : Can 18446744073709551616 a x) (hb : Can 18446744073709551616 b y) (hla : a.length < 10000000) (hlb : b.length < 10000000) (n m : Bool) :
  ∃ r, Ev (fun k => r00Times.f k n a 0 m b 0) ((n != m), r, 0) ∧ Can 18446744073709551616 r (x * y) := by
 obtain ⟨r, hr, hc⟩ := natmul_ev ha.1 hb.1 hla hlb
 refine ⟨r, Ev.bind (g := fun _ t283 => some ((n != m), t283, wrap64 (0 + 0))) hr (Ev.const ?_), hc⟩
 rw [w64 (by omega) (by omega)]
 rfl
def dgt (x : Int) : Int := if x < 10 then 48 + x else 87 + x
end Go.Proofs.Ytbmddlldadbfnaa.BM
end
section
namespace Go.Proofs.Ytbmddlldadbfnaa.BM
open Go.RowKit Go.Proofs.YtbmddlldadbfnaaW.PrintWords Go.Proofs.YtbmddlldadbfnaaW.PrintLast Go.Proofs.YtbmddlldadbfnaaW.PrintMore
def scan (s : ByteArray) (b : Int) (st : Nat) : Nat → Nat → Int
 | 0, _ => if st = s.size then (s.size : Int) else -1
 | m + 1, i => if wv (bt s (i : Int)) b < 0 then (i : Int) else if wv (bt s (i : Int)) b = 0 ∧ i = st ∧ st = 1 then (i : Int) else if i = st + 1 ∧ bt s (st : Int) = 48 then (i : Int) else scan s b st m (i + 1)
theorem scan_ok {s : ByteArray} {b : Int} {st : Nat} : ∀ (m i : Nat), scan s b st m i < 0 → i + m = s.size → st ≠ s.size ∧ ∀ j, i ≤ j → j < s.size → 0 ≤ wv (bt s (j : Int)) b
 | 0, i, h, hi => by
  unfold scan at h
  by_cases hs : st = s.size
  ·rw [if_pos hs] at h; omega
  ·exact ⟨hs, fun j h1 h2 => by omega⟩
 | m + 1, i, h, hi => by
  unfold scan at h
  split at h
  ·omega
  ·rename_i h1
   split at h
   ·omega
   ·split at h
    ·omega
    ·obtain ⟨h2, h3⟩ := scan_ok m (i + 1) h (by omega)
     refine ⟨h2, fun j hj hj2 => ?_⟩
     rcases Nat.eq_or_lt_of_le hj with he | hlt
     ·subst he; omega
     ·exact h3 j hlt hj2
section
open Go.Proofs.Ytbmddlldadbfnaa.BB
def startOf (s : ByteArray) : Nat := if bt s 0 = 45 then 1 else 0
theorem start_le (s : ByteArray) : startOf s ≤ s.size := by
 unfold startOf
 split
 ·rename_i h
  rcases Nat.eq_zero_or_pos s.size with h0 | h0
  ·exfalso
   unfold bt at h
   rw [dif_neg (by show ¬ (0 < s.size); omega)] at h
   omega
  ·exact h0
 ·omega
end
section
open Go.Proofs.Ytbmddlldadbfnaa.BA
def allDigits : ByteArray := (⟨#[48, 49, 50, 51, 52, 53, 54, 55, 56, 57, 97, 98, 99, 100, 101, 102, 103, 104, 105, 106, 107, 108, 109, 110, 111, 112, 113, 114, 115, 116, 117, 118, 119, 120, 121, 122]⟩ : ByteArray)
theorem allDigits_bt : ∀ i : Fin 36, bt allDigits ((i.val : Nat) : Int) = dgt (i.val : Int) := by decide +kernel
theorem digits_size (b : Int) (hb : 2 ≤ b) (hb' : b ≤ 36) : ((baseDigits b).size : Int) = b := by
 unfold baseDigits
 rw [ByteArray.size_extract]
 have : allDigits.size = 36 := by decide +kernel
 show ((min b.toNat allDigits.size - 0 : Nat) : Int) = b
 omega
theorem digits_bt (b : Int) (hb : 2 ≤ b) (hb' : b ≤ 36) (i : Nat) (h : (i : Int) < b) : bt (baseDigits b) (i : Int) = dgt i := by
 have hsz : allDigits.size = 36 := by decide +kernel
 have h1 := bt_extract allDigits (i := 0) (j := b.toNat) (t := i) (by omega) (by omega)
 rw [Nat.zero_add] at h1
 exact h1.trans (allDigits_bt ⟨i, by omega⟩)
theorem runeAt_loop (r b : Int) (hb : 2 ≤ b) (hb' : b ≤ 36) : ∀ (m i : Nat), ((i + m : Nat) : Int) = b → (∀ t : Int, 0 ≤ t → t < i → dgt t ≠ r) → Ev (fun k => base_runeAt.l0 k (baseDigits b) r i) (wv r b) := by
 have hsz := digits_size b hb hb'
 intro m
 induction m with
 | zero =>
  intro i hx hn
  refine Ev.succ (Ev.congr (Ev.pure _) fun k => ?_)
  rw [base_runeAt.l0, if_neg (by omega)]
  congr 1
  have h1 := hn (r - 48)
  have h2 := hn (r - 87)
  unfold dgt at h1 h2
  unfold wv
  split
  ·rw [if_pos (by omega)] at h1; omega
  ·split
   ·rw [if_neg (by omega)] at h2; omega
   ·rfl
 | succ m ih =>
  intro i hx hn
  have hd := digits_bt b hb hb' i (by omega)
  have hlt : dgt (i : Int) < 128 := by unfold dgt; split <;> omega
  by_cases hr : dgt (i : Int) = r
  ·refine Ev.succ (Ev.congr (Ev.pure _) fun k => ?_)
   rw [base_runeAt.l0, if_pos (by omega), hd, if_pos hlt, if_pos hr]
   congr 1
   unfold dgt at hr
   unfold wv
   split at hr <;> (repeat' split) <;> omega
  ·refine Ev.succ (Ev.congr (ih (i + 1) (by omega) (fun t ht0 ht1 => ?_)) fun k => ?_)
   ·rcases Int.lt_or_eq_of_le (show t ≤ (i : Int) by omega) with h | h
    ·exact hn t ht0 h
    ·subst h; exact hr
   ·rw [base_runeAt.l0, if_pos (by omega), hd, if_pos hlt, if_neg hr]
theorem runeAt_ev (r b : Int) (hb : 2 ≤ b) (hb' : b ≤ 36) : Ev (fun k => base_runeAt.f k (baseDigits b) r) (wv r b) :=
 runeAt_loop r b hb hb' b.toNat 0 (by omega) (fun t h0 h1 => by omega)
theorem decode_high (s : ByteArray) (i : Nat) (h : 128 ≤ (s.get! i).toNat) : 128 ≤ (Utf8.decode s i).1 := by
 unfold Utf8.decode
 simp only [Nat.add_zero]
 rw [if_neg (by omega)]
 (repeat' split) <;> (try simp only [Utf8.runeError]) <;> (try omega)
 all_goals (rename_i h; simp only [Bool.and_eq_true, decide_eq_true_eq] at h; omega)
theorem get_at (s : ByteArray) (i : Nat) (h : i < s.size) : s.get! i = s[i]'h := by
 simp [ByteArray.get!, getElem!_pos, h]
 rfl
theorem get_bt (s : ByteArray) (i : Nat) (h : i < s.size) : ((s.get! i).toNat : Int) = bt s (i : Int) := by
 unfold bt
 have e : ((i : Nat) : Int).toNat = i := by omega
 simp only [e]
 rw [dif_pos h]
 congr 2
 exact get_at s i h
theorem decode_wv (s : ByteArray) (i : Nat) (h : i < s.size) (b : Int) : wv ((Utf8.decode s i).1 : Int) b = wv (bt s (i : Int)) b ∧ (0 ≤ wv (bt s (i : Int)) b → (Utf8.decode s i).2 = 1) := by
 have hg := get_bt s i h
 by_cases ha : (s.get! i).toNat < 128
 ·have e : s[i]'h = s.get! i := (get_at s i h).symm
  have := decode_ascii s i h (by rw [e]; exact ha)
  rw [this, e]
  refine ⟨?_, fun _ => rfl⟩
  show wv (((s.get! i).toNat : Nat) : Int) b = _
  rw [hg]
 ·have h1 := decode_high s i (by omega)
  have e1 : wv ((Utf8.decode s i).1 : Int) b = -1 := by unfold wv; rw [if_neg (by omega), if_neg (by omega)]
  have e2 : wv (bt s (i : Int)) b = -1 := by unfold wv; rw [if_neg (by omega), if_neg (by omega)]
  refine ⟨by rw [e1, e2], fun h => by rw [e2] at h; omega⟩
theorem wrong_loop (s body : ByteArray) (b : Int) (hb : 2 ≤ b) (hb' : b ≤ 36) (st : Nat) (hs : s.size < 1099511627776) (hsz : body.size = s.size - st) (hst : st ≤ s.size) (hbt : ∀ i : Nat, i < body.size → bt body (i : Int) = bt s ((st + i : Nat) : Int)) (h1 : st ≤ 1) :
  ∀ (m i : Nat), i + m = body.size → Ev (fun k => base_wrong.l0 k s b body st i) (scan s b st m (st + i)) := by
 intro m
 induction m with
 | zero =>
  intro i hi
  refine Ev.succ (Ev.congr (Ev.pure _) fun k => ?_)
  rw [base_wrong.l0, if_neg (by omega)]
  unfold scan
  by_cases h : st = s.size
  ·rw [if_pos h, if_pos (by omega)]
  ·rw [if_neg h, if_neg (by omega)]
 | succ m ih =>
  intro i hi
  obtain ⟨hd1, hd2⟩ := decode_wv body i (by omega) b
  rw [hbt i (by omega)] at hd1 hd2
  have hw := runeAt_ev ((Utf8.decode body i).1 : Int) b hb hb'
  rw [hd1] at hw
  have e : wrap64 ((st : Int) + (i : Int)) = ((st + i : Nat) : Int) := by rw [w64 (by omega) (by omega)]; omega
  have c1 : i < body.size := by clear e; omega
  have hb0 : i = 1 → bt body 0 = bt s (st : Int) := fun h => by
   have := hbt 0 (by clear e; omega)
   simpa using this
  have k0 : ∀ k, base_runeAt.f k (baseDigits b) ((Utf8.decode body i).1 : Int) = some (wv (bt s ((st + i : Nat) : Int)) b) → base_wrong.l0 (k + 1) s b body st i =
    if wv (bt s ((st + i : Nat) : Int)) b < 0 then some ((st + i : Nat) : Int) else if wv (bt s ((st + i : Nat) : Int)) b = 0 ∧ st + i = st ∧ st = 1 then some ((st + i : Nat) : Int)
    else if st + i = st + 1 ∧ bt s (st : Int) = 48 then some ((st + i : Nat) : Int) else base_wrong.l0 k s b body st (i + (Utf8.decode body i).2) := by
   intro k hk
   rw [base_wrong.l0, if_pos c1, hk, Option.bind_some, e]
   clear e
   by_cases g1 : wv (bt s ((st + i : Nat) : Int)) b < 0
   ·rw [if_pos g1, if_pos g1]
   ·rw [if_neg g1, if_neg g1]
    by_cases g2 : wv (bt s ((st + i : Nat) : Int)) b = 0 ∧ st + i = st ∧ st = 1
    ·rw [if_pos g2, if_pos ⟨g2.1, by omega, by omega⟩]
    ·rw [if_neg g2, if_neg (fun h => g2 ⟨h.1, by omega, by omega⟩)]
     by_cases g3 : st + i = st + 1 ∧ bt s (st : Int) = 48
     ·rw [if_pos g3, if_pos ⟨by omega, by rw [hb0 (by omega)]; exact g3.2⟩]
     ·rw [if_neg g3, if_neg (fun h => g3 ⟨by omega, by rw [← hb0 h.1]; exact h.2⟩)]
  refine Ev.succ ?_
  by_cases g1 : wv (bt s ((st + i : Nat) : Int)) b < 0
  ·refine Late.step (g := fun _ => some ((st + i : Nat) : Int)) hw.late (fun k hk => ?_) (Ev.const (by rw [scan, if_pos g1]))
   rw [k0 k hk, if_pos g1]
  ·by_cases g2 : wv (bt s ((st + i : Nat) : Int)) b = 0 ∧ st + i = st ∧ st = 1
   ·refine Late.step (g := fun _ => some ((st + i : Nat) : Int)) hw.late (fun k hk => ?_) (Ev.const (by rw [scan, if_neg g1, if_pos g2]))
    rw [k0 k hk, if_neg g1, if_pos g2]
   ·by_cases g3 : st + i = st + 1 ∧ bt s (st : Int) = 48
    ·refine Late.step (g := fun _ => some ((st + i : Nat) : Int)) hw.late (fun k hk => ?_) (Ev.const (by rw [scan, if_neg g1, if_neg g2, if_pos g3]))
     rw [k0 k hk, if_neg g1, if_neg g2, if_pos g3]
    ·have he : scan s b st (m + 1) (st + i) = scan s b st m (st + (i + 1)) := by rw [scan, if_neg g1, if_neg g2, if_neg g3]; rfl
     rw [he]
     refine Late.step hw.late (fun k hk => ?_) (ih (i + 1) (by clear e; omega))
     rw [k0 k hk, if_neg g1, if_neg g2, if_neg g3, hd2 (by clear e; omega)]
theorem body_size (s : ByteArray) : (bodyOf s).size = s.size - startOf s := by
 have := start_le s
 unfold bodyOf startOf
 by_cases h : bt s 0 = 45
 ·have h0 : 0 < s.size := by unfold startOf at this; rw [if_pos h] at this; omega
  rw [if_pos ⟨h0, h⟩, if_pos h, ByteArray.size_extract]; omega
 ·rw [if_neg (fun h' => h h'.2), if_neg h]; omega
theorem body_bt (s : ByteArray) (i : Nat) (hi : i < (bodyOf s).size) : bt (bodyOf s) (i : Int) = bt s ((startOf s + i : Nat) : Int) := by
 rw [body_size] at hi
 have := start_le s
 unfold bodyOf
 unfold startOf at hi this ⊢
 by_cases h : bt s 0 = 45
 ·rw [if_pos h] at hi this ⊢
  rw [if_pos ⟨by omega, h⟩]
  exact bt_extract s (by omega) (by omega)
 ·rw [if_neg h] at hi this ⊢
  rw [if_neg (fun h' => h h'.2), Nat.zero_add]
theorem trimPrefix (s : ByteArray) : strings_TrimPrefix.f s (⟨#[45]⟩ : ByteArray) = some (bodyOf s) := by
 unfold strings_TrimPrefix.f stringslite_TrimPrefix.f stringslite_HasPrefix.f bodyOf
 have e : ((⟨#[45]⟩ : ByteArray).size : Int) = 1 := rfl
 rw [e]
 by_cases h0 : 0 < s.size
 ·rw [if_pos (by omega), if_pos (by decide), if_pos (by omega), Option.bind_some]
  have hx : ((s.extract 0 (1 : Int).toNat).toList == (⟨#[45]⟩ : ByteArray).toList) = decide (bt s 0 = 45) := by
   have h1 : s.extract 0 1 = ⟨#[s[0]'h0]⟩ := by
    apply ByteArray.ext
    apply Array.ext
    ·show (s.extract 0 1).size = 1
     rw [ByteArray.size_extract]; omega
    ·intro i h1 h2
     have : i = 0 := by simp at h2; omega
     subst this
     exact ByteArray.getElem_extract (i := 0) (b := s) (start := 0) (stop := 1) (by rw [ByteArray.size_extract]; omega)
   show ((s.extract 0 1).toList == _) = _
   rw [h1]
   have h2 : (⟨#[s[0]'h0]⟩ : ByteArray).toList = [s[0]'h0] := ByteArray.toList_mk [s[0]'h0]
   have h3 : (⟨#[45]⟩ : ByteArray).toList = [45] := ByteArray.toList_mk [45]
   rw [h2, h3]
   have h4 : bt s 0 = ((s[0]'h0).toNat : Int) := by unfold bt; rw [dif_pos (by exact h0)]; rfl
   rw [h4]
   by_cases h5 : s[0]'h0 = 45
   ·rw [h5]; rfl
   ·have : ¬ ((s[0]'h0).toNat : Int) = 45 := fun h => h5 (UInt8.toNat_inj.1 (by simpa using (by omega : (s[0]'h0).toNat = 45)))
    rw [decide_eq_false this]
    simp [h5]
  rw [hx]
  by_cases h : bt s 0 = 45
  ·rw [decide_eq_true h, if_pos rfl, if_pos (by decide), if_pos (by omega), Option.bind_some, if_pos ⟨h0, h⟩]
   rfl
  ·rw [decide_eq_false h, if_neg (by decide), Option.bind_some, if_neg (fun h' => h h'.2)]
 ·rw [if_neg (by omega), Option.bind_some, if_neg (by decide), Option.bind_some, if_neg (fun h => h0 h.1)]
theorem wrong_ev (s : ByteArray) (b : Int) (hb : 2 ≤ b) (hb' : b ≤ 36) (hs : s.size < 1099511627776) : Ev (fun k => base_wrong.f k s b) (scan s b (startOf s) (s.size - startOf s) (startOf s)) := by
 have hst := start_le s
 have hst1 : startOf s ≤ 1 := by unfold startOf; split <;> omega
 have hsz := body_size s
 have h := wrong_loop s (bodyOf s) b hb hb' (startOf s) hs hsz hst (body_bt s) hst1 (s.size - startOf s) 0 (by omega)
 refine Ev.congr h fun k => ?_
 unfold base_wrong.f
 have e : wrap64 ((s.size : Int) - ((bodyOf s).size : Int)) = (startOf s : Int) := by rw [w64 (by omega) (by omega)]; omega
 rw [if_pos ⟨by clear e; omega, hb'⟩, trimPrefix, Option.bind_some, e]
end
end Go.Proofs.Ytbmddlldadbfnaa.BM
end
section
namespace Go.Proofs.Ytbmddlldadbfnaa.BM
open Go.RowKit Go.Proofs.YtbmddlldadbfnaaW.PrintWords Go.Proofs.YtbmddlldadbfnaaW.PrintLast Go.Proofs.YtbmddlldadbfnaaW.PrintMore
open Go.Proofs.Ytbmddlldadbfnaa.BA Go.Proofs.Ytbmddlldadbfnaa.BB
theorem Ev.of_mono {α : Type} {f : Nat → Option α} (hm : ∀ k, LeO (f k) (f (k + 1))) {k : Nat} {r : α} (h : f k = some r) : Ev f r := by
 refine ⟨k, fun j hj => ?_⟩
 obtain ⟨d, rfl⟩ : ∃ d, j = k + d := ⟨j - k, by omega⟩
 clear hj
 induction d with
 | zero => exact h
 | succ d ih => exact hm _ _ ih
theorem awake_at : w19awake.f 64 = some true := by decide +kernel
theorem awake_ev : Ev (fun k => w19awake.f k) true := Ev.of_mono (fun k => w19awake.mono k) awake_at
theorem may_true {b : Int} (h1 : 2 ≤ b) (h2 : b ≤ 36) : r19may.f b = some true := by unfold r19may.f; rw [if_pos h1, decide_eq_true h2]
end Go.Proofs.Ytbmddlldadbfnaa.BM
namespace Go.Proofs.Ytbmddlldadbfnaa.Pure
open Go.RowKit Go.Proofs.Ytbmddlldadbfnaa.BB Go.Proofs.Ytbmddlldadbfnaa.BM
end Go.Proofs.Ytbmddlldadbfnaa.Pure
end
section
namespace Go.Proofs.Ytbmddlldadbfnaa.BM
open Go.RowKit Go.Proofs.YtbmddlldadbfnaaW.PrintWords Go.Proofs.YtbmddlldadbfnaaW.PrintLast Go.Proofs.YtbmddlldadbfnaaW.PrintMore
open Go.Proofs.Ytbmddlldadbfnaa.BA
structure Guess (y yn1 yn0 u d Q : Int) : Prop where
 hy : y = yn1 * 4294967296 + yn0
 h1 : 2147483648 ≤ yn1
 h2 : yn1 < 4294967296
 h3 : 0 ≤ yn0
 h4 : yn0 < 4294967296
 hu0 : 0 ≤ u
 hu : u < y
 hd0 : 0 ≤ d
 hd : d < 4294967296
 hQ : Q = (u * 4294967296 + d) / y
theorem Guess.le {y yn1 yn0 u d Q : Int} (g : Guess y yn1 yn0 u d Q) (q : Int) : q ≤ Q ↔ q * y ≤ u * 4294967296 + d := by
 rw [g.hQ]
 have := g.hu0; have := g.hu
 exact Int.le_ediv_iff_mul_le (by omega)
theorem Guess.range {y yn1 yn0 u d Q : Int} (g : Guess y yn1 yn0 u d Q) : 0 ≤ Q ∧ Q < 4294967296 := by
 have h0 := g.hu0; have h1 := g.hu; have h2 := g.hd0; have h3 := g.hd
 refine ⟨by rw [g.hQ]; exact Int.ediv_nonneg (by omega) (by omega), ?_⟩
 rcases Int.lt_or_le Q 4294967296 with h | h
 ·exact h
 ·have := (g.le 4294967296).1 h
  omega
theorem Guess.first {y yn1 yn0 u d Q : Int} (g : Guess y yn1 yn0 u d Q) : Q ≤ u / yn1 ∧ u / yn1 ≤ 4294967297 ∧ u / yn1 * yn1 + u % yn1 = u ∧ 0 ≤ u % yn1 ∧ u % yn1 < 4294967296 ∧ 0 ≤ u / yn1 := by
 have h1 := g.h1; have h2 := g.h2; have h3 := g.h3; have h4 := g.h4; have hu0 := g.hu0; have hu := g.hu; have hy := g.hy; have hd0 := g.hd0; have hd := g.hd
 have hr0 := Int.emod_nonneg u (show yn1 ≠ 0 by omega)
 have hr := Int.emod_lt_of_pos u (show 0 < yn1 by omega)
 have he : u / yn1 * yn1 + u % yn1 = u := by have := Int.mul_ediv_add_emod u yn1; rw [Int.mul_comm]; exact this
 refine ⟨?_, ?_, he, hr0, by omega, Int.ediv_nonneg hu0 (by omega)⟩
 ·have hrg := g.range
  have hq := (g.le Q).1 (Int.le_refl _)
  rw [Int.le_ediv_iff_mul_le (by omega)]
  have hm := Int.mul_nonneg hrg.1 h3
  have e : Q * y = Q * yn1 * 4294967296 + Q * yn0 := by rw [hy]; grind
  omega
 ·have : u / yn1 < 4294967298 := by
   rw [Int.ediv_lt_iff_lt_mul (by omega)]
   omega
  omega
end Go.Proofs.Ytbmddlldadbfnaa.BM
end
section
namespace Go.Proofs.Ytbmddlldadbfnaa.BM
open Go.RowKit Go.Proofs.YtbmddlldadbfnaaW.PrintWords Go.Proofs.YtbmddlldadbfnaaW.PrintLast Go.Proofs.YtbmddlldadbfnaaW.PrintMore
open Go.Proofs.Ytbmddlldadbfnaa.BA
def outOf (neg : Bool) (ds : List Int) : ByteArray := strOfNums ((ds.map dgt ++ (if neg = true then [45] else [])).reverse)
end Go.Proofs.Ytbmddlldadbfnaa.BM
end
section
namespace Go.Proofs.Ytbmddlldadbfnaa.BM
open Go.RowKit Go.Proofs.YtbmddlldadbfnaaW.PrintWords Go.Proofs.YtbmddlldadbfnaaW.PrintLast Go.Proofs.YtbmddlldadbfnaaW.PrintMore
open Go.Proofs.Ytbmddlldadbfnaa.BA
theorem wv_dgt {d b : Int} (h0 : 0 ≤ d) (h1 : d < b) (hb : b ≤ 36) : wv (dgt d) b = d := by
 unfold wv dgt
 by_cases h : d < 10
 ·rw [if_pos h, if_pos (by omega)]; omega
 ·rw [if_neg h, if_neg (by omega), if_pos (by omega)]; omega
theorem dgt_wv {c b : Int} (h : 0 ≤ wv c b) : dgt (wv c b) = c := by
 unfold wv at h ⊢
 by_cases h1 : 48 ≤ c ∧ c ≤ 57 ∧ c - 48 < b
 ·rw [if_pos h1]; unfold dgt; rw [if_pos (by omega)]; omega
 ·rw [if_neg h1] at h ⊢
  by_cases h2 : 97 ≤ c ∧ c ≤ 122 ∧ c - 87 < b
  ·rw [if_pos h2]; unfold dgt; rw [if_neg (by omega)]; omega
  ·rw [if_neg h2] at h; omega
theorem wv_zero {c b : Int} (h : wv c b = 0) : c = 48 := by
 have := dgt_wv (c := c) (b := b) (by omega)
 rw [h] at this
 exact this.symm
theorem dgt_range {d : Int} (h0 : 0 ≤ d) (h1 : d < 36) : 48 ≤ dgt d ∧ dgt d < 128 := by unfold dgt; split <;> omega
theorem scan_fine {s : ByteArray} {b : Int} {st : Nat} (hne : st ≠ s.size) (hg : ∀ j, st ≤ j → j < s.size → 0 ≤ wv (bt s (j : Int)) b) (h1 : ¬ (wv (bt s (st : Int)) b = 0 ∧ st = 1)) (h2 : st + 1 < s.size → bt s (st : Int) ≠ 48) :
  ∀ (m i : Nat), i + m = s.size → st ≤ i → scan s b st m i < 0
 | 0, i, hi, _ => by unfold scan; rw [if_neg hne]; omega
 | m + 1, i, hi, hs => by
  unfold scan
  have h3 := hg i hs (by omega)
  rw [if_neg (by omega), if_neg (fun h => h1 ⟨by rw [← h.2.1]; exact h.1, h.2.2⟩), if_neg (fun h => h2 (by omega) h.2)]
  exact scan_fine hne hg h1 h2 m (i + 1) (by omega) (by omega)
theorem scan_not {s : ByteArray} {b : Int} {st : Nat} (hst : st ≤ s.size) (h : scan s b st (s.size - st) st < 0) : ¬ (wv (bt s (st : Int)) b = 0 ∧ st = 1) ∧ (st + 1 < s.size → bt s (st : Int) ≠ 48) := by
 obtain ⟨hne, hg⟩ := scan_ok _ _ h (by omega)
 obtain ⟨m, hm⟩ : ∃ m, s.size - st = m + 1 := ⟨s.size - st - 1, by omega⟩
 rw [hm] at h
 unfold scan at h
 have h0 := hg st (Nat.le_refl _) (by omega)
 rw [if_neg (by omega)] at h
 by_cases h1 : wv (bt s (st : Int)) b = 0 ∧ st = st ∧ st = 1
 ·rw [if_pos h1] at h; omega
 ·rw [if_neg h1, if_neg (by omega)] at h
  refine ⟨fun h' => h1 ⟨h'.1, rfl, h'.2⟩, fun hlt h48 => ?_⟩
  obtain ⟨m', hm'⟩ : ∃ m', m = m' + 1 := ⟨m - 1, by omega⟩
  subst hm'
  unfold scan at h
  have h3 := hg (st + 1) (by omega) (by omega)
  rw [if_neg (by omega), if_neg (by omega), if_pos ⟨rfl, h48⟩] at h
  omega
theorem scan_le {s : ByteArray} {b : Int} {st : Nat} : ∀ (m i : Nat), i + m ≤ s.size → scan s b st m i ≤ s.size
 | 0, i, _ => by unfold scan; split <;> omega
 | m + 1, i, h => by
  unfold scan
  split
  ·omega
  ·split
   ·omega
   ·split
    ·omega
    ·exact scan_le m (i + 1) (by omega)
theorem bt_nums (xs : List Int) (h : ∀ x ∈ xs, 0 ≤ x ∧ x < 256) (i : Nat) (hi : i < xs.length) : bt (strOfNums xs) (i : Int) = rd xs (i : Int) := by
 have hsz : (strOfNums xs).size = xs.length := by simp [strOfNums, ByteArray.size]
 unfold bt
 have e : ((i : Nat) : Int).toNat = i := by omega
 simp only [e]
 rw [dif_pos (by omega), rd_nat xs hi]
 have hx := h _ (List.getElem_mem hi)
 have : (strOfNums xs)[i]'(by omega) = UInt8.ofNat (xs[i]'hi).toNat := by simp [strOfNums, ByteArray.getElem_eq_getElem_data]
 rw [this, UInt8.toNat_ofNat']
 omega
theorem nums_size (xs : List Int) : (strOfNums xs).size = xs.length := by simp [strOfNums, ByteArray.size]
theorem bytes_ext {a c : ByteArray} (hs : a.size = c.size) (h : ∀ i : Nat, i < a.size → bt a (i : Int) = bt c (i : Int)) : a = c := by
 apply ByteArray.ext
 apply Array.ext
 ·exact hs
 ·intro i h1 h2
  have h3 := h i h1
  unfold bt at h3
  have e : ((i : Nat) : Int).toNat = i := by omega
  simp only [e] at h3
  have h1' : i < a.size := h1
  have h2' : i < c.size := h2
  rw [dif_pos h1', dif_pos h2'] at h3
  have h4 : (a[i]'h1').toNat = (c[i]'h2').toNat := by omega
  exact UInt8.toNat_inj.1 h4
end Go.Proofs.Ytbmddlldadbfnaa.BM
end
section
namespace Go.Proofs.Ytbmddlldadbfnaa.BM
open Go.RowKit Go.Proofs.YtbmddlldadbfnaaW.PrintWords Go.Proofs.YtbmddlldadbfnaaW.PrintLast Go.Proofs.YtbmddlldadbfnaaW.PrintMore
open Go.Proofs.Ytbmddlldadbfnaa.BA
def numOf (s : ByteArray) (b : Int) : Int := D b (fun i => wv (bt s ((startOf s + i : Nat) : Int)) b) (s.size - startOf s)
theorem parse_bad (s : ByteArray) (b : Int) (hb : 2 ≤ b) (hb' : b ≤ 36) (hs : s.size ≤ 3000) (h : scan s b (startOf s) (s.size - startOf s) (startOf s) ≥ 0) :
  Ev (fun k => base_Parse.f k s b) (false, [], 9, scan s b (startOf s) (s.size - startOf s) (startOf s)) := by
 have c1 : ¬ (s.size : Int) > 1048576 := by omega
 refine Late.step (g := fun _ => some (false, ([] : List Int), 9, scan s b (startOf s) (s.size - startOf s) (startOf s))) (wrong_ev s b hb hb' (by omega)).late (fun k hk => ?_) (Ev.pure _)
 have hk' : base_wrong.f k s b = some (scan s b (startOf s) (s.size - startOf s) (startOf s)) := hk
 unfold base_Parse.f
 rw [show base_may.f b = some true from may_true hb hb', Option.bind_some, if_pos rfl, if_neg c1, hk', Option.bind_some, if_pos h]
theorem parse_good (s : ByteArray) (b : Int) (hb : 2 ≤ b) (hb' : b ≤ 36) (hs : s.size ≤ 3000) (h : scan s b (startOf s) (s.size - startOf s) (startOf s) < 0) :
  ∃ l, Ev (fun k => base_Parse.f k s b) ((bt s 0 == 45) && decide (0 < l.length), l, 0, 0) ∧ Can 18446744073709551616 l (numOf s b) ∧ l.length ≤ s.size := by
 have c1 : ¬ (s.size : Int) > 1048576 := by omega
 have c2 : ¬ (s.size : Int) > 262145 := by omega
 have hst := start_le s
 have hw1 := wrong_ev s b hb hb' (by omega)
 obtain ⟨hne, hg⟩ := scan_ok _ _ h (by omega)
 have hbs := body_size s
 obtain ⟨l1, hr1, hc1⟩ := bigRead_ev s b hb hb' (by omega) (by omega) (fun i hi => by rw [body_bt s i hi]; exact hg _ (by omega) (by omega))
 have he : D b (fun i => wv (bt (bodyOf s) i) b) (bodyOf s).size = numOf s b := by
  unfold numOf
  rw [← hbs]
  exact D_congr (fun j hj => by show wv _ b = wv _ b; rw [body_bt s j hj])
 rw [he] at hc1
 have hlen : l1.length ≤ s.size - startOf s := by
  refine Can_len (by omega) hc1 ?_
  have h1 := D_lt (b := b) (g := fun i => wv (bt s ((startOf s + i : Nat) : Int)) b) (t := s.size - startOf s) (by omega) (fun j _ => wv_lt _ b (by omega))
  have h2 := pow_mono (show 0 ≤ b by omega) (show b ≤ 18446744073709551616 by omega) (s.size - startOf s)
  exact Int.lt_of_lt_of_le h1 h2
 refine ⟨l1, Late.step (g := fun _ => some ((bt s 0 == 45) && decide (0 < l1.length), l1, 0, 0)) (hw1.late.and hr1.late) (fun k hk => ?_) (Ev.pure _), hc1, by omega⟩
 have hk1 : base_wrong.f k s b = some (scan s b (startOf s) (s.size - startOf s) (startOf s)) := hk.1
 have hk2 : bigRead.f k s b = some ((bt s 0 == 45) && decide (0 < l1.length), l1, true) := hk.2
 have c0 : ¬ scan s b (startOf s) (s.size - startOf s) (startOf s) ≥ 0 := by omega
 unfold base_Parse.f
 rw [show base_may.f b = some true from may_true hb hb', Option.bind_some, if_pos rfl, if_neg c1, hk1, Option.bind_some, if_neg c0, if_neg c2, hk2, Option.bind_some, if_pos rfl]
theorem V_D (b : Int) (g : Nat → Int) : ∀ n : Nat, V b ((List.range n).map fun i => g (n - 1 - i)) = D b g n
 | 0 => rfl
 | n + 1 => by
  have e : (List.range (n + 1)).map (fun i => g (n + 1 - 1 - i)) = g n :: (List.range n).map (fun i => g (n - 1 - i)) := by
   rw [List.range_succ_eq_map, List.map_cons, List.map_map]
   congr 1
   apply List.map_congr_left
   intro i _
   show g (n + 1 - 1 - (i + 1)) = g (n - 1 - i)
   congr 1
   omega
  rw [e, V, V_D b g n, D, Int.mul_comm b]
  omega
structure Good (b : Int) (neg : Bool) (ds : List Int) : Prop where
 dig : Dig b ds
 ne : ds ≠ []
 top : 2 ≤ ds.length → Top ds
 sign : neg = true → Top ds
theorem out_size (neg : Bool) (ds : List Int) : (outOf neg ds).size = ds.length + (if neg = true then 1 else 0) := by
 unfold outOf
 rw [nums_size]
 cases neg <;> simp
theorem out_bt {b : Int} (hb' : b ≤ 36) {neg : Bool} {ds : List Int} (hd : Dig b ds) (j : Nat) (hj : j < ds.length) :
  bt (outOf neg ds) (((if neg = true then 1 else 0) + j : Nat) : Int) = dgt (rd ds ((ds.length - 1 - j : Nat) : Int)) := by
 have hall : ∀ x ∈ (ds.map dgt ++ (if neg = true then [45] else [])).reverse, 0 ≤ x ∧ x < 256 := by
  intro x hx
  rw [List.mem_reverse, List.mem_append] at hx
  rcases hx with hx | hx
  ·obtain ⟨d, hd', rfl⟩ := List.mem_map.1 hx
   have := hd d hd'
   have := dgt_range this.1 (by omega)
   omega
  ·cases neg
   ·simp at hx
   ·simp at hx; omega
 unfold outOf
 rw [bt_nums _ hall _ (by cases neg <;> simp <;> omega)]
 cases neg
 ·simp only [Bool.false_eq_true, if_false, List.append_nil, Nat.zero_add]
  rw [rd_nat _ (by simp; exact hj), List.getElem_reverse, rd_nat _ (by omega)]
  simp
 ·simp only [if_true, List.reverse_append, List.reverse_singleton]
  rw [rd_nat _ (by simp; omega), List.getElem_append_right (by simp), List.getElem_reverse, rd_nat _ (by omega)]
  simp
theorem out_sign {b : Int} (hb' : b ≤ 36) {neg : Bool} {ds : List Int} (hd : Dig b ds) (hne : ds ≠ []) : (bt (outOf neg ds) 0 == 45) = neg ∧ startOf (outOf neg ds) = (if neg = true then 1 else 0) := by
 have hp := List.length_pos_iff.2 hne
 cases neg
 ·have h := out_bt (neg := false) hb' hd 0 hp
  have hr := rd_dig hd (i := ((ds.length - 1 - 0 : Nat) : Int)) (by omega) (by omega)
  have h2 := dgt_range hr.1 (by omega)
  have h3 : bt (outOf false ds) 0 = dgt (rd ds ((ds.length - 1 - 0 : Nat) : Int)) := h
  refine ⟨beq_false_of_ne (by omega), ?_⟩
  unfold startOf
  rw [if_neg (by omega)]
  rfl
 ·have h : bt (outOf true ds) 0 = 45 := by
   unfold outOf
   simp only [if_true, List.reverse_append, List.reverse_singleton]
   have := bt_nums ([45] ++ (ds.map dgt).reverse) (by
    intro x hx
    rcases List.mem_append.1 hx with hx | hx
    ·simp at hx; omega
    ·rw [List.mem_reverse] at hx
     obtain ⟨d, hd', rfl⟩ := List.mem_map.1 hx
     have := hd d hd'
     have := dgt_range this.1 (by omega)
     omega) 0 (by simp)
   exact this
  refine ⟨by rw [h]; rfl, ?_⟩
  unfold startOf
  rw [if_pos h]
  rfl
end Go.Proofs.Ytbmddlldadbfnaa.BM
end
section
namespace Go.Proofs.Ytbmddlldadbfnaa.BM
open Go.RowKit Go.Proofs.YtbmddlldadbfnaaW.PrintWords Go.Proofs.YtbmddlldadbfnaaW.PrintLast Go.Proofs.YtbmddlldadbfnaaW.PrintMore
open Go.Proofs.Ytbmddlldadbfnaa.BA
theorem Good.zero {b : Int} {neg : Bool} {ds : List Int} (g : Good b neg ds) (hb : 2 ≤ b) (hv : V b ds = 0) : ds = [0] ∧ neg = false := by
 have ht : ¬ Top ds := fun ht => by
  have hc : Can b ds 0 := ⟨⟨g.dig, hv⟩, ht⟩
  exact g.ne (Can_zero (by omega) hc)
 have hl : ds.length < 2 := by
  rcases Nat.lt_or_ge ds.length 2 with h | h
  ·exact h
  ·exact absurd (g.top h) ht
 refine ⟨?_, ?_⟩
 ·match ds, g.ne, hl, hv with
  | [d], _, _, hv =>
   simp [V] at hv
   rw [hv]
 ·cases neg
  ·rfl
  ·exact absurd (g.sign rfl) ht
theorem text_zero : (⟨#[48]⟩ : ByteArray) = outOf false [0] := by
 apply ByteArray.ext
 rfl
theorem text_digits {s : ByteArray} {b : Int} (hb : 2 ≤ b) (hb' : b ≤ 36) (h : scan s b (startOf s) (s.size - startOf s) (startOf s) < 0) : ∃ ws, Good b (bt s 0 == 45) ws ∧ V b ws = numOf s b ∧ outOf (bt s 0 == 45) ws = s := by
 have hst := start_le s
 obtain ⟨hne, hg⟩ := scan_ok _ _ h (by omega)
 obtain ⟨hn1, hn2⟩ := scan_not hst h
 obtain ⟨n, hn⟩ : ∃ n, n = s.size - startOf s := ⟨_, rfl⟩
 have hsg : startOf s = if (bt s 0 == 45) = true then 1 else 0 := by
  unfold startOf
  by_cases h : bt s 0 = 45
  ·rw [if_pos h, h]; rfl
  ·rw [if_neg h, beq_false_of_ne h]; rfl
 obtain ⟨ws, hws⟩ : ∃ ws, ws = (List.range n).map fun i => wv (bt s ((startOf s + (n - 1 - i) : Nat) : Int)) b := ⟨_, rfl⟩
 have hlen : ws.length = n := by rw [hws]; simp
 have hrd : ∀ i : Nat, i < n → rd ws (i : Int) = wv (bt s ((startOf s + (n - 1 - i) : Nat) : Int)) b := by
  intro i hi
  rw [rd_nat ws (by omega)]
  simp only [hws, List.getElem_map, List.getElem_range]
 have hdig : Dig b ws := by
  intro a ha
  rw [hws] at ha
  obtain ⟨i, hi, rfl⟩ := List.mem_map.1 ha
  rw [List.mem_range] at hi
  exact ⟨hg _ (by omega) (by omega), wv_lt _ b (by omega)⟩
 have hwne : ws ≠ [] := by intro h0; rw [h0] at hlen; simp at hlen; omega
 have htop : wv (bt s (startOf s : Int)) b ≠ 0 → Top ws := by
  intro h0 hne'
  rw [getLast_rd, hlen, show (n : Int) - 1 = ((n - 1 : Nat) : Int) by omega, hrd (n - 1) (by omega), show startOf s + (n - 1 - (n - 1)) = startOf s by omega]
  exact h0
 have good : Good b (bt s 0 == 45) ws := by
  refine ⟨hdig, hwne, fun h2 => htop (fun h0 => ?_), fun h2 => htop (fun h0 => ?_)⟩
  ·exact hn2 (by omega) (wv_zero h0)
  ·rw [if_pos h2] at hsg
   exact hn1 ⟨h0, hsg⟩
 refine ⟨ws, good, ?_, ?_⟩
 ·unfold numOf
  rw [hws, ← hn]
  exact V_D b (fun i => wv (bt s ((startOf s + i : Nat) : Int)) b) n
 ·have hsz := out_size (bt s 0 == 45) ws
  rw [← hsg] at hsz
  refine bytes_ext (by omega) (fun i hi => ?_)
  rcases Nat.lt_or_ge i (startOf s) with hlt | hge
  ·have h1 : startOf s = 1 := by
    unfold startOf at hlt ⊢
    split at hlt
    ·rename_i h; rw [if_pos h]
    ·omega
   have h45 : bt s 0 = 45 := by
    unfold startOf at h1
    split at h1
    ·assumption
    ·omega
   have hi0 : i = 0 := by omega
   subst hi0
   have := (out_sign (neg := (bt s 0 == 45)) hb' hdig hwne).1
   rw [h45] at this ⊢
   have h2 : bt (outOf ((45 : Int) == 45) ws) ((0 : Nat) : Int) = 45 := by simpa using this
   rw [h2]
   exact h45.symm
  ·have h1 := out_bt (neg := (bt s 0 == 45)) hb' hdig (i - startOf s) (by omega)
   rw [← hsg, show startOf s + (i - startOf s) = i by omega] at h1
   rw [h1, hlen, hrd _ (by omega), show startOf s + (n - 1 - (n - 1 - (i - startOf s))) = i by omega]
   exact dgt_wv (hg i hge (by omega))
end Go.Proofs.Ytbmddlldadbfnaa.BM
end
section
namespace Go.Proofs.Ytbmddlldadbfnaa.BD
open Go.RowKit Go.Proofs.Ytbmddlldadbfnaa.BA Go.Proofs.Ytbmddlldadbfnaa.BB Go.Proofs.YtbmddlldadbfnaaW.PrintWords Go.Proofs.YtbmddlldadbfnaaW.PrintLast Go.Proofs.YtbmddlldadbfnaaW.PrintMore
attribute [local go_sem] ZU ZS max_two min_two ZP ZO ZT ZR
set_option linter.unusedVariables false
set_option linter.unusedSimpArgs false
def errW : Option Int → Value
 | none => .nilIface
 | some c => .iface 0 (.int .i64 c)
theorem errW_none : errW none = .nilIface := rfl
theorem errW_some (c : Int) : errW (some c) = .iface 0 (.int .i64 c) := rfl
theorem info46 : (Try.prog.info? 46).map (fun i => (i.zero, i.size, i.bytes)) = some (some (.int .u64 0), 1, 8) := by kernel_rfl
end Go.Proofs.Ytbmddlldadbfnaa.BD
end
section
namespace Go.Proofs.Ytbmddlldadbfnaa.BD
open Go.RowKit Go.Proofs.Ytbmddlldadbfnaa.BA Go.Proofs.Ytbmddlldadbfnaa.BB Go.Proofs.YtbmddlldadbfnaaW.PrintWords Go.Proofs.YtbmddlldadbfnaaW.PrintLast Go.Proofs.YtbmddlldadbfnaaW.PrintMore
attribute [local go_sem] ZU ZS max_two min_two ZP ZO ZT ZR
set_option linter.unusedVariables false
set_option linter.unusedSimpArgs false
theorem eqA35 (d : Nat) (w : World) (x0 y0 : Int) (x1 y1 : Int) :
  (Op.equalIn (d + 2) 35 (.agg #[.int .i64 x0, .int .i64 x1]) (.agg #[.int .i64 y0, .int .i64 y1])).run Try.prog w = .ok (x0 == y0 && (x1 == y1)) w := by
 refine eqA_of Try.underlying35 (by kernel_rfl) ?_
 refine eqf_cons (by rfl) (by go_simp; rfl) (by go_simp; rfl) (by go_simp) ?_
 exact eqf_last (by rfl) (by go_simp; rfl) (by go_simp; rfl) (by go_simp)
end Go.Proofs.Ytbmddlldadbfnaa.BD
end
section
namespace Go.Proofs.Ytbmddlldadbfnaa.BD
open Go.RowKit Go.Proofs.Ytbmddlldadbfnaa.BA Go.Proofs.Ytbmddlldadbfnaa.BB Go.Proofs.YtbmddlldadbfnaaW.PrintWords Go.Proofs.YtbmddlldadbfnaaW.PrintLast Go.Proofs.YtbmddlldadbfnaaW.PrintMore
attribute [local go_sem] ZU ZS max_two min_two ZP ZO ZT ZR
set_option linter.unusedVariables false
set_option linter.unusedSimpArgs false
attribute [local go_sem high] eqA35
def rkPick.f (a0 : Int) (a1 : Int) : Option (Int) := if a1 < 1 then (some 0) else (if a1 = 0 then (none) else (if (Int.tmod a0 a1) < 0 then (some (wrap64 ((Int.tmod a0 a1) + a1))) else (some (Int.tmod a0 a1))))
set_option maxHeartbeats 8000000 in
set_option maxRecDepth 100000 in
theorem rkPick.calls (a0 : Int) (a1 : Int) (r : Int) (w : World) (h : rkPick.f a0 a1 = some r) :
  Calls Try.prog 22 #[.int .i64 a0, .int .i64 a1] w fun e w' => e = .returned (.int .i64 r) ∧ Zq w w' := by
 have H : (if a1 < 1 then (some 0) else (if a1 = 0 then (none) else (if (Int.tmod a0 a1) < 0 then (some (wrap64 ((Int.tmod a0 a1) + a1))) else (some (Int.tmod a0 a1))))) = some r := h
 clear h
 by_cases c3 : a1 < 1
 ·rw [if_pos c3] at H
  have c3b0 : decide (a1 < 1) = true := decide_eq_true c3
  clear c3
  obtain rfl := Option.some.inj H
  go_enter Try.func22, Try.ntmps22
  go_wp2
  go_ret
  exact ⟨by first | rfl | (simp; done) | (simp [*]; done), by repeat (first | exact Zq.refl _ | apply Zq.step)⟩
 ·rw [if_neg c3] at H
  have c3b0 : decide (a1 < 1) = false := decide_eq_false c3
  clear c3
  by_cases c4 : a1 = 0
  ·rw [if_pos c4] at H
   exact absurd H (by simp)
  ·rw [if_neg c4] at H
   have c4b0 : (a1 == 0) = false := beq_eq_false_iff_ne.mpr c4
   have c4b1 : (a1 != 0) = true := bne_iff_ne.mpr c4
   by_cases c5 : (Int.tmod a0 a1) < 0
   ·rw [if_pos c5] at H
    have c5b0 : decide ((Int.tmod a0 a1) < 0) = true := decide_eq_true c5
    clear c5
    obtain rfl := Option.some.inj H
    go_enter Try.func22, Try.ntmps22
    go_wp2
    go_ret
    exact ⟨by first | rfl | (simp; done) | (simp [*]; done), by repeat (first | exact Zq.refl _ | apply Zq.step)⟩
   ·rw [if_neg c5] at H
    have c5b0 : decide ((Int.tmod a0 a1) < 0) = false := decide_eq_false c5
    clear c5
    obtain rfl := Option.some.inj H
    go_enter Try.func22, Try.ntmps22
    go_wp2
    go_ret
    exact ⟨by first | rfl | (simp; done) | (simp [*]; done), by repeat (first | exact Zq.refl _ | apply Zq.step)⟩
def w19of.f (a0 : Int) : Option (Int) := (rkPick.f a0 35).bind fun t101 => (some (wrap64 (2 + t101)))
set_option maxHeartbeats 8000000 in
set_option maxRecDepth 100000 in
theorem w19of.calls (a0 : Int) (r : Int) (w : World) (h : w19of.f a0 = some r) :
  Calls Try.prog 20 #[.int .i64 a0] w fun e w' => e = .returned (.int .i64 r) ∧ Zq w w' := by
 have H : ((rkPick.f a0 35).bind fun t101 => (some (wrap64 (2 + t101)))) = some r := h
 clear h
 replace H := Option.bind_eq_some_iff.mp H
 obtain ⟨t101, A20, H⟩ := H
 replace H : (some (wrap64 (2 + t101))) = some r := H
 have A2 := Zb.mk A20
 clear A20
 obtain rfl := Option.some.inj H
 go_enter Try.func20, Try.ntmps20
 go_wp2_with (first | ((with_reducible refine Zp (f := 22) rfl ?_); refine ZB (some 4) rfl rfl Try.func22 (by kernel_rfl) rfl #[.int .i64 a0, .int .i64 35] rfl (by (try simp only [List.map_toArray, List.map_cons, List.map_nil]); first | done | rfl | (simp only [List.length_drop, List.length_take]; rfl)) ?_; (with_reducible refine (rkPick.calls a0 35 t101 _ A2.out).mono ?_); rintro e w' ⟨rfl, ⟨nd, rfl⟩⟩; refine ⟨_, rfl, ?_⟩))
 go_ret
 exact ⟨by first | rfl | (simp; done) | (simp [*]; done), by repeat (first | exact Zq.refl _ | apply Zq.step)⟩
end Go.Proofs.Ytbmddlldadbfnaa.BD
end
section
namespace Go.Proofs.Ytbmddlldadbfnaa.BM
open Go.RowKit Go.Proofs.YtbmddlldadbfnaaW.PrintWords Go.Proofs.YtbmddlldadbfnaaW.PrintLast Go.Proofs.YtbmddlldadbfnaaW.PrintMore
open Go.Proofs.Ytbmddlldadbfnaa.BA Go.Proofs.Ytbmddlldadbfnaa.BB Go.Proofs.Ytbmddlldadbfnaa.BD
theorem of_f (a : Int) : ∃ b, w19of.f a = some b ∧ 2 ≤ b ∧ b ≤ 36 := by
 have hp : ∃ p, rkPick.f a 35 = some p ∧ 0 ≤ p ∧ p < 35 := by
  have ht : -35 < Int.tmod a 35 ∧ Int.tmod a 35 < 35 := by
   have h2 := Int.tmod_lt_of_pos a (show (0 : Int) < 35 by omega)
   have h3 := Int.lt_tmod_of_pos a (show (0 : Int) < 35 by omega)
   omega
  unfold rkPick.f
  rw [if_neg (by omega), if_neg (by omega)]
  by_cases h : Int.tmod a 35 < 0
  ·rw [if_pos h, w64 (by omega) (by omega)]
   exact ⟨_, rfl, by omega, by omega⟩
  ·rw [if_neg h]
   exact ⟨_, rfl, by omega, by omega⟩
 obtain ⟨p, hp, p0, p1⟩ := hp
 refine ⟨2 + p, ?_, by omega, by omega⟩
 unfold w19of.f
 rw [hp, Option.bind_some, w64 (by omega) (by omega)]
end Go.Proofs.Ytbmddlldadbfnaa.BM
end
section
namespace Go.Proofs.Ytbmddlldadbfnaa.BE
open Go.RowKit Go.Proofs.Ytbmddlldadbfnaa.BA Go.Proofs.Ytbmddlldadbfnaa.BB Go.Proofs.YtbmddlldadbfnaaW.PrintWords Go.Proofs.YtbmddlldadbfnaaW.PrintLast Go.Proofs.YtbmddlldadbfnaaW.PrintMore
attribute [local go_sem] ZU ZS max_two min_two ZP ZO ZT ZR
set_option linter.unusedVariables false
set_option linter.unusedSimpArgs false
def errW : Option Int → Value
 | none => .nilIface
 | some c => .iface 0 (.int .i64 c)
theorem errW_none : errW none = .nilIface := rfl
theorem errW_some (c : Int) : errW (some c) = .iface 0 (.int .i64 c) := rfl
theorem info46 : (Try.prog.info? 46).map (fun i => (i.zero, i.size, i.bytes)) = some (some (.int .u64 0), 1, 8) := by kernel_rfl
end Go.Proofs.Ytbmddlldadbfnaa.BE
end
section
namespace Go.Proofs.Ytbmddlldadbfnaa.BE
open Go.RowKit Go.Proofs.Ytbmddlldadbfnaa.BA Go.Proofs.Ytbmddlldadbfnaa.BB Go.Proofs.YtbmddlldadbfnaaW.PrintWords Go.Proofs.YtbmddlldadbfnaaW.PrintLast Go.Proofs.YtbmddlldadbfnaaW.PrintMore
attribute [local go_sem] ZU ZS max_two min_two ZP ZO ZT ZR
set_option linter.unusedVariables false
set_option linter.unusedSimpArgs false
def r00NatCmp.l0 : Nat → List Int → List Int → Int → Option (Int)
 | 0, _, _, _ => none
 | k + 1, x5, x6, x7 => if x7 ≥ 0 then (if 0 ≤ x7 then (if x7 < (x5.length : Int) then (if x7 < (x6.length : Int) then (if (rd x5 x7) < (rd x6 x7) then (some (-1)) else (if (rd x5 x7) > (rd x6 x7) then (some 1) else (r00NatCmp.l0 k x5 x6 (wrap64 (x7 - 1))))) else (none)) else (none)) else (none)) else (some 0)
def r00NatCmp.f (k : Nat) (l0 : List Int) (l1 : List Int) : Option (Int) := (r00NatTrim.f k l0).bind fun t101 => ((r00NatTrim.f k l1).bind fun t104 => (if (t101.length : Int) = (t104.length : Int) then (r00NatCmp.l0 k t101 t104 (wrap64 ((t101.length : Int) - 1))) else (if (t101.length : Int) < (t104.length : Int) then (some (-1)) else (some 1))))
set_option maxHeartbeats 8000000 in
set_option maxRecDepth 100000 in
theorem r00NatCmp.calls (k : Nat) (A0 : Option Addr) (c0 : Nat) (l0 : List Int) (A1 : Option Addr) (c1 : Nat) (l1 : List Int) (r : Int) (w : World) (hr0 : Kd.C (Kd.int .u64) w A0 l0.length l0) (hc0 : l0.length ≤ c0) (hr1 : Kd.C (Kd.int .u64) w A1 l1.length l1) (hc1 : l1.length ≤ c1) (h : r00NatCmp.f k l0 l1 = some r) :
  Calls Try.prog 57 #[.slice A0 l0.length c0, .slice A1 l1.length c1] w fun e w' => e = .returned (.int .i64 r) ∧ Below w.heap.size w w' := by
 have HR0 := Zb.mk hr0
 have HC0 := Zb.mk hc0
 clear hr0 hc0
 have HR1 := Zb.mk hr1
 have HC1 := Zb.mk hc1
 clear hr1 hc1
 have HB := Zb.mk (Below.refl w.heap.size w)
 have H : ((r00NatTrim.f k l0).bind fun t101 => ((r00NatTrim.f k l1).bind fun t104 => (if (t101.length : Int) = (t104.length : Int) then (r00NatCmp.l0 k t101 t104 (wrap64 ((t101.length : Int) - 1))) else (if (t101.length : Int) < (t104.length : Int) then (some (-1)) else (some 1))))) = some r := h
 clear h
 replace H := Option.bind_eq_some_iff.mp H
 obtain ⟨t101, A30, H⟩ := H
 replace H : ((r00NatTrim.f k l1).bind fun t104 => (if (t101.length : Int) = (t104.length : Int) then (r00NatCmp.l0 k t101 t104 (wrap64 ((t101.length : Int) - 1))) else (if (t101.length : Int) < (t104.length : Int) then (some (-1)) else (some 1)))) = some r := H
 have A3 := Zb.mk A30
 clear A30
 replace H := Option.bind_eq_some_iff.mp H
 obtain ⟨t104, A40, H⟩ := H
 replace H : (if (t101.length : Int) = (t104.length : Int) then (r00NatCmp.l0 k t101 t104 (wrap64 ((t101.length : Int) - 1))) else (if (t101.length : Int) < (t104.length : Int) then (some (-1)) else (some 1))) = some r := H
 have A4 := Zb.mk A40
 clear A40
 by_cases c5 : (t101.length : Int) = (t104.length : Int)
 ·rw [if_pos c5] at H
  have c5b0 : ((t101.length : Int) == (t104.length : Int)) = true := beq_iff_eq.mpr c5
  have c5b1 : ((t101.length : Int) != (t104.length : Int)) = false := bne_eq_false_iff_eq.mpr c5
  have c5b2 : (t101.length == t104.length) = true := by first | simpa using c5 | (simp at c5 ⊢; omega)
  clear c5
  have H' := Zb.mk H
  clear H
  go_enter Try.func57, Try.ntmps57
  go_wp2_with (first | (go_at_call 53; (with_reducible refine (r00NatTrim.calls k _ _ l0 t101 _ ?side1 ?side2 A3.out).mono ?_); (case side1 => repeat (first | exact HR0.out | (with_reducible refine Kd.ZC ?_ _) | (with_reducible refine Kd.ZF ?_ _) | (with_reducible refine Kd.ZN ?_))); (case side2 => exact HC0.out); rintro e w6 ⟨v102, rfl, ho0, hb⟩; have n0_ := Zb.mk (Kd.ZG ho0 (Zi (by repeat (with_reducible first | exact HB.out | apply Zc | apply Za | apply Zd)))); have n1_ := Zb.mk (Zl (by repeat (with_reducible first | exact HB.out | apply Zc | apply Za | apply Zd)) hb); clear HB; have HO103 := n0_; have HB := n1_; clear n0_ n1_; (try clear hb); (try clear hb2); (try clear hk); (try clear hi); (try clear ho0)) | (go_at_call 53; (with_reducible refine (r00NatTrim.calls k _ _ l1 t104 _ ?side1 ?side2 A4.out).mono ?_); (case side1 => repeat (first | exact (Kd.C_below HR1.out HB.out) | (with_reducible refine Kd.ZC ?_ _) | (with_reducible refine Kd.ZF ?_ _) | (with_reducible refine Kd.ZN ?_))); (case side2 => exact HC1.out); rintro e w7 ⟨v105, rfl, ho0, hb⟩; have n0_ := Zb.mk (Kd.ZJ (by (with_reducible repeat first | apply Kd.Zm | apply Kd.Zo); exact HO103.out) (Kd.ZV ho0) hb); have n1_ := Zb.mk (Kd.ZG (Kd.R_new' ho0 (Kd.R_lt (by (with_reducible repeat first | apply Kd.Zm | apply Kd.Zo); exact HO103.out))) (Zi (by repeat (with_reducible first | exact HB.out | apply Zc | apply Za | apply Zd)))); have n2_ := Zb.mk (Zl (by repeat (with_reducible first | exact HB.out | apply Zc | apply Za | apply Zd)) hb); clear HO103; clear HB; have HO103 := n0_; have HO106 := n1_; have HB := n2_; clear n0_ n1_ n2_; (try clear hb); (try clear hb2); (try clear hk); (try clear hi); (try clear ho0); obtain ⟨Ao8, co8, eo8⟩ := Kd.Zy HO103.out; subst eo8; obtain ⟨Ao9, co9, eo9⟩ := Kd.Zy HO106.out; subst eo9))
  repeat (go_quiet (first | (go_at_call 53; (with_reducible refine (r00NatTrim.calls k _ _ l0 t101 _ ?side1 ?side2 A3.out).mono ?_); (case side1 => repeat (first | exact HR0.out | (with_reducible refine Kd.ZC ?_ _) | (with_reducible refine Kd.ZF ?_ _) | (with_reducible refine Kd.ZN ?_))); (case side2 => exact HC0.out); rintro e w6 ⟨v102, rfl, ho0, hb⟩; have n0_ := Zb.mk (Kd.ZG ho0 (Zi (by repeat (with_reducible first | exact HB.out | apply Zc | apply Za | apply Zd)))); have n1_ := Zb.mk (Zl (by repeat (with_reducible first | exact HB.out | apply Zc | apply Za | apply Zd)) hb); clear HB; have HO103 := n0_; have HB := n1_; clear n0_ n1_; (try clear hb); (try clear hb2); (try clear hk); (try clear hi); (try clear ho0)) | (go_at_call 53; (with_reducible refine (r00NatTrim.calls k _ _ l1 t104 _ ?side1 ?side2 A4.out).mono ?_); (case side1 => repeat (first | exact (Kd.C_below HR1.out HB.out) | (with_reducible refine Kd.ZC ?_ _) | (with_reducible refine Kd.ZF ?_ _) | (with_reducible refine Kd.ZN ?_))); (case side2 => exact HC1.out); rintro e w7 ⟨v105, rfl, ho0, hb⟩; have n0_ := Zb.mk (Kd.ZJ (by (with_reducible repeat first | apply Kd.Zm | apply Kd.Zo); exact HO103.out) (Kd.ZV ho0) hb); have n1_ := Zb.mk (Kd.ZG (Kd.R_new' ho0 (Kd.R_lt (by (with_reducible repeat first | apply Kd.Zm | apply Kd.Zo); exact HO103.out))) (Zi (by repeat (with_reducible first | exact HB.out | apply Zc | apply Za | apply Zd)))); have n2_ := Zb.mk (Zl (by repeat (with_reducible first | exact HB.out | apply Zc | apply Za | apply Zd)) hb); clear HO103; clear HB; have HO103 := n0_; have HO106 := n1_; have HB := n2_; clear n0_ n1_ n2_; (try clear hb); (try clear hb2); (try clear hk); (try clear hi); (try clear ho0); obtain ⟨Ao8, co8, eo8⟩ := Kd.Zy HO103.out; subst eo8; obtain ⟨Ao9, co9, eo9⟩ := Kd.Zy HO106.out; subst eo9)); try go_wp2_with (first | (go_at_call 53; (with_reducible refine (r00NatTrim.calls k _ _ l0 t101 _ ?side1 ?side2 A3.out).mono ?_); (case side1 => repeat (first | exact HR0.out | (with_reducible refine Kd.ZC ?_ _) | (with_reducible refine Kd.ZF ?_ _) | (with_reducible refine Kd.ZN ?_))); (case side2 => exact HC0.out); rintro e w6 ⟨v102, rfl, ho0, hb⟩; have n0_ := Zb.mk (Kd.ZG ho0 (Zi (by repeat (with_reducible first | exact HB.out | apply Zc | apply Za | apply Zd)))); have n1_ := Zb.mk (Zl (by repeat (with_reducible first | exact HB.out | apply Zc | apply Za | apply Zd)) hb); clear HB; have HO103 := n0_; have HB := n1_; clear n0_ n1_; (try clear hb); (try clear hb2); (try clear hk); (try clear hi); (try clear ho0)) | (go_at_call 53; (with_reducible refine (r00NatTrim.calls k _ _ l1 t104 _ ?side1 ?side2 A4.out).mono ?_); (case side1 => repeat (first | exact (Kd.C_below HR1.out HB.out) | (with_reducible refine Kd.ZC ?_ _) | (with_reducible refine Kd.ZF ?_ _) | (with_reducible refine Kd.ZN ?_))); (case side2 => exact HC1.out); rintro e w7 ⟨v105, rfl, ho0, hb⟩; have n0_ := Zb.mk (Kd.ZJ (by (with_reducible repeat first | apply Kd.Zm | apply Kd.Zo); exact HO103.out) (Kd.ZV ho0) hb); have n1_ := Zb.mk (Kd.ZG (Kd.R_new' ho0 (Kd.R_lt (by (with_reducible repeat first | apply Kd.Zm | apply Kd.Zo); exact HO103.out))) (Zi (by repeat (with_reducible first | exact HB.out | apply Zc | apply Za | apply Zd)))); have n2_ := Zb.mk (Zl (by repeat (with_reducible first | exact HB.out | apply Zc | apply Za | apply Zd)) hb); clear HO103; clear HB; have HO103 := n0_; have HO106 := n1_; have HB := n2_; clear n0_ n1_ n2_; (try clear hb); (try clear hb2); (try clear hk); (try clear hi); (try clear ho0); obtain ⟨Ao8, co8, eo8⟩ := Kd.Zy HO103.out; subst eo8; obtain ⟨Ao9, co9, eo9⟩ := Kd.Zy HO106.out; subst eo9)))
  go_loopg [7] k (fun kq v7 w' => ∃ (x7_1 : Int), v7 = .int .i64 x7_1 ∧ Zb (r00NatCmp.l0 kq t101 t104 x7_1 = some r) ∧ Zb (kq ≤ k) ∧ Zb (Kd.R (Kd.int .u64) 46 w' w.heap.size (fun k_ => some k_ ≠ ((.slice Ao9 t104.length co9) : Value).ownBlock) (.slice Ao8 t101.length co8) t101) ∧ Zb (Kd.R (Kd.int .u64) 46 w' w.heap.size (fun k_ => some k_ ≠ ((.slice Ao8 t101.length co8) : Value).ownBlock) (.slice Ao9 t104.length co9) t104) ∧ Zb (Below w.heap.size w w'))
  case atStart => exact ⟨(wrap64 ((t101.length : Int) - 1)), (by first | rfl | (simp; done) | (simp [*]; done)), H', ⟨Nat.le_refl _⟩, ⟨by (with_reducible repeat first | apply Kd.Zm | apply Kd.Zo); exact Kd.ZE HO103.out (fun _ hk => hk.2)⟩, ⟨by (with_reducible repeat first | apply Kd.Zm | apply Kd.Zo); exact Kd.ZE HO106.out (fun _ hk => hk.2)⟩, ⟨by repeat (with_reducible first | exact HB.out | apply Zc | apply Za | apply Zd)⟩⟩
  case round =>
   clear H'
   try clear c1
   try clear p2
   try clear c5
   try clear c5b0
   try clear c5b1
   try clear c5b2
   try clear p6
   obtain ⟨x7_1, rfl, HA, HK1, HO_5, HO_6, HB⟩ := hrel
   cases gk with
   | zero => exact absurd HA.out (by simp [r00NatCmp.l0])
   | succ k1 =>
    have H := HA.out
    clear HA
    simp only [r00NatCmp.l0] at H
    by_cases c10 : x7_1 ≥ 0
    ·rw [if_pos c10] at H
     have c10b0 : decide (0 ≤ x7_1) = true := decide_eq_true c10
     clear c10
     by_cases c11 : 0 ≤ x7_1
     ·rw [if_pos c11] at H
      have c11b0 : decide (0 ≤ x7_1) = true := decide_eq_true c11
      clear c11
      by_cases c12 : x7_1 < (t101.length : Int)
      ·rw [if_pos c12] at H
       have c12b0 : decide (x7_1 < (t101.length : Int)) = true := decide_eq_true c12
       clear c12
       by_cases c13 : x7_1 < (t104.length : Int)
       ·rw [if_pos c13] at H
        have c13b0 : decide (x7_1 < (t104.length : Int)) = true := decide_eq_true c13
        clear c13
        by_cases c14 : (rd t101 x7_1) < (rd t104 x7_1)
        ·rw [if_pos c14] at H
         have c14b0 : decide ((rd t101 x7_1) < (rd t104 x7_1)) = true := decide_eq_true c14
         clear c14
         obtain rfl := Option.some.inj H
         have p107 : 0 ≤ (x7_1 : Int) := of_decide_eq_true (by first | (with_reducible assumption) | assumption)
         have q107 : x7_1 < (t101.length : Int) := of_decide_eq_true (by first | (with_reducible assumption) | assumption)
         obtain ⟨ad107, e107, hx107_0⟩ := Kd.at_int (Kd.Zv HO_5.out).2.2 x7_1 p107 q107
         cases e107
         replace p107 := eq_true p107
         replace q107 := eq_true q107
         have p108 : 0 ≤ (x7_1 : Int) := of_decide_eq_true (by first | (with_reducible assumption) | assumption)
         have q108 : x7_1 < (t104.length : Int) := of_decide_eq_true (by first | (with_reducible assumption) | assumption)
         obtain ⟨ad108, e108, hx108_0⟩ := Kd.at_int (Kd.Zv HO_6.out).2.2 x7_1 p108 q108
         cases e108
         replace p108 := eq_true p108
         replace q108 := eq_true q108
         go_wp2
         repeat (go_quiet (fail); try go_wp2)
         go_ret
         exact ⟨by first | rfl | (simp [errW_none, errW_some] <;> rfl) | (simp [*, errW_none, errW_some] <;> rfl), by repeat (with_reducible first | exact HB.out | apply Zc | apply Za | apply Zd)⟩
        ·rw [if_neg c14] at H
         have c14b0 : decide ((rd t101 x7_1) < (rd t104 x7_1)) = false := decide_eq_false c14
         clear c14
         by_cases c15 : (rd t101 x7_1) > (rd t104 x7_1)
         ·rw [if_pos c15] at H
          have c15b0 : decide ((rd t104 x7_1) < (rd t101 x7_1)) = true := decide_eq_true c15
          clear c15
          obtain rfl := Option.some.inj H
          have p107 : 0 ≤ (x7_1 : Int) := of_decide_eq_true (by first | (with_reducible assumption) | assumption)
          have q107 : x7_1 < (t101.length : Int) := of_decide_eq_true (by first | (with_reducible assumption) | assumption)
          obtain ⟨ad107, e107, hx107_0⟩ := Kd.at_int (Kd.Zv HO_5.out).2.2 x7_1 p107 q107
          cases e107
          replace p107 := eq_true p107
          replace q107 := eq_true q107
          have p108 : 0 ≤ (x7_1 : Int) := of_decide_eq_true (by first | (with_reducible assumption) | assumption)
          have q108 : x7_1 < (t104.length : Int) := of_decide_eq_true (by first | (with_reducible assumption) | assumption)
          obtain ⟨ad108, e108, hx108_0⟩ := Kd.at_int (Kd.Zv HO_6.out).2.2 x7_1 p108 q108
          cases e108
          replace p108 := eq_true p108
          replace q108 := eq_true q108
          have p109 : 0 ≤ (x7_1 : Int) := of_decide_eq_true (by first | (with_reducible assumption) | assumption)
          have q109 : x7_1 < (t101.length : Int) := of_decide_eq_true (by first | (with_reducible assumption) | assumption)
          obtain ⟨ad109, e109, hx109_0⟩ := Kd.at_int (Kd.Zv HO_5.out).2.2 x7_1 p109 q109
          obtain rfl : ad107 = ad109 := (by injection e109)
          replace p109 := eq_true p109
          replace q109 := eq_true q109
          have p110 : 0 ≤ (x7_1 : Int) := of_decide_eq_true (by first | (with_reducible assumption) | assumption)
          have q110 : x7_1 < (t104.length : Int) := of_decide_eq_true (by first | (with_reducible assumption) | assumption)
          obtain ⟨ad110, e110, hx110_0⟩ := Kd.at_int (Kd.Zv HO_6.out).2.2 x7_1 p110 q110
          obtain rfl : ad108 = ad110 := (by injection e110)
          replace p110 := eq_true p110
          replace q110 := eq_true q110
          go_wp2
          repeat (go_quiet (fail); try go_wp2)
          go_ret
          exact ⟨by first | rfl | (simp [errW_none, errW_some] <;> rfl) | (simp [*, errW_none, errW_some] <;> rfl), by repeat (with_reducible first | exact HB.out | apply Zc | apply Za | apply Zd)⟩
         ·rw [if_neg c15] at H
          have c15b0 : decide ((rd t104 x7_1) < (rd t101 x7_1)) = false := decide_eq_false c15
          clear c15
          have H' := Zb.mk H
          clear H
          have p107 : 0 ≤ (x7_1 : Int) := of_decide_eq_true (by first | (with_reducible assumption) | assumption)
          have q107 : x7_1 < (t101.length : Int) := of_decide_eq_true (by first | (with_reducible assumption) | assumption)
          obtain ⟨ad107, e107, hx107_0⟩ := Kd.at_int (Kd.Zv HO_5.out).2.2 x7_1 p107 q107
          cases e107
          replace p107 := eq_true p107
          replace q107 := eq_true q107
          have p108 : 0 ≤ (x7_1 : Int) := of_decide_eq_true (by first | (with_reducible assumption) | assumption)
          have q108 : x7_1 < (t104.length : Int) := of_decide_eq_true (by first | (with_reducible assumption) | assumption)
          obtain ⟨ad108, e108, hx108_0⟩ := Kd.at_int (Kd.Zv HO_6.out).2.2 x7_1 p108 q108
          cases e108
          replace p108 := eq_true p108
          replace q108 := eq_true q108
          have p109 : 0 ≤ (x7_1 : Int) := of_decide_eq_true (by first | (with_reducible assumption) | assumption)
          have q109 : x7_1 < (t101.length : Int) := of_decide_eq_true (by first | (with_reducible assumption) | assumption)
          obtain ⟨ad109, e109, hx109_0⟩ := Kd.at_int (Kd.Zv HO_5.out).2.2 x7_1 p109 q109
          obtain rfl : ad107 = ad109 := (by injection e109)
          replace p109 := eq_true p109
          replace q109 := eq_true q109
          have p110 : 0 ≤ (x7_1 : Int) := of_decide_eq_true (by first | (with_reducible assumption) | assumption)
          have q110 : x7_1 < (t104.length : Int) := of_decide_eq_true (by first | (with_reducible assumption) | assumption)
          obtain ⟨ad110, e110, hx110_0⟩ := Kd.at_int (Kd.Zv HO_6.out).2.2 x7_1 p110 q110
          obtain rfl : ad108 = ad110 := (by injection e110)
          replace p110 := eq_true p110
          replace q110 := eq_true q110
          go_wp2
          repeat (go_quiet (fail); try go_wp2)
          go_roundg k1
          case measure => have := HK1.out; omega
          case rel => exact ⟨(wrap64 (x7_1 - 1)), (by first | rfl | (simp; done) | (simp [*]; done)), H', ⟨by have := HK1.out; omega⟩, ⟨by (with_reducible repeat first | apply Kd.Zm | apply Kd.Zo); exact HO_5.out⟩, ⟨by (with_reducible repeat first | apply Kd.Zm | apply Kd.Zo); exact HO_6.out⟩, ⟨by repeat (with_reducible first | exact HB.out | apply Zc | apply Za | apply Zd)⟩⟩
       ·rw [if_neg c13] at H
        exact absurd H (by simp)
      ·rw [if_neg c12] at H
       exact absurd H (by simp)
     ·rw [if_neg c11] at H
      exact absurd H (by simp)
    ·rw [if_neg c10] at H
     have c10b0 : decide (0 ≤ x7_1) = false := decide_eq_false c10
     clear c10
     obtain rfl := Option.some.inj H
     go_wp2
     repeat (go_quiet (fail); try go_wp2)
     go_ret
     exact ⟨by first | rfl | (simp [errW_none, errW_some] <;> rfl) | (simp [*, errW_none, errW_some] <;> rfl), by repeat (with_reducible first | exact HB.out | apply Zc | apply Za | apply Zd)⟩
 ·rw [if_neg c5] at H
  have c5b0 : ((t101.length : Int) == (t104.length : Int)) = false := beq_eq_false_iff_ne.mpr c5
  have c5b1 : ((t101.length : Int) != (t104.length : Int)) = true := bne_iff_ne.mpr c5
  have c5b2 : (t101.length == t104.length) = false := by first | simpa using c5 | (simp at c5 ⊢; omega)
  by_cases c16 : (t101.length : Int) < (t104.length : Int)
  ·rw [if_pos c16] at H
   have c16b0 : decide ((t101.length : Int) < (t104.length : Int)) = true := decide_eq_true c16
   have c16b1 : decide (t101.length < t104.length) = true := decide_eq_true (Int.ofNat_lt.mp c16)
   clear c16
   obtain rfl := Option.some.inj H
   go_enter Try.func57, Try.ntmps57
   go_wp2_with (first | (go_at_call 53; (with_reducible refine (r00NatTrim.calls k _ _ l0 t101 _ ?side1 ?side2 A3.out).mono ?_); (case side1 => repeat (first | exact HR0.out | (with_reducible refine Kd.ZC ?_ _) | (with_reducible refine Kd.ZF ?_ _) | (with_reducible refine Kd.ZN ?_))); (case side2 => exact HC0.out); rintro e w17 ⟨v102, rfl, ho0, hb⟩; have n0_ := Zb.mk (Kd.ZG ho0 (Zi (by repeat (with_reducible first | exact HB.out | apply Zc | apply Za | apply Zd)))); have n1_ := Zb.mk (Zl (by repeat (with_reducible first | exact HB.out | apply Zc | apply Za | apply Zd)) hb); clear HB; have HO103 := n0_; have HB := n1_; clear n0_ n1_; (try clear hb); (try clear hb2); (try clear hk); (try clear hi); (try clear ho0)) | (go_at_call 53; (with_reducible refine (r00NatTrim.calls k _ _ l1 t104 _ ?side1 ?side2 A4.out).mono ?_); (case side1 => repeat (first | exact (Kd.C_below HR1.out HB.out) | (with_reducible refine Kd.ZC ?_ _) | (with_reducible refine Kd.ZF ?_ _) | (with_reducible refine Kd.ZN ?_))); (case side2 => exact HC1.out); rintro e w18 ⟨v105, rfl, ho0, hb⟩; have n0_ := Zb.mk (Kd.ZJ (by (with_reducible repeat first | apply Kd.Zm | apply Kd.Zo); exact HO103.out) (Kd.ZV ho0) hb); have n1_ := Zb.mk (Kd.ZG (Kd.R_new' ho0 (Kd.R_lt (by (with_reducible repeat first | apply Kd.Zm | apply Kd.Zo); exact HO103.out))) (Zi (by repeat (with_reducible first | exact HB.out | apply Zc | apply Za | apply Zd)))); have n2_ := Zb.mk (Zl (by repeat (with_reducible first | exact HB.out | apply Zc | apply Za | apply Zd)) hb); clear HO103; clear HB; have HO103 := n0_; have HO106 := n1_; have HB := n2_; clear n0_ n1_ n2_; (try clear hb); (try clear hb2); (try clear hk); (try clear hi); (try clear ho0); obtain ⟨Ao19, co19, eo19⟩ := Kd.Zy HO103.out; subst eo19; obtain ⟨Ao20, co20, eo20⟩ := Kd.Zy HO106.out; subst eo20))
   repeat (go_quiet (first | (go_at_call 53; (with_reducible refine (r00NatTrim.calls k _ _ l0 t101 _ ?side1 ?side2 A3.out).mono ?_); (case side1 => repeat (first | exact HR0.out | (with_reducible refine Kd.ZC ?_ _) | (with_reducible refine Kd.ZF ?_ _) | (with_reducible refine Kd.ZN ?_))); (case side2 => exact HC0.out); rintro e w17 ⟨v102, rfl, ho0, hb⟩; have n0_ := Zb.mk (Kd.ZG ho0 (Zi (by repeat (with_reducible first | exact HB.out | apply Zc | apply Za | apply Zd)))); have n1_ := Zb.mk (Zl (by repeat (with_reducible first | exact HB.out | apply Zc | apply Za | apply Zd)) hb); clear HB; have HO103 := n0_; have HB := n1_; clear n0_ n1_; (try clear hb); (try clear hb2); (try clear hk); (try clear hi); (try clear ho0)) | (go_at_call 53; (with_reducible refine (r00NatTrim.calls k _ _ l1 t104 _ ?side1 ?side2 A4.out).mono ?_); (case side1 => repeat (first | exact (Kd.C_below HR1.out HB.out) | (with_reducible refine Kd.ZC ?_ _) | (with_reducible refine Kd.ZF ?_ _) | (with_reducible refine Kd.ZN ?_))); (case side2 => exact HC1.out); rintro e w18 ⟨v105, rfl, ho0, hb⟩; have n0_ := Zb.mk (Kd.ZJ (by (with_reducible repeat first | apply Kd.Zm | apply Kd.Zo); exact HO103.out) (Kd.ZV ho0) hb); have n1_ := Zb.mk (Kd.ZG (Kd.R_new' ho0 (Kd.R_lt (by (with_reducible repeat first | apply Kd.Zm | apply Kd.Zo); exact HO103.out))) (Zi (by repeat (with_reducible first | exact HB.out | apply Zc | apply Za | apply Zd)))); have n2_ := Zb.mk (Zl (by repeat (with_reducible first | exact HB.out | apply Zc | apply Za | apply Zd)) hb); clear HO103; clear HB; have HO103 := n0_; have HO106 := n1_; have HB := n2_; clear n0_ n1_ n2_; (try clear hb); (try clear hb2); (try clear hk); (try clear hi); (try clear ho0); obtain ⟨Ao19, co19, eo19⟩ := Kd.Zy HO103.out; subst eo19; obtain ⟨Ao20, co20, eo20⟩ := Kd.Zy HO106.out; subst eo20)); try go_wp2_with (first | (go_at_call 53; (with_reducible refine (r00NatTrim.calls k _ _ l0 t101 _ ?side1 ?side2 A3.out).mono ?_); (case side1 => repeat (first | exact HR0.out | (with_reducible refine Kd.ZC ?_ _) | (with_reducible refine Kd.ZF ?_ _) | (with_reducible refine Kd.ZN ?_))); (case side2 => exact HC0.out); rintro e w17 ⟨v102, rfl, ho0, hb⟩; have n0_ := Zb.mk (Kd.ZG ho0 (Zi (by repeat (with_reducible first | exact HB.out | apply Zc | apply Za | apply Zd)))); have n1_ := Zb.mk (Zl (by repeat (with_reducible first | exact HB.out | apply Zc | apply Za | apply Zd)) hb); clear HB; have HO103 := n0_; have HB := n1_; clear n0_ n1_; (try clear hb); (try clear hb2); (try clear hk); (try clear hi); (try clear ho0)) | (go_at_call 53; (with_reducible refine (r00NatTrim.calls k _ _ l1 t104 _ ?side1 ?side2 A4.out).mono ?_); (case side1 => repeat (first | exact (Kd.C_below HR1.out HB.out) | (with_reducible refine Kd.ZC ?_ _) | (with_reducible refine Kd.ZF ?_ _) | (with_reducible refine Kd.ZN ?_))); (case side2 => exact HC1.out); rintro e w18 ⟨v105, rfl, ho0, hb⟩; have n0_ := Zb.mk (Kd.ZJ (by (with_reducible repeat first | apply Kd.Zm | apply Kd.Zo); exact HO103.out) (Kd.ZV ho0) hb); have n1_ := Zb.mk (Kd.ZG (Kd.R_new' ho0 (Kd.R_lt (by (with_reducible repeat first | apply Kd.Zm | apply Kd.Zo); exact HO103.out))) (Zi (by repeat (with_reducible first | exact HB.out | apply Zc | apply Za | apply Zd)))); have n2_ := Zb.mk (Zl (by repeat (with_reducible first | exact HB.out | apply Zc | apply Za | apply Zd)) hb); clear HO103; clear HB; have HO103 := n0_; have HO106 := n1_; have HB := n2_; clear n0_ n1_ n2_; (try clear hb); (try clear hb2); (try clear hk); (try clear hi); (try clear ho0); obtain ⟨Ao19, co19, eo19⟩ := Kd.Zy HO103.out; subst eo19; obtain ⟨Ao20, co20, eo20⟩ := Kd.Zy HO106.out; subst eo20)))
   go_ret
   exact ⟨by first | rfl | (simp [errW_none, errW_some] <;> rfl) | (simp [*, errW_none, errW_some] <;> rfl), by repeat (with_reducible first | exact HB.out | apply Zc | apply Za | apply Zd)⟩
  ·rw [if_neg c16] at H
   have c16b0 : decide ((t101.length : Int) < (t104.length : Int)) = false := decide_eq_false c16
   have c16b1 : decide (t101.length < t104.length) = false := decide_eq_false (fun h => c16 (Int.ofNat_lt.mpr h))
   clear c16
   obtain rfl := Option.some.inj H
   go_enter Try.func57, Try.ntmps57
   go_wp2_with (first | (go_at_call 53; (with_reducible refine (r00NatTrim.calls k _ _ l0 t101 _ ?side1 ?side2 A3.out).mono ?_); (case side1 => repeat (first | exact HR0.out | (with_reducible refine Kd.ZC ?_ _) | (with_reducible refine Kd.ZF ?_ _) | (with_reducible refine Kd.ZN ?_))); (case side2 => exact HC0.out); rintro e w21 ⟨v102, rfl, ho0, hb⟩; have n0_ := Zb.mk (Kd.ZG ho0 (Zi (by repeat (with_reducible first | exact HB.out | apply Zc | apply Za | apply Zd)))); have n1_ := Zb.mk (Zl (by repeat (with_reducible first | exact HB.out | apply Zc | apply Za | apply Zd)) hb); clear HB; have HO103 := n0_; have HB := n1_; clear n0_ n1_; (try clear hb); (try clear hb2); (try clear hk); (try clear hi); (try clear ho0)) | (go_at_call 53; (with_reducible refine (r00NatTrim.calls k _ _ l1 t104 _ ?side1 ?side2 A4.out).mono ?_); (case side1 => repeat (first | exact (Kd.C_below HR1.out HB.out) | (with_reducible refine Kd.ZC ?_ _) | (with_reducible refine Kd.ZF ?_ _) | (with_reducible refine Kd.ZN ?_))); (case side2 => exact HC1.out); rintro e w22 ⟨v105, rfl, ho0, hb⟩; have n0_ := Zb.mk (Kd.ZJ (by (with_reducible repeat first | apply Kd.Zm | apply Kd.Zo); exact HO103.out) (Kd.ZV ho0) hb); have n1_ := Zb.mk (Kd.ZG (Kd.R_new' ho0 (Kd.R_lt (by (with_reducible repeat first | apply Kd.Zm | apply Kd.Zo); exact HO103.out))) (Zi (by repeat (with_reducible first | exact HB.out | apply Zc | apply Za | apply Zd)))); have n2_ := Zb.mk (Zl (by repeat (with_reducible first | exact HB.out | apply Zc | apply Za | apply Zd)) hb); clear HO103; clear HB; have HO103 := n0_; have HO106 := n1_; have HB := n2_; clear n0_ n1_ n2_; (try clear hb); (try clear hb2); (try clear hk); (try clear hi); (try clear ho0); obtain ⟨Ao23, co23, eo23⟩ := Kd.Zy HO103.out; subst eo23; obtain ⟨Ao24, co24, eo24⟩ := Kd.Zy HO106.out; subst eo24))
   repeat (go_quiet (first | (go_at_call 53; (with_reducible refine (r00NatTrim.calls k _ _ l0 t101 _ ?side1 ?side2 A3.out).mono ?_); (case side1 => repeat (first | exact HR0.out | (with_reducible refine Kd.ZC ?_ _) | (with_reducible refine Kd.ZF ?_ _) | (with_reducible refine Kd.ZN ?_))); (case side2 => exact HC0.out); rintro e w21 ⟨v102, rfl, ho0, hb⟩; have n0_ := Zb.mk (Kd.ZG ho0 (Zi (by repeat (with_reducible first | exact HB.out | apply Zc | apply Za | apply Zd)))); have n1_ := Zb.mk (Zl (by repeat (with_reducible first | exact HB.out | apply Zc | apply Za | apply Zd)) hb); clear HB; have HO103 := n0_; have HB := n1_; clear n0_ n1_; (try clear hb); (try clear hb2); (try clear hk); (try clear hi); (try clear ho0)) | (go_at_call 53; (with_reducible refine (r00NatTrim.calls k _ _ l1 t104 _ ?side1 ?side2 A4.out).mono ?_); (case side1 => repeat (first | exact (Kd.C_below HR1.out HB.out) | (with_reducible refine Kd.ZC ?_ _) | (with_reducible refine Kd.ZF ?_ _) | (with_reducible refine Kd.ZN ?_))); (case side2 => exact HC1.out); rintro e w22 ⟨v105, rfl, ho0, hb⟩; have n0_ := Zb.mk (Kd.ZJ (by (with_reducible repeat first | apply Kd.Zm | apply Kd.Zo); exact HO103.out) (Kd.ZV ho0) hb); have n1_ := Zb.mk (Kd.ZG (Kd.R_new' ho0 (Kd.R_lt (by (with_reducible repeat first | apply Kd.Zm | apply Kd.Zo); exact HO103.out))) (Zi (by repeat (with_reducible first | exact HB.out | apply Zc | apply Za | apply Zd)))); have n2_ := Zb.mk (Zl (by repeat (with_reducible first | exact HB.out | apply Zc | apply Za | apply Zd)) hb); clear HO103; clear HB; have HO103 := n0_; have HO106 := n1_; have HB := n2_; clear n0_ n1_ n2_; (try clear hb); (try clear hb2); (try clear hk); (try clear hi); (try clear ho0); obtain ⟨Ao23, co23, eo23⟩ := Kd.Zy HO103.out; subst eo23; obtain ⟨Ao24, co24, eo24⟩ := Kd.Zy HO106.out; subst eo24)); try go_wp2_with (first | (go_at_call 53; (with_reducible refine (r00NatTrim.calls k _ _ l0 t101 _ ?side1 ?side2 A3.out).mono ?_); (case side1 => repeat (first | exact HR0.out | (with_reducible refine Kd.ZC ?_ _) | (with_reducible refine Kd.ZF ?_ _) | (with_reducible refine Kd.ZN ?_))); (case side2 => exact HC0.out); rintro e w21 ⟨v102, rfl, ho0, hb⟩; have n0_ := Zb.mk (Kd.ZG ho0 (Zi (by repeat (with_reducible first | exact HB.out | apply Zc | apply Za | apply Zd)))); have n1_ := Zb.mk (Zl (by repeat (with_reducible first | exact HB.out | apply Zc | apply Za | apply Zd)) hb); clear HB; have HO103 := n0_; have HB := n1_; clear n0_ n1_; (try clear hb); (try clear hb2); (try clear hk); (try clear hi); (try clear ho0)) | (go_at_call 53; (with_reducible refine (r00NatTrim.calls k _ _ l1 t104 _ ?side1 ?side2 A4.out).mono ?_); (case side1 => repeat (first | exact (Kd.C_below HR1.out HB.out) | (with_reducible refine Kd.ZC ?_ _) | (with_reducible refine Kd.ZF ?_ _) | (with_reducible refine Kd.ZN ?_))); (case side2 => exact HC1.out); rintro e w22 ⟨v105, rfl, ho0, hb⟩; have n0_ := Zb.mk (Kd.ZJ (by (with_reducible repeat first | apply Kd.Zm | apply Kd.Zo); exact HO103.out) (Kd.ZV ho0) hb); have n1_ := Zb.mk (Kd.ZG (Kd.R_new' ho0 (Kd.R_lt (by (with_reducible repeat first | apply Kd.Zm | apply Kd.Zo); exact HO103.out))) (Zi (by repeat (with_reducible first | exact HB.out | apply Zc | apply Za | apply Zd)))); have n2_ := Zb.mk (Zl (by repeat (with_reducible first | exact HB.out | apply Zc | apply Za | apply Zd)) hb); clear HO103; clear HB; have HO103 := n0_; have HO106 := n1_; have HB := n2_; clear n0_ n1_ n2_; (try clear hb); (try clear hb2); (try clear hk); (try clear hi); (try clear ho0); obtain ⟨Ao23, co23, eo23⟩ := Kd.Zy HO103.out; subst eo23; obtain ⟨Ao24, co24, eo24⟩ := Kd.Zy HO106.out; subst eo24)))
   go_ret
   exact ⟨by first | rfl | (simp [errW_none, errW_some] <;> rfl) | (simp [*, errW_none, errW_some] <;> rfl), by repeat (with_reducible first | exact HB.out | apply Zc | apply Za | apply Zd)⟩
def r00NatSub.l0 : Nat → List Int → List Int → List Int → Int → Int → Option (List Int)
 | 0, _, _, _, _, _ => none
 | k + 1, x5, x6, x7, x8, x9 => if x9 < (x5.length : Int) then (if 0 ≤ x9 then ((r00digit.f x6 x9).bind fun t118 => (if x7.length < 17592186044416 then (r00NatSub.l0 k x5 x6 (x7 ++ [Int.tmod (IntKind.u64.wrap ((IntKind.u64.wrap ((IntKind.u64.wrap (4294967296 + (rd x5 x9))) - t118)) - x8)) 4294967296]) (IntKind.u64.wrap (1 - (IntKind.u64.wrap (Int.tdiv (IntKind.u64.wrap ((IntKind.u64.wrap ((IntKind.u64.wrap (4294967296 + (rd x5 x9))) - t118)) - x8)) 4294967296)))) (wrap64 (x9 + 1))) else (none))) else (none)) else ((r00limbs.f k x7).bind fun t122 => (some t122))
def r00NatSub.f (k : Nat) (l0 : List Int) (l1 : List Int) : Option (List Int) := (r00halves.f k l0).bind fun t111 => ((r00halves.f k l1).bind fun t114 => (r00NatSub.l0 k t111 t114 ([] : List Int) 0 0))
set_option maxHeartbeats 8000000 in
set_option maxRecDepth 100000 in
theorem r00NatSub.calls (k : Nat) (A0 : Option Addr) (c0 : Nat) (l0 : List Int) (A1 : Option Addr) (c1 : Nat) (l1 : List Int) (r : List Int) (w : World) (hr0 : Kd.C (Kd.int .u64) w A0 l0.length l0) (hc0 : l0.length ≤ c0) (hr1 : Kd.C (Kd.int .u64) w A1 l1.length l1) (hc1 : l1.length ≤ c1) (h : r00NatSub.f k l0 l1 = some r) :
  Calls Try.prog 58 #[.slice A0 l0.length c0, .slice A1 l1.length c1] w fun e w' => ∃ v0_ : Value, e = .returned (v0_) ∧ Kd.R (Kd.int .u64) 46 w' w.heap.size (fun _ => True) v0_ r ∧ Below w.heap.size w w' := by
 have HR0 := Zb.mk hr0
 have HC0 := Zb.mk hc0
 clear hr0 hc0
 have HR1 := Zb.mk hr1
 have HC1 := Zb.mk hc1
 clear hr1 hc1
 have HB := Zb.mk (Below.refl w.heap.size w)
 have H : ((r00halves.f k l0).bind fun t111 => ((r00halves.f k l1).bind fun t114 => (r00NatSub.l0 k t111 t114 ([] : List Int) 0 0))) = some r := h
 clear h
 replace H := Option.bind_eq_some_iff.mp H
 obtain ⟨t111, A30, H⟩ := H
 replace H : ((r00halves.f k l1).bind fun t114 => (r00NatSub.l0 k t111 t114 ([] : List Int) 0 0)) = some r := H
 have A3 := Zb.mk A30
 clear A30
 replace H := Option.bind_eq_some_iff.mp H
 obtain ⟨t114, A40, H⟩ := H
 replace H : (r00NatSub.l0 k t111 t114 ([] : List Int) 0 0) = some r := H
 have A4 := Zb.mk A40
 clear A40
 have H' := Zb.mk H
 clear H
 go_enter Try.func58, Try.ntmps58
 go_wp2_with (first | (go_at_call 91; (with_reducible refine (r00halves.calls k _ _ l0 t111 _ ?side1 ?side2 A3.out).mono ?_); (case side1 => repeat (first | exact HR0.out | (with_reducible refine Kd.ZC ?_ _) | (with_reducible refine Kd.ZF ?_ _) | (with_reducible refine Kd.ZN ?_))); (case side2 => exact HC0.out); rintro e w5 ⟨v112, rfl, ho0, hb⟩; have n0_ := Zb.mk (Kd.ZG ho0 (Zi (by repeat (with_reducible first | exact HB.out | apply Zc | apply Za | apply Zd)))); have n1_ := Zb.mk (Zl (by repeat (with_reducible first | exact HB.out | apply Zc | apply Za | apply Zd)) hb); clear HB; have HO113 := n0_; have HB := n1_; clear n0_ n1_; (try clear hb); (try clear hb2); (try clear hk); (try clear hi); (try clear ho0)) | (go_at_call 91; (with_reducible refine (r00halves.calls k _ _ l1 t114 _ ?side1 ?side2 A4.out).mono ?_); (case side1 => repeat (first | exact (Kd.C_below HR1.out HB.out) | (with_reducible refine Kd.ZC ?_ _) | (with_reducible refine Kd.ZF ?_ _) | (with_reducible refine Kd.ZN ?_))); (case side2 => exact HC1.out); rintro e w6 ⟨v115, rfl, ho0, hb⟩; have n0_ := Zb.mk (Kd.ZJ (by (with_reducible repeat first | apply Kd.Zm | apply Kd.Zo); exact HO113.out) (Kd.ZV ho0) hb); have n1_ := Zb.mk (Kd.ZG (Kd.R_new' ho0 (Kd.R_lt (by (with_reducible repeat first | apply Kd.Zm | apply Kd.Zo); exact HO113.out))) (Zi (by repeat (with_reducible first | exact HB.out | apply Zc | apply Za | apply Zd)))); have n2_ := Zb.mk (Zl (by repeat (with_reducible first | exact HB.out | apply Zc | apply Za | apply Zd)) hb); clear HO113; clear HB; have HO113 := n0_; have HO116 := n1_; have HB := n2_; clear n0_ n1_ n2_; (try clear hb); (try clear hb2); (try clear hk); (try clear hi); (try clear ho0)))
 repeat (go_quiet (first | (go_at_call 91; (with_reducible refine (r00halves.calls k _ _ l0 t111 _ ?side1 ?side2 A3.out).mono ?_); (case side1 => repeat (first | exact HR0.out | (with_reducible refine Kd.ZC ?_ _) | (with_reducible refine Kd.ZF ?_ _) | (with_reducible refine Kd.ZN ?_))); (case side2 => exact HC0.out); rintro e w5 ⟨v112, rfl, ho0, hb⟩; have n0_ := Zb.mk (Kd.ZG ho0 (Zi (by repeat (with_reducible first | exact HB.out | apply Zc | apply Za | apply Zd)))); have n1_ := Zb.mk (Zl (by repeat (with_reducible first | exact HB.out | apply Zc | apply Za | apply Zd)) hb); clear HB; have HO113 := n0_; have HB := n1_; clear n0_ n1_; (try clear hb); (try clear hb2); (try clear hk); (try clear hi); (try clear ho0)) | (go_at_call 91; (with_reducible refine (r00halves.calls k _ _ l1 t114 _ ?side1 ?side2 A4.out).mono ?_); (case side1 => repeat (first | exact (Kd.C_below HR1.out HB.out) | (with_reducible refine Kd.ZC ?_ _) | (with_reducible refine Kd.ZF ?_ _) | (with_reducible refine Kd.ZN ?_))); (case side2 => exact HC1.out); rintro e w6 ⟨v115, rfl, ho0, hb⟩; have n0_ := Zb.mk (Kd.ZJ (by (with_reducible repeat first | apply Kd.Zm | apply Kd.Zo); exact HO113.out) (Kd.ZV ho0) hb); have n1_ := Zb.mk (Kd.ZG (Kd.R_new' ho0 (Kd.R_lt (by (with_reducible repeat first | apply Kd.Zm | apply Kd.Zo); exact HO113.out))) (Zi (by repeat (with_reducible first | exact HB.out | apply Zc | apply Za | apply Zd)))); have n2_ := Zb.mk (Zl (by repeat (with_reducible first | exact HB.out | apply Zc | apply Za | apply Zd)) hb); clear HO113; clear HB; have HO113 := n0_; have HO116 := n1_; have HB := n2_; clear n0_ n1_ n2_; (try clear hb); (try clear hb2); (try clear hk); (try clear hi); (try clear ho0))); try go_wp2_with (first | (go_at_call 91; (with_reducible refine (r00halves.calls k _ _ l0 t111 _ ?side1 ?side2 A3.out).mono ?_); (case side1 => repeat (first | exact HR0.out | (with_reducible refine Kd.ZC ?_ _) | (with_reducible refine Kd.ZF ?_ _) | (with_reducible refine Kd.ZN ?_))); (case side2 => exact HC0.out); rintro e w5 ⟨v112, rfl, ho0, hb⟩; have n0_ := Zb.mk (Kd.ZG ho0 (Zi (by repeat (with_reducible first | exact HB.out | apply Zc | apply Za | apply Zd)))); have n1_ := Zb.mk (Zl (by repeat (with_reducible first | exact HB.out | apply Zc | apply Za | apply Zd)) hb); clear HB; have HO113 := n0_; have HB := n1_; clear n0_ n1_; (try clear hb); (try clear hb2); (try clear hk); (try clear hi); (try clear ho0)) | (go_at_call 91; (with_reducible refine (r00halves.calls k _ _ l1 t114 _ ?side1 ?side2 A4.out).mono ?_); (case side1 => repeat (first | exact (Kd.C_below HR1.out HB.out) | (with_reducible refine Kd.ZC ?_ _) | (with_reducible refine Kd.ZF ?_ _) | (with_reducible refine Kd.ZN ?_))); (case side2 => exact HC1.out); rintro e w6 ⟨v115, rfl, ho0, hb⟩; have n0_ := Zb.mk (Kd.ZJ (by (with_reducible repeat first | apply Kd.Zm | apply Kd.Zo); exact HO113.out) (Kd.ZV ho0) hb); have n1_ := Zb.mk (Kd.ZG (Kd.R_new' ho0 (Kd.R_lt (by (with_reducible repeat first | apply Kd.Zm | apply Kd.Zo); exact HO113.out))) (Zi (by repeat (with_reducible first | exact HB.out | apply Zc | apply Za | apply Zd)))); have n2_ := Zb.mk (Zl (by repeat (with_reducible first | exact HB.out | apply Zc | apply Za | apply Zd)) hb); clear HO113; clear HB; have HO113 := n0_; have HO116 := n1_; have HB := n2_; clear n0_ n1_ n2_; (try clear hb); (try clear hb2); (try clear hk); (try clear hi); (try clear ho0))))
 go_loopg [7, 8, 9] k (fun kq v7 v8 v9 w' => ∃ (x7_1 : List Int) (x8_1 : Int) (x9_1 : Int), v8 = .int .u64 x8_1 ∧ v9 = .int .i64 x9_1 ∧ Zb (r00NatSub.l0 kq t111 t114 x7_1 x8_1 x9_1 = some r) ∧ Zb (kq ≤ k) ∧ Zb (Kd.R (Kd.int .u64) 46 w' w.heap.size (fun k_ => some k_ ≠ (v115 : Value).ownBlock ∧ some k_ ≠ (v7 : Value).ownBlock) v112 t111) ∧ Zb (Kd.R (Kd.int .u64) 46 w' w.heap.size (fun k_ => some k_ ≠ (v112 : Value).ownBlock ∧ some k_ ≠ (v7 : Value).ownBlock) v115 t114) ∧ Zb (Kd.R (Kd.int .u64) 46 w' w.heap.size (fun k_ => some k_ ≠ (v112 : Value).ownBlock ∧ some k_ ≠ (v115 : Value).ownBlock) v7 x7_1) ∧ Zb (Below w.heap.size w w'))
 case atStart => exact ⟨(([] : List Int)), (0), (0), (by first | rfl | (simp; done) | (simp [*]; done)), (by first | rfl | (simp; done) | (simp [*]; done)), H', ⟨Nat.le_refl _⟩, ⟨by (with_reducible repeat first | apply Kd.Zm | apply Kd.Zo); exact Kd.ZE HO113.out (fun _ hk => ⟨hk.2, (by simp [Value.ownBlock])⟩)⟩, ⟨by (with_reducible repeat first | apply Kd.Zm | apply Kd.Zo); exact Kd.ZE HO116.out (fun _ hk => ⟨hk.2, (by simp [Value.ownBlock])⟩)⟩, ⟨by first | exact Kd.R_nil _ _ _ _ _ | exact Kd.V_nil _ _ _ _ _ | exact Kd.S_nil _ _ _ _ _⟩, ⟨by repeat (with_reducible first | exact HB.out | apply Zc | apply Za | apply Zd)⟩⟩
 case round =>
  clear H'
  try clear c1
  try clear p2
  try clear c5
  obtain ⟨x7_1, x8_1, x9_1, rfl, rfl, HA, HK1, HO_5, HO_6, HO_7, HB⟩ := hrel
  cases gk with
  | zero => exact absurd HA.out (by simp [r00NatSub.l0])
  | succ k1 =>
   have H := HA.out
   clear HA
   simp only [r00NatSub.l0] at H
   by_cases c7 : x9_1 < (t111.length : Int)
   ·rw [if_pos c7] at H
    have c7b0 : decide (x9_1 < (t111.length : Int)) = true := decide_eq_true c7
    clear c7
    by_cases c8 : 0 ≤ x9_1
    ·rw [if_pos c8] at H
     have c8b0 : decide (0 ≤ x9_1) = true := decide_eq_true c8
     clear c8
     replace H := Option.bind_eq_some_iff.mp H
     obtain ⟨t118, A90, H⟩ := H
     replace H : (if x7_1.length < 17592186044416 then (r00NatSub.l0 k1 t111 t114 (x7_1 ++ [Int.tmod (IntKind.u64.wrap ((IntKind.u64.wrap ((IntKind.u64.wrap (4294967296 + (rd t111 x9_1))) - t118)) - x8_1)) 4294967296]) (IntKind.u64.wrap (1 - (IntKind.u64.wrap (Int.tdiv (IntKind.u64.wrap ((IntKind.u64.wrap ((IntKind.u64.wrap (4294967296 + (rd t111 x9_1))) - t118)) - x8_1)) 4294967296)))) (wrap64 (x9_1 + 1))) else (none)) = some r := H
     have A9 := Zb.mk A90
     clear A90
     by_cases c10 : x7_1.length < 17592186044416
     ·rw [if_pos c10] at H
      have LMc10 := Zb.mk c10
      clear c10
      obtain ⟨y119, hy119⟩ : ∃ y_ : List Int, y_ = (x7_1 ++ [Int.tmod (IntKind.u64.wrap ((IntKind.u64.wrap ((IntKind.u64.wrap (4294967296 + (rd t111 x9_1))) - t118)) - x8_1)) 4294967296]) := ⟨_, rfl⟩
      replace H : (r00NatSub.l0 k1 t111 t114 y119 (IntKind.u64.wrap (1 - (IntKind.u64.wrap (Int.tdiv (IntKind.u64.wrap ((IntKind.u64.wrap ((IntKind.u64.wrap (4294967296 + (rd t111 x9_1))) - t118)) - x8_1)) 4294967296)))) (wrap64 (x9_1 + 1))) = some r := by first | (rw [hy119]; with_reducible exact H) | (have H2_ := (Option.bind_some _ _).symm.trans H; rw [hy119]; with_reducible exact H2_) | (have H2_ := (Option.bind_some _ _).symm.trans H; with_reducible exact H2_) | with_reducible exact H | (rw [hy119]; exact H) | exact H
      have Ny119 := Zb.mk hy119
      clear hy119
      have H' := Zb.mk H
      clear H
      obtain ⟨Ao11, co11, eo11⟩ := Kd.Zy HO_5.out
      subst eo11
      have p117 : 0 ≤ (x9_1 : Int) := of_decide_eq_true (by first | (with_reducible assumption) | assumption)
      have q117 : x9_1 < (t111.length : Int) := of_decide_eq_true (by first | (with_reducible assumption) | assumption)
      obtain ⟨ad117, e117, hx117_0⟩ := Kd.at_int (Kd.Zv HO_5.out).2.2 x9_1 p117 q117
      cases e117
      replace p117 := eq_true p117
      replace q117 := eq_true q117
      obtain ⟨Ao12, co12, eo12⟩ := Kd.Zy HO_6.out
      subst eo12
      go_wp2_with (first | (go_at_call 93; (with_reducible refine (r00digit.calls _ _ t114 x9_1 t118 _ ?side1 ?side2 A9.out).mono ?_); (case side1 => repeat (first | exact (Kd.Zv HO_6.out).2.2 | (with_reducible refine Kd.ZC ?_ _) | (with_reducible refine Kd.ZF ?_ _) | (with_reducible refine Kd.ZN ?_))); (case side2 => exact (Kd.Zv HO_6.out).2.1); rintro e w' ⟨rfl, ⟨nd, rfl⟩⟩; (try first | exact ⟨rfl, _, World.drewN_drewN _ _ _⟩ | exact ⟨rfl, _, Eq.trans (World.drewN_drewN _ _ _) (congrArg (World.drewN _) (Nat.add_assoc _ _ _))⟩)) | ((with_reducible refine gate_builtin (b := .append) (xs := #[.tmp 32, .tmp 35]) rfl ?_); at_builtin; refine Kd.R_append (Kd.int .u64) (w0 := w) w.heap.size rfl (.tmp 32) (.tmp 35) 22 46 (.int .u64 0) 8 rfl Try.underlying22 info46 rfl (by decide) (by omega) u7 x7_1 (Int.tmod (IntKind.u64.wrap ((IntKind.u64.wrap ((IntKind.u64.wrap (4294967296 + (rd t111 x9_1))) - t118)) - x8_1)) 4294967296) [.int .u64 (Int.tmod (IntKind.u64.wrap ((IntKind.u64.wrap ((IntKind.u64.wrap (4294967296 + (rd t111 x9_1))) - t118)) - x8_1)) 4294967296)] (fun k_ => some k_ ≠ (.slice (some ad117) t111.length co11 : Value).ownBlock ∧ some k_ ≠ (.slice Ao12 t114.length co12 : Value).ownBlock) (fun _ => False) rfl rfl ?aP (fun _ hk => hk.elim) ?aF ?aO ?aB ?aS ?aL ?_; (case aP => exact rfl); (case aB => exact (by repeat (with_reducible first | exact HB.out | apply Zc | apply Za | apply Zd))); (case aF => exact (fun k_ hk => ⟨Kd.fresh' (Kd.R_lt (by (with_reducible repeat first | apply Kd.Zm | apply Kd.Zo); exact HO_5.out)) k_ hk, Kd.fresh' (Kd.R_lt (by (with_reducible repeat first | apply Kd.Zm | apply Kd.Zo); exact HO_6.out)) k_ hk⟩)); (case aO => exact (by (with_reducible repeat first | apply Kd.Zm | apply Kd.Zo); exact HO_7.out)); (case aS => exact (Zi (by repeat (with_reducible first | exact HB.out | apply Zc | apply Za | apply Zd)))); (case aL => have := LMc10.out; omega); intro v120 w13 ho hb hg hat; rw [← Ny119.out] at ho; have n0_ := Zb.mk (Kd.R_after (ok := (fun k_ => some k_ ≠ (.slice Ao12 t114.length co12 : Value).ownBlock)) (by (with_reducible repeat first | apply Kd.Zm | apply Kd.Zo); exact HO_5.out) hg hat); have n1_ := Zb.mk (Kd.R_after (ok := (fun k_ => some k_ ≠ (.slice (some ad117) t111.length co11 : Value).ownBlock)) (by (with_reducible repeat first | apply Kd.Zm | apply Kd.Zo); exact HO_6.out) hg hat); have n2_ := Zb.mk (hb); have n3_ := Zb.mk (ho); clear HO_5; clear HO_6; clear HB; clear HO_7; have HO_5 := n0_; have HO_6 := n1_; have HB := n2_; have HO121 := n3_; clear n0_ n1_ n2_ n3_; clear ho hb hg hat))
      repeat (go_quiet (first | (go_at_call 93; (with_reducible refine (r00digit.calls _ _ t114 x9_1 t118 _ ?side1 ?side2 A9.out).mono ?_); (case side1 => repeat (first | exact (Kd.Zv HO_6.out).2.2 | (with_reducible refine Kd.ZC ?_ _) | (with_reducible refine Kd.ZF ?_ _) | (with_reducible refine Kd.ZN ?_))); (case side2 => exact (Kd.Zv HO_6.out).2.1); rintro e w' ⟨rfl, ⟨nd, rfl⟩⟩; (try first | exact ⟨rfl, _, World.drewN_drewN _ _ _⟩ | exact ⟨rfl, _, Eq.trans (World.drewN_drewN _ _ _) (congrArg (World.drewN _) (Nat.add_assoc _ _ _))⟩)) | ((with_reducible refine gate_builtin (b := .append) (xs := #[.tmp 32, .tmp 35]) rfl ?_); at_builtin; refine Kd.R_append (Kd.int .u64) (w0 := w) w.heap.size rfl (.tmp 32) (.tmp 35) 22 46 (.int .u64 0) 8 rfl Try.underlying22 info46 rfl (by decide) (by omega) u7 x7_1 (Int.tmod (IntKind.u64.wrap ((IntKind.u64.wrap ((IntKind.u64.wrap (4294967296 + (rd t111 x9_1))) - t118)) - x8_1)) 4294967296) [.int .u64 (Int.tmod (IntKind.u64.wrap ((IntKind.u64.wrap ((IntKind.u64.wrap (4294967296 + (rd t111 x9_1))) - t118)) - x8_1)) 4294967296)] (fun k_ => some k_ ≠ (.slice (some ad117) t111.length co11 : Value).ownBlock ∧ some k_ ≠ (.slice Ao12 t114.length co12 : Value).ownBlock) (fun _ => False) rfl rfl ?aP (fun _ hk => hk.elim) ?aF ?aO ?aB ?aS ?aL ?_; (case aP => exact rfl); (case aB => exact (by repeat (with_reducible first | exact HB.out | apply Zc | apply Za | apply Zd))); (case aF => exact (fun k_ hk => ⟨Kd.fresh' (Kd.R_lt (by (with_reducible repeat first | apply Kd.Zm | apply Kd.Zo); exact HO_5.out)) k_ hk, Kd.fresh' (Kd.R_lt (by (with_reducible repeat first | apply Kd.Zm | apply Kd.Zo); exact HO_6.out)) k_ hk⟩)); (case aO => exact (by (with_reducible repeat first | apply Kd.Zm | apply Kd.Zo); exact HO_7.out)); (case aS => exact (Zi (by repeat (with_reducible first | exact HB.out | apply Zc | apply Za | apply Zd)))); (case aL => have := LMc10.out; omega); intro v120 w13 ho hb hg hat; rw [← Ny119.out] at ho; have n0_ := Zb.mk (Kd.R_after (ok := (fun k_ => some k_ ≠ (.slice Ao12 t114.length co12 : Value).ownBlock)) (by (with_reducible repeat first | apply Kd.Zm | apply Kd.Zo); exact HO_5.out) hg hat); have n1_ := Zb.mk (Kd.R_after (ok := (fun k_ => some k_ ≠ (.slice (some ad117) t111.length co11 : Value).ownBlock)) (by (with_reducible repeat first | apply Kd.Zm | apply Kd.Zo); exact HO_6.out) hg hat); have n2_ := Zb.mk (hb); have n3_ := Zb.mk (ho); clear HO_5; clear HO_6; clear HB; clear HO_7; have HO_5 := n0_; have HO_6 := n1_; have HB := n2_; have HO121 := n3_; clear n0_ n1_ n2_ n3_; clear ho hb hg hat)); try go_wp2_with (first | (go_at_call 93; (with_reducible refine (r00digit.calls _ _ t114 x9_1 t118 _ ?side1 ?side2 A9.out).mono ?_); (case side1 => repeat (first | exact (Kd.Zv HO_6.out).2.2 | (with_reducible refine Kd.ZC ?_ _) | (with_reducible refine Kd.ZF ?_ _) | (with_reducible refine Kd.ZN ?_))); (case side2 => exact (Kd.Zv HO_6.out).2.1); rintro e w' ⟨rfl, ⟨nd, rfl⟩⟩; (try first | exact ⟨rfl, _, World.drewN_drewN _ _ _⟩ | exact ⟨rfl, _, Eq.trans (World.drewN_drewN _ _ _) (congrArg (World.drewN _) (Nat.add_assoc _ _ _))⟩)) | ((with_reducible refine gate_builtin (b := .append) (xs := #[.tmp 32, .tmp 35]) rfl ?_); at_builtin; refine Kd.R_append (Kd.int .u64) (w0 := w) w.heap.size rfl (.tmp 32) (.tmp 35) 22 46 (.int .u64 0) 8 rfl Try.underlying22 info46 rfl (by decide) (by omega) u7 x7_1 (Int.tmod (IntKind.u64.wrap ((IntKind.u64.wrap ((IntKind.u64.wrap (4294967296 + (rd t111 x9_1))) - t118)) - x8_1)) 4294967296) [.int .u64 (Int.tmod (IntKind.u64.wrap ((IntKind.u64.wrap ((IntKind.u64.wrap (4294967296 + (rd t111 x9_1))) - t118)) - x8_1)) 4294967296)] (fun k_ => some k_ ≠ (.slice (some ad117) t111.length co11 : Value).ownBlock ∧ some k_ ≠ (.slice Ao12 t114.length co12 : Value).ownBlock) (fun _ => False) rfl rfl ?aP (fun _ hk => hk.elim) ?aF ?aO ?aB ?aS ?aL ?_; (case aP => exact rfl); (case aB => exact (by repeat (with_reducible first | exact HB.out | apply Zc | apply Za | apply Zd))); (case aF => exact (fun k_ hk => ⟨Kd.fresh' (Kd.R_lt (by (with_reducible repeat first | apply Kd.Zm | apply Kd.Zo); exact HO_5.out)) k_ hk, Kd.fresh' (Kd.R_lt (by (with_reducible repeat first | apply Kd.Zm | apply Kd.Zo); exact HO_6.out)) k_ hk⟩)); (case aO => exact (by (with_reducible repeat first | apply Kd.Zm | apply Kd.Zo); exact HO_7.out)); (case aS => exact (Zi (by repeat (with_reducible first | exact HB.out | apply Zc | apply Za | apply Zd)))); (case aL => have := LMc10.out; omega); intro v120 w13 ho hb hg hat; rw [← Ny119.out] at ho; have n0_ := Zb.mk (Kd.R_after (ok := (fun k_ => some k_ ≠ (.slice Ao12 t114.length co12 : Value).ownBlock)) (by (with_reducible repeat first | apply Kd.Zm | apply Kd.Zo); exact HO_5.out) hg hat); have n1_ := Zb.mk (Kd.R_after (ok := (fun k_ => some k_ ≠ (.slice (some ad117) t111.length co11 : Value).ownBlock)) (by (with_reducible repeat first | apply Kd.Zm | apply Kd.Zo); exact HO_6.out) hg hat); have n2_ := Zb.mk (hb); have n3_ := Zb.mk (ho); clear HO_5; clear HO_6; clear HB; clear HO_7; have HO_5 := n0_; have HO_6 := n1_; have HB := n2_; have HO121 := n3_; clear n0_ n1_ n2_ n3_; clear ho hb hg hat)))
      go_roundg k1
      case measure => have := HK1.out; omega
      case rel => exact ⟨(y119), (IntKind.u64.wrap (1 - (IntKind.u64.wrap (Int.tdiv (IntKind.u64.wrap ((IntKind.u64.wrap ((IntKind.u64.wrap (4294967296 + (rd t111 x9_1))) - t118)) - x8_1)) 4294967296)))), (wrap64 (x9_1 + 1)), (by first | rfl | (simp; done) | (simp [*]; done)), (by first | rfl | (simp; done) | (simp [*]; done)), H', ⟨by have := HK1.out; omega⟩, ⟨by (with_reducible repeat first | apply Kd.Zm | apply Kd.Zo); exact HO_5.out⟩, ⟨by (with_reducible repeat first | apply Kd.Zm | apply Kd.Zo); exact HO_6.out⟩, ⟨by (with_reducible repeat first | apply Kd.Zm | apply Kd.Zo); exact HO121.out⟩, ⟨by repeat (with_reducible first | exact HB.out | apply Zc | apply Za | apply Zd)⟩⟩
     ·rw [if_neg c10] at H
      exact absurd H (by simp)
    ·rw [if_neg c8] at H
     exact absurd H (by simp)
   ·rw [if_neg c7] at H
    have c7b0 : decide (x9_1 < (t111.length : Int)) = false := decide_eq_false c7
    clear c7
    replace H := Option.bind_eq_some_iff.mp H
    obtain ⟨t122, A140, H⟩ := H
    replace H : (some t122) = some r := H
    have A14 := Zb.mk A140
    clear A140
    obtain rfl := Option.some.inj H
    obtain ⟨Ao15, co15, eo15⟩ := Kd.Zy HO_5.out
    subst eo15
    obtain ⟨Ao16, co16, eo16⟩ := Kd.Zy HO_7.out
    subst eo16
    go_wp2_with (first | (go_at_call 92; (with_reducible refine (r00limbs.calls k1 _ _ x7_1 t122 _ ?side1 ?side2 A14.out).mono ?_); (case side1 => repeat (first | exact (Kd.Zv HO_7.out).2.2 | (with_reducible refine Kd.ZC ?_ _) | (with_reducible refine Kd.ZF ?_ _) | (with_reducible refine Kd.ZN ?_))); (case side2 => exact (Kd.Zv HO_7.out).2.1); rintro e w17 ⟨v123, rfl, ho0, hb⟩; have n0_ := Zb.mk (Kd.ZJ (by (with_reducible repeat first | apply Kd.Zm | apply Kd.Zo); exact HO_5.out) (Kd.ZV ho0) hb); have n1_ := Zb.mk (Kd.ZJ (by (with_reducible repeat first | apply Kd.Zm | apply Kd.Zo); exact HO_6.out) (Kd.ZV ho0) hb); have n2_ := Zb.mk (Kd.ZJ (by (with_reducible repeat first | apply Kd.Zm | apply Kd.Zo); exact HO_7.out) (Kd.ZV ho0) hb); have n3_ := Zb.mk (Kd.ZG (Kd.R_new' (Kd.R_new' (Kd.R_new' ho0 (Kd.R_lt (by (with_reducible repeat first | apply Kd.Zm | apply Kd.Zo); exact HO_5.out))) (Kd.R_lt (by (with_reducible repeat first | apply Kd.Zm | apply Kd.Zo); exact HO_6.out))) (Kd.R_lt (by (with_reducible repeat first | apply Kd.Zm | apply Kd.Zo); exact HO_7.out))) (Zi (by repeat (with_reducible first | exact HB.out | apply Zc | apply Za | apply Zd)))); have n4_ := Zb.mk (Zl (by repeat (with_reducible first | exact HB.out | apply Zc | apply Za | apply Zd)) hb); clear HO_5; clear HO_6; clear HO_7; clear HB; have HO_5 := n0_; have HO_6 := n1_; have HO_7 := n2_; have HO124 := n3_; have HB := n4_; clear n0_ n1_ n2_ n3_ n4_; (try clear hb); (try clear hb2); (try clear hk); (try clear hi); (try clear ho0)))
    repeat (go_quiet (first | (go_at_call 92; (with_reducible refine (r00limbs.calls k1 _ _ x7_1 t122 _ ?side1 ?side2 A14.out).mono ?_); (case side1 => repeat (first | exact (Kd.Zv HO_7.out).2.2 | (with_reducible refine Kd.ZC ?_ _) | (with_reducible refine Kd.ZF ?_ _) | (with_reducible refine Kd.ZN ?_))); (case side2 => exact (Kd.Zv HO_7.out).2.1); rintro e w17 ⟨v123, rfl, ho0, hb⟩; have n0_ := Zb.mk (Kd.ZJ (by (with_reducible repeat first | apply Kd.Zm | apply Kd.Zo); exact HO_5.out) (Kd.ZV ho0) hb); have n1_ := Zb.mk (Kd.ZJ (by (with_reducible repeat first | apply Kd.Zm | apply Kd.Zo); exact HO_6.out) (Kd.ZV ho0) hb); have n2_ := Zb.mk (Kd.ZJ (by (with_reducible repeat first | apply Kd.Zm | apply Kd.Zo); exact HO_7.out) (Kd.ZV ho0) hb); have n3_ := Zb.mk (Kd.ZG (Kd.R_new' (Kd.R_new' (Kd.R_new' ho0 (Kd.R_lt (by (with_reducible repeat first | apply Kd.Zm | apply Kd.Zo); exact HO_5.out))) (Kd.R_lt (by (with_reducible repeat first | apply Kd.Zm | apply Kd.Zo); exact HO_6.out))) (Kd.R_lt (by (with_reducible repeat first | apply Kd.Zm | apply Kd.Zo); exact HO_7.out))) (Zi (by repeat (with_reducible first | exact HB.out | apply Zc | apply Za | apply Zd)))); have n4_ := Zb.mk (Zl (by repeat (with_reducible first | exact HB.out | apply Zc | apply Za | apply Zd)) hb); clear HO_5; clear HO_6; clear HO_7; clear HB; have HO_5 := n0_; have HO_6 := n1_; have HO_7 := n2_; have HO124 := n3_; have HB := n4_; clear n0_ n1_ n2_ n3_ n4_; (try clear hb); (try clear hb2); (try clear hk); (try clear hi); (try clear ho0))); try go_wp2_with (first | (go_at_call 92; (with_reducible refine (r00limbs.calls k1 _ _ x7_1 t122 _ ?side1 ?side2 A14.out).mono ?_); (case side1 => repeat (first | exact (Kd.Zv HO_7.out).2.2 | (with_reducible refine Kd.ZC ?_ _) | (with_reducible refine Kd.ZF ?_ _) | (with_reducible refine Kd.ZN ?_))); (case side2 => exact (Kd.Zv HO_7.out).2.1); rintro e w17 ⟨v123, rfl, ho0, hb⟩; have n0_ := Zb.mk (Kd.ZJ (by (with_reducible repeat first | apply Kd.Zm | apply Kd.Zo); exact HO_5.out) (Kd.ZV ho0) hb); have n1_ := Zb.mk (Kd.ZJ (by (with_reducible repeat first | apply Kd.Zm | apply Kd.Zo); exact HO_6.out) (Kd.ZV ho0) hb); have n2_ := Zb.mk (Kd.ZJ (by (with_reducible repeat first | apply Kd.Zm | apply Kd.Zo); exact HO_7.out) (Kd.ZV ho0) hb); have n3_ := Zb.mk (Kd.ZG (Kd.R_new' (Kd.R_new' (Kd.R_new' ho0 (Kd.R_lt (by (with_reducible repeat first | apply Kd.Zm | apply Kd.Zo); exact HO_5.out))) (Kd.R_lt (by (with_reducible repeat first | apply Kd.Zm | apply Kd.Zo); exact HO_6.out))) (Kd.R_lt (by (with_reducible repeat first | apply Kd.Zm | apply Kd.Zo); exact HO_7.out))) (Zi (by repeat (with_reducible first | exact HB.out | apply Zc | apply Za | apply Zd)))); have n4_ := Zb.mk (Zl (by repeat (with_reducible first | exact HB.out | apply Zc | apply Za | apply Zd)) hb); clear HO_5; clear HO_6; clear HO_7; clear HB; have HO_5 := n0_; have HO_6 := n1_; have HO_7 := n2_; have HO124 := n3_; have HB := n4_; clear n0_ n1_ n2_ n3_ n4_; (try clear hb); (try clear hb2); (try clear hk); (try clear hi); (try clear ho0))))
    go_ret
    exact ⟨_, by first | rfl | (simp [errW_none, errW_some] <;> rfl) | (simp [*, errW_none, errW_some] <;> rfl), by (with_reducible repeat first | apply Kd.Zm | apply Kd.Zo); exact Kd.ZE HO124.out (fun _ hk => trivial), by repeat (with_reducible first | exact HB.out | apply Zc | apply Za | apply Zd)⟩
end Go.Proofs.Ytbmddlldadbfnaa.BE
end

/- Part of the proof that a number of at most 40 limbs is at least the base to the power of its digits less one, and below that of its digits; its digits are those of its text. -/
import Derived.Test.YtbmddlldadbfnaaProg
import Derived.Below
import Derived.Deep.Draws
import Derived.Deep.AppendLies
import Derived.Maps.AppendAt
import Derived.OwnWalk
import Derived.Laws.BytesArg
import Derived.Laws.MakeOwn
import Derived.Laws.OwnMore
import Derived.Deep.OwnRows
import Derived.Tactics
import Derived.Lib.ConvBytes
import Derived.Laws.Slices
import Derived.WalkKit
import Derived.KernelRfl
import Derived.RowKit3
import Derived.Deep.LoopGhost
import Derived.Deep.QuietTactic
import Derived.BigQuiet
import Derived.WideLaws
import Derived.Deep.DeepCutAuto
import Derived.Deep.CutBlock
import Derived.Deep.RegionHeld3
import Derived.Laws.Rows
import Derived.Lib.AppendStr
import Derived.ArgAppend
import Derived.Laws.IdiomCopy
import Derived.OrdersHeld
import Derived.Laws.BitsLemmas
import Derived.RowKit
import Derived.Test.YtbmddlldadbfnaaCC3
section
namespace Go.Proofs.Ytbmddlldadbfnaa.BB
open Go.RowKit Go.Proofs.Ytbmddlldadbfnaa.BA Go.Proofs.YtbmddlldadbfnaaW.PrintWords Go.Proofs.YtbmddlldadbfnaaW.PrintLast Go.Proofs.YtbmddlldadbfnaaW.PrintMore
attribute [local go_sem] ZU ZS max_two min_two ZP ZO ZT ZR
set_option linter.unusedVariables false
set_option linter.unusedSimpArgs false
mutual
def r00product.l0 : Nat → List Int → List Int → List Int → Int → Option (List Int)
 | 0, _, _, _, _ => none
 | k + 1, x0, x1, x5, x6 => if x6 < (x0.length : Int) then (r00product.l1 k x0 x1 x5 x6 0 0) else ((r00low.f k x5).bind fun t260 => (some t260))
def r00product.l1 : Nat → List Int → List Int → List Int → Int → Int → Int → Option (List Int)
 | 0, _, _, _, _, _, _ => none
 | k + 1, x0, x1, x5, x6, x7, x8 => if x8 < (x1.length : Int) then (if 0 ≤ x6 then (if x6 < (x0.length : Int) then (if 0 ≤ x8 then (if 0 ≤ (wrap64 (x6 + x8)) then (if (wrap64 (x6 + x8)) < (x5.length : Int) then (r00product.l1 k x0 x1 (x5.set ((wrap64 (x6 + x8)) : Int).toNat (Int.tmod (IntKind.u64.wrap ((IntKind.u64.wrap ((IntKind.u64.wrap ((rd x0 x6) * (rd x1 x8))) + (rd x5 (wrap64 (x6 + x8))))) + x7)) 4294967296)) x6 (IntKind.u64.wrap (Int.tdiv (IntKind.u64.wrap ((IntKind.u64.wrap ((IntKind.u64.wrap ((rd x0 x6) * (rd x1 x8))) + (rd x5 (wrap64 (x6 + x8))))) + x7)) 4294967296)) (wrap64 (x8 + 1))) else (none)) else (none)) else (none)) else (none)) else (none)) else (if 0 ≤ (wrap64 (x6 + (x1.length : Int))) then (if (wrap64 (x6 + (x1.length : Int))) < (x5.length : Int) then (r00product.l0 k x0 x1 (x5.set ((wrap64 (x6 + (x1.length : Int))) : Int).toNat x7) (wrap64 (x6 + 1))) else (none)) else (none))
end
def r00product.f (k : Nat) (l0 : List Int) (l1 : List Int) : Option (List Int) := if 0 ≤ (wrap64 ((l0.length : Int) + (l1.length : Int))) then (if (wrap64 ((l0.length : Int) + (l1.length : Int)) : Int).toNat ≤ 35184372088832 then (r00product.l0 k l0 l1 (List.replicate (wrap64 ((l0.length : Int) + (l1.length : Int)) : Int).toNat 0) 0) else (none)) else (none)
set_option maxHeartbeats 8000000 in
set_option maxRecDepth 100000 in
theorem r00product.calls (k : Nat) (A0 : Option Addr) (c0 : Nat) (l0 : List Int) (A1 : Option Addr) (c1 : Nat) (l1 : List Int) (r : List Int) (w : World) (hr0 : Kd.C (Kd.int .u64) w A0 l0.length l0) (hc0 : l0.length ≤ c0) (hr1 : Kd.C (Kd.int .u64) w A1 l1.length l1) (hc1 : l1.length ≤ c1) (h : r00product.f k l0 l1 = some r) :
  Calls Try.prog 94 #[.slice A0 l0.length c0, .slice A1 l1.length c1] w fun e w' => ∃ v0_ : Value, e = .returned (v0_) ∧ Kd.R (Kd.int .u64) 46 w' w.heap.size (fun _ => True) v0_ r ∧ Below w.heap.size w w' := by
 have HR0 := Zb.mk hr0
 have HC0 := Zb.mk hc0
 clear hr0 hc0
 have HR1 := Zb.mk hr1
 have HC1 := Zb.mk hc1
 clear hr1 hc1
 have HB := Zb.mk (Below.refl w.heap.size w)
 have H : (if 0 ≤ (wrap64 ((l0.length : Int) + (l1.length : Int))) then (if (wrap64 ((l0.length : Int) + (l1.length : Int)) : Int).toNat ≤ 35184372088832 then (r00product.l0 k l0 l1 (List.replicate (wrap64 ((l0.length : Int) + (l1.length : Int)) : Int).toNat 0) 0) else (none)) else (none)) = some r := h
 clear h
 obtain ⟨ji3, hji3⟩ : ∃ j_ : Int, (wrap64 ((l0.length : Int) + (l1.length : Int))) = j_ := ⟨_, rfl⟩
 replace H : (if 0 ≤ (ji3) then (if (ji3 : Int).toNat ≤ 35184372088832 then (r00product.l0 k l0 l1 (List.replicate (ji3 : Int).toNat 0) 0) else (none)) else (none)) = some r := by first | (rw [hji3] at H; exact H) | (simp only [hji3] at H ⊢; exact H)
 have hji3w : (IntKind.i64.wrap ((l0.length : Int) + (l1.length : Int))) = ji3 := (Zx _).trans hji3
 by_cases c4 : 0 ≤ (ji3)
 ·rw [if_pos c4] at H
  have c4b0 := eq_true c4
  have c4b1 : decide (0 ≤ (ji3)) = true := decide_eq_true c4
  clear c4
  by_cases c5 : (ji3 : Int).toNat ≤ 35184372088832
  ·rw [if_pos c5] at H
   have c5b0 := eq_true c5
   have c5b1 : decide ((ji3 : Int).toNat ≤ 35184372088832) = true := decide_eq_true c5
   clear c5
   obtain ⟨y257, hy257⟩ : ∃ y_ : List Int, y_ = (List.replicate (ji3 : Int).toNat 0) := ⟨_, rfl⟩
   replace H : (r00product.l0 k l0 l1 y257 0) = some r := by first | (rw [hy257]; with_reducible exact H) | (have H2_ := (Option.bind_some _ _).symm.trans H; rw [hy257]; with_reducible exact H2_) | (have H2_ := (Option.bind_some _ _).symm.trans H; with_reducible exact H2_) | with_reducible exact H | (rw [hy257]; exact H) | exact H
   have Ny257 := Zb.mk hy257
   clear hy257
   have H' := Zb.mk H
   clear H
   go_enter Try.func94, Try.ntmps94
   go_wp2_with (first | ((with_reducible refine Zt (N := 15) rfl ?_); refine Kd.R_make (Kd.int .u64) _ 46 rfl (N := 15) rfl 22 _ _ rfl ji3 rfl rfl Try.underlying22 (.int .u64 0) 8 info46 rfl (by decide) (by omega) 0 (ok := fun _ => True) (okp := fun _ => True) rfl (fun _ hk => hk) trivial (of_decide_eq_true (by first | (with_reducible assumption) | assumption)) (Nat.le_trans (Nat.mul_le_mul_right _ (of_decide_eq_true (by first | (with_reducible assumption) | assumption) : ji3.toNat ≤ 35184372088832)) (by omega)) (Below.refl _ _) (Nat.le_refl _) ?_; intro v258 w6 ho7 hb hg_ hnew_; clear hg_ hnew_; (first | rw [← Ny257.out] at ho7 | (simp only [Int.reduceToNat] at ho7; rw [← Ny257.out] at ho7)); have n0_ := Zb.mk (Kd.ZG ho7 (Zi (by repeat (with_reducible first | exact HB.out | apply Zc | apply Za | apply Zd)))); have n1_ := Zb.mk (Zl (by repeat (with_reducible first | exact HB.out | apply Zc | apply Za | apply Zd)) hb); clear HB; have HO259 := n0_; have HB := n1_; clear n0_ n1_; clear hb ho7))
   repeat (go_quiet (first | ((with_reducible refine Zt (N := 15) rfl ?_); refine Kd.R_make (Kd.int .u64) _ 46 rfl (N := 15) rfl 22 _ _ rfl ji3 rfl rfl Try.underlying22 (.int .u64 0) 8 info46 rfl (by decide) (by omega) 0 (ok := fun _ => True) (okp := fun _ => True) rfl (fun _ hk => hk) trivial (of_decide_eq_true (by first | (with_reducible assumption) | assumption)) (Nat.le_trans (Nat.mul_le_mul_right _ (of_decide_eq_true (by first | (with_reducible assumption) | assumption) : ji3.toNat ≤ 35184372088832)) (by omega)) (Below.refl _ _) (Nat.le_refl _) ?_; intro v258 w6 ho7 hb hg_ hnew_; clear hg_ hnew_; (first | rw [← Ny257.out] at ho7 | (simp only [Int.reduceToNat] at ho7; rw [← Ny257.out] at ho7)); have n0_ := Zb.mk (Kd.ZG ho7 (Zi (by repeat (with_reducible first | exact HB.out | apply Zc | apply Za | apply Zd)))); have n1_ := Zb.mk (Zl (by repeat (with_reducible first | exact HB.out | apply Zc | apply Za | apply Zd)) hb); clear HB; have HO259 := n0_; have HB := n1_; clear n0_ n1_; clear hb ho7)); try go_wp2_with (first | ((with_reducible refine Zt (N := 15) rfl ?_); refine Kd.R_make (Kd.int .u64) _ 46 rfl (N := 15) rfl 22 _ _ rfl ji3 rfl rfl Try.underlying22 (.int .u64 0) 8 info46 rfl (by decide) (by omega) 0 (ok := fun _ => True) (okp := fun _ => True) rfl (fun _ hk => hk) trivial (of_decide_eq_true (by first | (with_reducible assumption) | assumption)) (Nat.le_trans (Nat.mul_le_mul_right _ (of_decide_eq_true (by first | (with_reducible assumption) | assumption) : ji3.toNat ≤ 35184372088832)) (by omega)) (Below.refl _ _) (Nat.le_refl _) ?_; intro v258 w6 ho7 hb hg_ hnew_; clear hg_ hnew_; (first | rw [← Ny257.out] at ho7 | (simp only [Int.reduceToNat] at ho7; rw [← Ny257.out] at ho7)); have n0_ := Zb.mk (Kd.ZG ho7 (Zi (by repeat (with_reducible first | exact HB.out | apply Zc | apply Za | apply Zd)))); have n1_ := Zb.mk (Zl (by repeat (with_reducible first | exact HB.out | apply Zc | apply Za | apply Zd)) hb); clear HB; have HO259 := n0_; have HB := n1_; clear n0_ n1_; clear hb ho7)))
   go_loopg [6] k (fun kq v6 w' => ∃ (x5_1 : List Int) (x6_1 : Int), v6 = .int .i64 x6_1 ∧ Zb (r00product.l0 kq l0 l1 x5_1 x6_1 = some r) ∧ Zb (kq ≤ k) ∧ Zb (Kd.R (Kd.int .u64) 46 w' w.heap.size (fun _ => True) v258 x5_1) ∧ Zb (Below w.heap.size w w'))
   case atStart => exact ⟨(y257), (0), (by first | rfl | (simp; done) | (simp [*]; done)), H', ⟨Nat.le_refl _⟩, ⟨by (with_reducible repeat first | apply Kd.Zm | apply Kd.Zo); exact HO259.out⟩, ⟨by repeat (with_reducible first | exact HB.out | apply Zc | apply Za | apply Zd)⟩⟩
   case round =>
    clear H'
    try clear c1
    try clear p2
    try clear c4
    try clear c4b0
    try clear c4b1
    try clear c5
    try clear c5b0
    try clear c5b1
    try clear p6
    obtain ⟨x5_1, x6_1, rfl, HA, HK1, HO_5, HB⟩ := hrel
    cases gk with
    | zero => exact absurd HA.out (by simp [r00product.l0])
    | succ k1 =>
     have H := HA.out
     clear HA
     simp only [r00product.l0] at H
     by_cases c8 : x6_1 < (l0.length : Int)
     ·rw [if_pos c8] at H
      have c8b0 : decide (x6_1 < (l0.length : Int)) = true := decide_eq_true c8
      clear c8
      have H' := Zb.mk H
      clear H
      go_wp2
      repeat (go_quiet (fail); try go_wp2)
      go_loopg [7, 8] k1 (fun kq v7 v8 w' => ∃ (x5_2 : List Int) (x7_2 : Int) (x8_2 : Int), v7 = .int .u64 x7_2 ∧ v8 = .int .i64 x8_2 ∧ Zb (r00product.l1 kq l0 l1 x5_2 x6_1 x7_2 x8_2 = some r) ∧ Zb (kq ≤ k1) ∧ Zb (Kd.R (Kd.int .u64) 46 w' w.heap.size (fun _ => True) v258 x5_2) ∧ Zb (Below w.heap.size w w'))
      case atStart => exact ⟨(x5_1), (0), (0), (by first | rfl | (simp; done) | (simp [*]; done)), (by first | rfl | (simp; done) | (simp [*]; done)), H', ⟨Nat.le_refl _⟩, ⟨by (with_reducible repeat first | apply Kd.Zm | apply Kd.Zo); exact HO_5.out⟩, ⟨by repeat (with_reducible first | exact HB.out | apply Zc | apply Za | apply Zd)⟩⟩
      case round =>
       clear H'
       try clear c1
       try clear p2
       try clear c4
       try clear c4b0
       try clear c4b1
       try clear c5
       try clear c5b0
       try clear c5b1
       try clear p6
       try clear c8
       try clear c8b0
       try clear p2
       try clear p6
       obtain ⟨x5_2, x7_2, x8_2, rfl, rfl, HA, HK2, HO_5, HB⟩ := hrel
       cases gk with
       | zero => exact absurd HA.out (by simp [r00product.l1])
       | succ k2 =>
        have H := HA.out
        clear HA
        simp only [r00product.l1] at H
        by_cases c9 : x8_2 < (l1.length : Int)
        ·rw [if_pos c9] at H
         have c9b0 : decide (x8_2 < (l1.length : Int)) = true := decide_eq_true c9
         clear c9
         by_cases c10 : 0 ≤ x6_1
         ·rw [if_pos c10] at H
          have c10b0 : decide (0 ≤ x6_1) = true := decide_eq_true c10
          clear c10
          by_cases c11 : x6_1 < (l0.length : Int)
          ·rw [if_pos c11] at H
           have c11b0 : decide (x6_1 < (l0.length : Int)) = true := decide_eq_true c11
           clear c11
           by_cases c12 : 0 ≤ x8_2
           ·rw [if_pos c12] at H
            have c12b0 : decide (0 ≤ x8_2) = true := decide_eq_true c12
            clear c12
            obtain ⟨ji13, hji13⟩ : ∃ j_ : Int, (wrap64 (x6_1 + x8_2)) = j_ := ⟨_, rfl⟩
            replace H : (if 0 ≤ (ji13) then (if (ji13) < (x5_2.length : Int) then (r00product.l1 k2 l0 l1 (x5_2.set ((ji13) : Int).toNat (Int.tmod (IntKind.u64.wrap ((IntKind.u64.wrap ((IntKind.u64.wrap ((rd l0 x6_1) * (rd l1 x8_2))) + (rd x5_2 (ji13)))) + x7_2)) 4294967296)) x6_1 (IntKind.u64.wrap (Int.tdiv (IntKind.u64.wrap ((IntKind.u64.wrap ((IntKind.u64.wrap ((rd l0 x6_1) * (rd l1 x8_2))) + (rd x5_2 (ji13)))) + x7_2)) 4294967296)) (wrap64 (x8_2 + 1))) else (none)) else (none)) = some r := by first | (rw [hji13] at H; exact H) | (simp only [hji13] at H ⊢; exact H)
            have hji13w : (IntKind.i64.wrap (x6_1 + x8_2)) = ji13 := (Zx _).trans hji13
            by_cases c14 : 0 ≤ (ji13)
            ·rw [if_pos c14] at H
             have c14b0 : decide (0 ≤ (ji13)) = true := decide_eq_true c14
             clear c14
             by_cases c15 : (ji13) < (x5_2.length : Int)
             ·rw [if_pos c15] at H
              have c15b0 : decide ((ji13) < (x5_2.length : Int)) = true := decide_eq_true c15
              clear c15
              obtain ⟨y266, hy266⟩ : ∃ y_ : List Int, y_ = (x5_2.set ((ji13) : Int).toNat (Int.tmod (IntKind.u64.wrap ((IntKind.u64.wrap ((IntKind.u64.wrap ((rd l0 x6_1) * (rd l1 x8_2))) + (rd x5_2 (ji13)))) + x7_2)) 4294967296)) := ⟨_, rfl⟩
              replace H : (r00product.l1 k2 l0 l1 y266 x6_1 (IntKind.u64.wrap (Int.tdiv (IntKind.u64.wrap ((IntKind.u64.wrap ((IntKind.u64.wrap ((rd l0 x6_1) * (rd l1 x8_2))) + (rd x5_2 (ji13)))) + x7_2)) 4294967296)) (wrap64 (x8_2 + 1))) = some r := by first | (rw [hy266]; with_reducible exact H) | (have H2_ := (Option.bind_some _ _).symm.trans H; rw [hy266]; with_reducible exact H2_) | (have H2_ := (Option.bind_some _ _).symm.trans H; with_reducible exact H2_) | with_reducible exact H | (rw [hy266]; exact H) | exact H
              have Ny266 := Zb.mk hy266
              clear hy266
              have H' := Zb.mk H
              clear H
              have p263 : 0 ≤ (x6_1 : Int) := of_decide_eq_true (by first | (with_reducible assumption) | assumption)
              have q263 : x6_1 < (l0.length : Int) := of_decide_eq_true (by first | (with_reducible assumption) | assumption)
              obtain ⟨ad263, e263, hx263_0⟩ := Kd.at_int HR0.out x6_1 p263 q263
              cases e263
              replace hx263_0 := (HB.out.cell (World.block_lt_of_cell? w _ hx263_0)).trans hx263_0
              replace p263 := eq_true p263
              replace q263 := eq_true q263
              have p264 : 0 ≤ (x8_2 : Int) := of_decide_eq_true (by first | (with_reducible assumption) | assumption)
              have q264 : x8_2 < (l1.length : Int) := of_decide_eq_true (by first | (with_reducible assumption) | assumption)
              obtain ⟨ad264, e264, hx264_0⟩ := Kd.at_int HR1.out x8_2 p264 q264
              cases e264
              replace hx264_0 := (HB.out.cell (World.block_lt_of_cell? w _ hx264_0)).trans hx264_0
              replace p264 := eq_true p264
              replace q264 := eq_true q264
              obtain ⟨Ao17, co17, eo17⟩ := Kd.Zy HO_5.out
              subst eo17
              have p265 : 0 ≤ ((ji13) : Int) := of_decide_eq_true (by first | (with_reducible assumption) | assumption)
              have q265 : (ji13) < (x5_2.length : Int) := of_decide_eq_true (by first | (with_reducible assumption) | assumption)
              obtain ⟨ad265, e265, hx265_0⟩ := Kd.at_int (Kd.Zv HO_5.out).2.2 (ji13) p265 q265
              cases e265
              replace p265 := eq_true p265
              replace q265 := eq_true q265
              have p16 : 0 ≤ ((ji13) : Int) := of_decide_eq_true (by first | (with_reducible assumption) | assumption)
              have q16 : ((ji13) : Int) < ((x5_2.length : Int) : Int) := of_decide_eq_true (by first | (with_reducible assumption) | assumption)
              obtain ⟨go16, co16, eo16, gb16, gl16, cl16, HG16⟩ := Kd.R_form HO_5.out (by omega)
              (first | cases eo16 | (injection eo16 with ea_ en_ ec_; (first | subst ea_ | (injection ea_ with ea_; subst ea_)); subst ec_; clear en_))
              have GB16 := Zb.mk gb16
              have GG16 := Zb.mk HG16
              clear gb16 gl16 HG16
              (first | simp only [add_plain] at hx265_0 | skip)
              obtain ⟨hx16_0, hf16_0⟩ := Kd.R_celln 0 HO_5.out ((ji13) : Int) p16 q16
              replace p16 := eq_true p16
              replace q16 := eq_true q16
              have HP18 := Kd.R_putg HO_5.out ((ji13) : Int) (Int.tmod (IntKind.u64.wrap ((IntKind.u64.wrap ((IntKind.u64.wrap ((rd l0 x6_1) * (rd l1 x8_2))) + (rd x5_2 (ji13)))) + x7_2)) 4294967296)
              go_wp2_with (first | ((with_reducible refine gate_store (t := 46) (p := 52) rfl ?_); (try (rw [ZK wr]; generalize hq_ : World.drewN wr _ = wr; have n0_ := Zb.mk (Kd.R_at hq_ HO_5.out); have n1_ := Zb.mk (below_at hq_ HB.out); clear hq_ HO_5 HB; have HO_5 := n0_; have HB := n1_; clear n0_ n1_; (try (obtain ⟨hx16_0, hf16_0⟩ := Kd.R_celln 0 HO_5.out ((ji13) : Int) (of_eq_true p16) (of_eq_true q16))); (try (have HP18 := Kd.R_putg HO_5.out ((ji13) : Int) (Int.tmod (IntKind.u64.wrap ((IntKind.u64.wrap ((IntKind.u64.wrap ((rd l0 x6_1) * (rd l1 x8_2))) + (rd x5_2 (ji13)))) + x7_2)) 4294967296))))); refine ZQ (t := 46) (p := 52) (v := ?vo_w19) (w1 := (wr.setCell ⟨go16, ((ji13) : Int).toNat, none⟩ (.int .u64 (Int.tmod (IntKind.u64.wrap ((IntKind.u64.wrap ((IntKind.u64.wrap ((rd l0 x6_1) * (rd l1 x8_2))) + (rd x5_2 (ji13)))) + x7_2)) 4294967296)))) ?hg ?ho ?hn ?hr ?_; (case ho => rfl); (case hg => rfl); (case hn => rfl); (case hr => first | (go_simp; done) | (go_simp; rfl)); intro w19 hw; have hg : wr.grownBy w19 (some go16) := (by rw [hw]; exact HP18.2); have hp_ : Kd.R (Kd.int .u64) 46 w19 w.heap.size (fun _ => True) (.slice (some ⟨go16, 0, none⟩) x5_2.length co17) y266 := (by rw [hw, Ny266.out]; exact HP18.1); clear HP18; have n0_ := Zb.mk (hp_); have n1_ := Zb.mk ((by rw [hw]; exact Zh (HB.out) GB16.out : Below w.heap.size w w19)); clear HO_5; clear HB; have HO_5 := n0_; have HB := n1_; clear n0_ n1_; clear hg hw hp_))
              repeat (go_quiet (first | ((with_reducible refine gate_store (t := 46) (p := 52) rfl ?_); (try (rw [ZK wr]; generalize hq_ : World.drewN wr _ = wr; have n0_ := Zb.mk (Kd.R_at hq_ HO_5.out); have n1_ := Zb.mk (below_at hq_ HB.out); clear hq_ HO_5 HB; have HO_5 := n0_; have HB := n1_; clear n0_ n1_; (try (obtain ⟨hx16_0, hf16_0⟩ := Kd.R_celln 0 HO_5.out ((ji13) : Int) (of_eq_true p16) (of_eq_true q16))); (try (have HP18 := Kd.R_putg HO_5.out ((ji13) : Int) (Int.tmod (IntKind.u64.wrap ((IntKind.u64.wrap ((IntKind.u64.wrap ((rd l0 x6_1) * (rd l1 x8_2))) + (rd x5_2 (ji13)))) + x7_2)) 4294967296))))); refine ZQ (t := 46) (p := 52) (v := ?vo_w19) (w1 := (wr.setCell ⟨go16, ((ji13) : Int).toNat, none⟩ (.int .u64 (Int.tmod (IntKind.u64.wrap ((IntKind.u64.wrap ((IntKind.u64.wrap ((rd l0 x6_1) * (rd l1 x8_2))) + (rd x5_2 (ji13)))) + x7_2)) 4294967296)))) ?hg ?ho ?hn ?hr ?_; (case ho => rfl); (case hg => rfl); (case hn => rfl); (case hr => first | (go_simp; done) | (go_simp; rfl)); intro w19 hw; have hg : wr.grownBy w19 (some go16) := (by rw [hw]; exact HP18.2); have hp_ : Kd.R (Kd.int .u64) 46 w19 w.heap.size (fun _ => True) (.slice (some ⟨go16, 0, none⟩) x5_2.length co17) y266 := (by rw [hw, Ny266.out]; exact HP18.1); clear HP18; have n0_ := Zb.mk (hp_); have n1_ := Zb.mk ((by rw [hw]; exact Zh (HB.out) GB16.out : Below w.heap.size w w19)); clear HO_5; clear HB; have HO_5 := n0_; have HB := n1_; clear n0_ n1_; clear hg hw hp_)); try go_wp2_with (first | ((with_reducible refine gate_store (t := 46) (p := 52) rfl ?_); (try (rw [ZK wr]; generalize hq_ : World.drewN wr _ = wr; have n0_ := Zb.mk (Kd.R_at hq_ HO_5.out); have n1_ := Zb.mk (below_at hq_ HB.out); clear hq_ HO_5 HB; have HO_5 := n0_; have HB := n1_; clear n0_ n1_; (try (obtain ⟨hx16_0, hf16_0⟩ := Kd.R_celln 0 HO_5.out ((ji13) : Int) (of_eq_true p16) (of_eq_true q16))); (try (have HP18 := Kd.R_putg HO_5.out ((ji13) : Int) (Int.tmod (IntKind.u64.wrap ((IntKind.u64.wrap ((IntKind.u64.wrap ((rd l0 x6_1) * (rd l1 x8_2))) + (rd x5_2 (ji13)))) + x7_2)) 4294967296))))); refine ZQ (t := 46) (p := 52) (v := ?vo_w19) (w1 := (wr.setCell ⟨go16, ((ji13) : Int).toNat, none⟩ (.int .u64 (Int.tmod (IntKind.u64.wrap ((IntKind.u64.wrap ((IntKind.u64.wrap ((rd l0 x6_1) * (rd l1 x8_2))) + (rd x5_2 (ji13)))) + x7_2)) 4294967296)))) ?hg ?ho ?hn ?hr ?_; (case ho => rfl); (case hg => rfl); (case hn => rfl); (case hr => first | (go_simp; done) | (go_simp; rfl)); intro w19 hw; have hg : wr.grownBy w19 (some go16) := (by rw [hw]; exact HP18.2); have hp_ : Kd.R (Kd.int .u64) 46 w19 w.heap.size (fun _ => True) (.slice (some ⟨go16, 0, none⟩) x5_2.length co17) y266 := (by rw [hw, Ny266.out]; exact HP18.1); clear HP18; have n0_ := Zb.mk (hp_); have n1_ := Zb.mk ((by rw [hw]; exact Zh (HB.out) GB16.out : Below w.heap.size w w19)); clear HO_5; clear HB; have HO_5 := n0_; have HB := n1_; clear n0_ n1_; clear hg hw hp_)))
              go_roundg k2
              case measure => have := HK1.out; have := HK2.out; omega
              case rel => exact ⟨(y266), (IntKind.u64.wrap (Int.tdiv (IntKind.u64.wrap ((IntKind.u64.wrap ((IntKind.u64.wrap ((rd l0 x6_1) * (rd l1 x8_2))) + (rd x5_2 (ji13)))) + x7_2)) 4294967296)), (wrap64 (x8_2 + 1)), (by first | rfl | (simp; done) | (simp only [← hji13] <;> (first | rfl | simp)) | (simp [*]; done)), (by first | rfl | (simp; done) | (simp [*]; done)), H', ⟨by have := HK1.out; have := HK2.out; omega⟩, ⟨by (with_reducible repeat first | apply Kd.Zm | apply Kd.Zo); exact HO_5.out⟩, ⟨by repeat (with_reducible first | exact HB.out | apply Zc | apply Za | apply Zd)⟩⟩
             ·rw [if_neg c15] at H
              exact absurd H (by simp)
            ·rw [if_neg c14] at H
             exact absurd H (by simp)
           ·rw [if_neg c12] at H
            exact absurd H (by simp)
          ·rw [if_neg c11] at H
           exact absurd H (by simp)
         ·rw [if_neg c10] at H
          exact absurd H (by simp)
        ·rw [if_neg c9] at H
         have c9b0 : decide (x8_2 < (l1.length : Int)) = false := decide_eq_false c9
         clear c9
         obtain ⟨ji20, hji20⟩ : ∃ j_ : Int, (wrap64 (x6_1 + (l1.length : Int))) = j_ := ⟨_, rfl⟩
         replace H : (if 0 ≤ (ji20) then (if (ji20) < (x5_2.length : Int) then (r00product.l0 k2 l0 l1 (x5_2.set ((ji20) : Int).toNat x7_2) (wrap64 (x6_1 + 1))) else (none)) else (none)) = some r := by first | (rw [hji20] at H; exact H) | (simp only [hji20] at H ⊢; exact H)
         have hji20w : (IntKind.i64.wrap (x6_1 + (l1.length : Int))) = ji20 := (Zx _).trans hji20
         by_cases c21 : 0 ≤ (ji20)
         ·rw [if_pos c21] at H
          have c21b0 : decide (0 ≤ (ji20)) = true := decide_eq_true c21
          clear c21
          by_cases c22 : (ji20) < (x5_2.length : Int)
          ·rw [if_pos c22] at H
           have c22b0 : decide ((ji20) < (x5_2.length : Int)) = true := decide_eq_true c22
           clear c22
           obtain ⟨y267, hy267⟩ : ∃ y_ : List Int, y_ = (x5_2.set ((ji20) : Int).toNat x7_2) := ⟨_, rfl⟩
           replace H : (r00product.l0 k2 l0 l1 y267 (wrap64 (x6_1 + 1))) = some r := by first | (rw [hy267]; with_reducible exact H) | (have H2_ := (Option.bind_some _ _).symm.trans H; rw [hy267]; with_reducible exact H2_) | (have H2_ := (Option.bind_some _ _).symm.trans H; with_reducible exact H2_) | with_reducible exact H | (rw [hy267]; exact H) | exact H
           have Ny267 := Zb.mk hy267
           clear hy267
           have H' := Zb.mk H
           clear H
           have p23 : 0 ≤ ((ji20) : Int) := of_decide_eq_true (by first | (with_reducible assumption) | assumption)
           have q23 : ((ji20) : Int) < ((x5_2.length : Int) : Int) := of_decide_eq_true (by first | (with_reducible assumption) | assumption)
           obtain ⟨go23, co23, eo23, gb23, gl23, cl23, HG23⟩ := Kd.R_form HO_5.out (by omega)
           (first | cases eo23 | (injection eo23 with ea_ en_ ec_; (first | subst ea_ | (injection ea_ with ea_; subst ea_)); subst ec_; clear en_))
           have GB23 := Zb.mk gb23
           have GG23 := Zb.mk HG23
           clear gb23 gl23 HG23
           obtain ⟨hx23_0, hf23_0⟩ := Kd.R_celln 0 HO_5.out ((ji20) : Int) p23 q23
           replace p23 := eq_true p23
           replace q23 := eq_true q23
           have HP24 := Kd.R_putg HO_5.out ((ji20) : Int) x7_2
           go_wp2_with (first | ((with_reducible refine gate_store (t := 46) (p := 61) rfl ?_); (try (rw [ZK wr]; generalize hq_ : World.drewN wr _ = wr; have n0_ := Zb.mk (Kd.R_at hq_ HO_5.out); have n1_ := Zb.mk (below_at hq_ HB.out); clear hq_ HO_5 HB; have HO_5 := n0_; have HB := n1_; clear n0_ n1_; (try (obtain ⟨hx23_0, hf23_0⟩ := Kd.R_celln 0 HO_5.out ((ji20) : Int) (of_eq_true p23) (of_eq_true q23))); (try (have HP24 := Kd.R_putg HO_5.out ((ji20) : Int) x7_2)))); refine ZQ (t := 46) (p := 61) (v := ?vo_w25) (w1 := (wr.setCell ⟨go23, ((ji20) : Int).toNat, none⟩ (.int .u64 x7_2))) ?hg ?ho ?hn ?hr ?_; (case ho => rfl); (case hg => rfl); (case hn => rfl); (case hr => first | (go_simp; done) | (go_simp; rfl)); intro w25 hw; have hg : wr.grownBy w25 (some go23) := (by rw [hw]; exact HP24.2); have hp_ : Kd.R (Kd.int .u64) 46 w25 w.heap.size (fun _ => True) (.slice (some ⟨go23, 0, none⟩) x5_2.length co23) y267 := (by rw [hw, Ny267.out]; exact HP24.1); clear HP24; have n0_ := Zb.mk (hp_); have n1_ := Zb.mk ((by rw [hw]; exact Zh (HB.out) GB23.out : Below w.heap.size w w25)); clear HO_5; clear HB; have HO_5 := n0_; have HB := n1_; clear n0_ n1_; clear hg hw hp_))
           repeat (go_quiet (first | ((with_reducible refine gate_store (t := 46) (p := 61) rfl ?_); (try (rw [ZK wr]; generalize hq_ : World.drewN wr _ = wr; have n0_ := Zb.mk (Kd.R_at hq_ HO_5.out); have n1_ := Zb.mk (below_at hq_ HB.out); clear hq_ HO_5 HB; have HO_5 := n0_; have HB := n1_; clear n0_ n1_; (try (obtain ⟨hx23_0, hf23_0⟩ := Kd.R_celln 0 HO_5.out ((ji20) : Int) (of_eq_true p23) (of_eq_true q23))); (try (have HP24 := Kd.R_putg HO_5.out ((ji20) : Int) x7_2)))); refine ZQ (t := 46) (p := 61) (v := ?vo_w25) (w1 := (wr.setCell ⟨go23, ((ji20) : Int).toNat, none⟩ (.int .u64 x7_2))) ?hg ?ho ?hn ?hr ?_; (case ho => rfl); (case hg => rfl); (case hn => rfl); (case hr => first | (go_simp; done) | (go_simp; rfl)); intro w25 hw; have hg : wr.grownBy w25 (some go23) := (by rw [hw]; exact HP24.2); have hp_ : Kd.R (Kd.int .u64) 46 w25 w.heap.size (fun _ => True) (.slice (some ⟨go23, 0, none⟩) x5_2.length co23) y267 := (by rw [hw, Ny267.out]; exact HP24.1); clear HP24; have n0_ := Zb.mk (hp_); have n1_ := Zb.mk ((by rw [hw]; exact Zh (HB.out) GB23.out : Below w.heap.size w w25)); clear HO_5; clear HB; have HO_5 := n0_; have HB := n1_; clear n0_ n1_; clear hg hw hp_)); try go_wp2_with (first | ((with_reducible refine gate_store (t := 46) (p := 61) rfl ?_); (try (rw [ZK wr]; generalize hq_ : World.drewN wr _ = wr; have n0_ := Zb.mk (Kd.R_at hq_ HO_5.out); have n1_ := Zb.mk (below_at hq_ HB.out); clear hq_ HO_5 HB; have HO_5 := n0_; have HB := n1_; clear n0_ n1_; (try (obtain ⟨hx23_0, hf23_0⟩ := Kd.R_celln 0 HO_5.out ((ji20) : Int) (of_eq_true p23) (of_eq_true q23))); (try (have HP24 := Kd.R_putg HO_5.out ((ji20) : Int) x7_2)))); refine ZQ (t := 46) (p := 61) (v := ?vo_w25) (w1 := (wr.setCell ⟨go23, ((ji20) : Int).toNat, none⟩ (.int .u64 x7_2))) ?hg ?ho ?hn ?hr ?_; (case ho => rfl); (case hg => rfl); (case hn => rfl); (case hr => first | (go_simp; done) | (go_simp; rfl)); intro w25 hw; have hg : wr.grownBy w25 (some go23) := (by rw [hw]; exact HP24.2); have hp_ : Kd.R (Kd.int .u64) 46 w25 w.heap.size (fun _ => True) (.slice (some ⟨go23, 0, none⟩) x5_2.length co23) y267 := (by rw [hw, Ny267.out]; exact HP24.1); clear HP24; have n0_ := Zb.mk (hp_); have n1_ := Zb.mk ((by rw [hw]; exact Zh (HB.out) GB23.out : Below w.heap.size w w25)); clear HO_5; clear HB; have HO_5 := n0_; have HB := n1_; clear n0_ n1_; clear hg hw hp_)))
           go_roundg k2
           case measure => have := HK1.out; have := HK2.out; omega
           case rel => exact ⟨(y267), (wrap64 (x6_1 + 1)), (by first | rfl | (simp; done) | (simp [*]; done)), H', ⟨by have := HK1.out; have := HK2.out; omega⟩, ⟨by (with_reducible repeat first | apply Kd.Zm | apply Kd.Zo); exact HO_5.out⟩, ⟨by repeat (with_reducible first | exact HB.out | apply Zc | apply Za | apply Zd)⟩⟩
          ·rw [if_neg c22] at H
           exact absurd H (by simp)
         ·rw [if_neg c21] at H
          exact absurd H (by simp)
     ·rw [if_neg c8] at H
      have c8b0 : decide (x6_1 < (l0.length : Int)) = false := decide_eq_false c8
      clear c8
      replace H := Option.bind_eq_some_iff.mp H
      obtain ⟨t260, A260, H⟩ := H
      replace H : (some t260) = some r := H
      have A26 := Zb.mk A260
      clear A260
      obtain rfl := Option.some.inj H
      obtain ⟨Ao27, co27, eo27⟩ := Kd.Zy HO_5.out
      subst eo27
      go_wp2_with (first | (go_at_call 122; (with_reducible refine (r00low.calls k1 (fun k_ => some k_ = (.slice Ao27 x5_1.length co27 : Value).ownBlock) (.slice Ao27 x5_1.length co27) x5_1 t260 w _ ?side1 ?side2 A26.out).mono ?_); (case side1 => repeat (with_reducible first | exact HB.out | apply Zc | apply Za | apply Zd)); (case side2 => exact Kd.R_tight rfl HO_5.out); rintro e w28 ⟨v261, rfl, ho0, hb, hkp⟩; have n0_ := Zb.mk (Kd.ZE (ok' := fun k_ => True) ho0 (fun k_ hk_ => trivial)); have n1_ := Zb.mk (hb); clear HB; clear HO_5; have HO262 := n0_; have HB := n1_; clear n0_ n1_; (try clear hb); (try clear hkp); (try clear ho0)))
      repeat (go_quiet (first | (go_at_call 122; (with_reducible refine (r00low.calls k1 (fun k_ => some k_ = (.slice Ao27 x5_1.length co27 : Value).ownBlock) (.slice Ao27 x5_1.length co27) x5_1 t260 w _ ?side1 ?side2 A26.out).mono ?_); (case side1 => repeat (with_reducible first | exact HB.out | apply Zc | apply Za | apply Zd)); (case side2 => exact Kd.R_tight rfl HO_5.out); rintro e w28 ⟨v261, rfl, ho0, hb, hkp⟩; have n0_ := Zb.mk (Kd.ZE (ok' := fun k_ => True) ho0 (fun k_ hk_ => trivial)); have n1_ := Zb.mk (hb); clear HB; clear HO_5; have HO262 := n0_; have HB := n1_; clear n0_ n1_; (try clear hb); (try clear hkp); (try clear ho0))); try go_wp2_with (first | (go_at_call 122; (with_reducible refine (r00low.calls k1 (fun k_ => some k_ = (.slice Ao27 x5_1.length co27 : Value).ownBlock) (.slice Ao27 x5_1.length co27) x5_1 t260 w _ ?side1 ?side2 A26.out).mono ?_); (case side1 => repeat (with_reducible first | exact HB.out | apply Zc | apply Za | apply Zd)); (case side2 => exact Kd.R_tight rfl HO_5.out); rintro e w28 ⟨v261, rfl, ho0, hb, hkp⟩; have n0_ := Zb.mk (Kd.ZE (ok' := fun k_ => True) ho0 (fun k_ hk_ => trivial)); have n1_ := Zb.mk (hb); clear HB; clear HO_5; have HO262 := n0_; have HB := n1_; clear n0_ n1_; (try clear hb); (try clear hkp); (try clear ho0))))
      go_ret
      exact ⟨_, by first | rfl | (simp [errW_none, errW_some] <;> rfl) | (simp only [← hji3]; first | rfl | (simp [errW_none, errW_some] <;> rfl)) | (simp [*, errW_none, errW_some] <;> rfl), by (with_reducible repeat first | apply Kd.Zm | apply Kd.Zo); exact HO262.out, by repeat (with_reducible first | exact HB.out | apply Zc | apply Za | apply Zd)⟩
  ·rw [if_neg c5] at H
   exact absurd H (by simp)
 ·rw [if_neg c4] at H
  exact absurd H (by simp)
def r00NatMul.f (k : Nat) (l0 : List Int) (l1 : List Int) : Option (List Int) := (r00halves.f k l0).bind fun t268 => ((r00halves.f k l1).bind fun t271 => ((r00product.f k t268 t271).bind fun t274 => ((r00limbs.f k t274).bind fun t277 => (some t277))))
set_option maxHeartbeats 8000000 in
set_option maxRecDepth 100000 in
theorem r00NatMul.calls (k : Nat) (A0 : Option Addr) (c0 : Nat) (l0 : List Int) (A1 : Option Addr) (c1 : Nat) (l1 : List Int) (r : List Int) (w : World) (hr0 : Kd.C (Kd.int .u64) w A0 l0.length l0) (hc0 : l0.length ≤ c0) (hr1 : Kd.C (Kd.int .u64) w A1 l1.length l1) (hc1 : l1.length ≤ c1) (h : r00NatMul.f k l0 l1 = some r) :
  Calls Try.prog 59 #[.slice A0 l0.length c0, .slice A1 l1.length c1] w fun e w' => ∃ v0_ : Value, e = .returned (v0_) ∧ Kd.R (Kd.int .u64) 46 w' w.heap.size (fun _ => True) v0_ r ∧ Below w.heap.size w w' := by
 have HR0 := Zb.mk hr0
 have HC0 := Zb.mk hc0
 clear hr0 hc0
 have HR1 := Zb.mk hr1
 have HC1 := Zb.mk hc1
 clear hr1 hc1
 have HB := Zb.mk (Below.refl w.heap.size w)
 have H : ((r00halves.f k l0).bind fun t268 => ((r00halves.f k l1).bind fun t271 => ((r00product.f k t268 t271).bind fun t274 => ((r00limbs.f k t274).bind fun t277 => (some t277))))) = some r := h
 clear h
 replace H := Option.bind_eq_some_iff.mp H
 obtain ⟨t268, A30, H⟩ := H
 replace H : ((r00halves.f k l1).bind fun t271 => ((r00product.f k t268 t271).bind fun t274 => ((r00limbs.f k t274).bind fun t277 => (some t277)))) = some r := H
 have A3 := Zb.mk A30
 clear A30
 replace H := Option.bind_eq_some_iff.mp H
 obtain ⟨t271, A40, H⟩ := H
 replace H : ((r00product.f k t268 t271).bind fun t274 => ((r00limbs.f k t274).bind fun t277 => (some t277))) = some r := H
 have A4 := Zb.mk A40
 clear A40
 replace H := Option.bind_eq_some_iff.mp H
 obtain ⟨t274, A50, H⟩ := H
 replace H : ((r00limbs.f k t274).bind fun t277 => (some t277)) = some r := H
 have A5 := Zb.mk A50
 clear A50
 replace H := Option.bind_eq_some_iff.mp H
 obtain ⟨t277, A60, H⟩ := H
 replace H : (some t277) = some r := H
 have A6 := Zb.mk A60
 clear A60
 obtain rfl := Option.some.inj H
 go_enter Try.func59, Try.ntmps59
 go_wp2_with (first | ((with_reducible refine Zp (f := 91) rfl ?_); refine ZB (some 6) rfl rfl Try.func91 (by kernel_rfl) rfl #[.slice A0 l0.length c0] rfl (by (try simp only [List.map_toArray, List.map_cons, List.map_nil]); first | done | rfl | (simp only [List.length_drop, List.length_take]; rfl)) ?_; (with_reducible refine (r00halves.calls k _ _ l0 t268 _ ?side1 ?side2 A3.out).mono ?_); (case side1 => repeat (first | exact HR0.out | (with_reducible refine Kd.ZC ?_ _) | (with_reducible refine Kd.ZF ?_ _) | (with_reducible refine Kd.ZN ?_))); (case side2 => exact HC0.out); rintro e w7 ⟨v269, rfl, ho0, hb⟩; refine ⟨_, rfl, ?_⟩; have n0_ := Zb.mk (Kd.ZG ho0 (Zi (by repeat (with_reducible first | exact HB.out | apply Zc | apply Za | apply Zd)))); have n1_ := Zb.mk (Zl (by repeat (with_reducible first | exact HB.out | apply Zc | apply Za | apply Zd)) hb); clear HB; have HO270 := n0_; have HB := n1_; clear n0_ n1_; (try clear hb); (try clear hb2); (try clear hk); (try clear hi); (try clear ho0)) | ((with_reducible refine Zp (f := 91) rfl ?_); refine ZB (some 8) rfl rfl Try.func91 (by kernel_rfl) rfl #[.slice A1 l1.length c1] rfl (by (try simp only [List.map_toArray, List.map_cons, List.map_nil]); first | done | rfl | (simp only [List.length_drop, List.length_take]; rfl)) ?_; (with_reducible refine (r00halves.calls k _ _ l1 t271 _ ?side1 ?side2 A4.out).mono ?_); (case side1 => repeat (first | exact (Kd.C_below HR1.out HB.out) | (with_reducible refine Kd.ZC ?_ _) | (with_reducible refine Kd.ZF ?_ _) | (with_reducible refine Kd.ZN ?_))); (case side2 => exact HC1.out); rintro e w8 ⟨v272, rfl, ho0, hb⟩; refine ⟨_, rfl, ?_⟩; have n0_ := Zb.mk (Kd.ZJ (by (with_reducible repeat first | apply Kd.Zm | apply Kd.Zo); exact HO270.out) (Kd.ZV ho0) hb); have n1_ := Zb.mk (Kd.ZG (Kd.R_new' ho0 (Kd.R_lt (by (with_reducible repeat first | apply Kd.Zm | apply Kd.Zo); exact HO270.out))) (Zi (by repeat (with_reducible first | exact HB.out | apply Zc | apply Za | apply Zd)))); have n2_ := Zb.mk (Zl (by repeat (with_reducible first | exact HB.out | apply Zc | apply Za | apply Zd)) hb); clear HO270; clear HB; have HO270 := n0_; have HO273 := n1_; have HB := n2_; clear n0_ n1_ n2_; (try clear hb); (try clear hb2); (try clear hk); (try clear hi); (try clear ho0); obtain ⟨Ao9, co9, eo9⟩ := Kd.Zy HO270.out; subst eo9; obtain ⟨Ao10, co10, eo10⟩ := Kd.Zy HO273.out; subst eo10) | ((with_reducible refine Zp (f := 94) rfl ?_); refine ZB (some 9) rfl rfl Try.func94 (by kernel_rfl) rfl #[.slice Ao9 t268.length co9, .slice Ao10 t271.length co10] rfl (by (try simp only [List.map_toArray, List.map_cons, List.map_nil]); first | done | rfl | (simp only [List.length_drop, List.length_take]; rfl)) ?_; (with_reducible refine (r00product.calls k _ _ t268 _ _ t271 t274 _ ?side1 ?side2 ?side3 ?side4 A5.out).mono ?_); (case side1 => repeat (first | exact (Kd.Zv HO270.out).2.2 | (with_reducible refine Kd.ZC ?_ _) | (with_reducible refine Kd.ZF ?_ _) | (with_reducible refine Kd.ZN ?_))); (case side2 => exact (Kd.Zv HO270.out).2.1); (case side3 => repeat (first | exact (Kd.Zv HO273.out).2.2 | (with_reducible refine Kd.ZC ?_ _) | (with_reducible refine Kd.ZF ?_ _) | (with_reducible refine Kd.ZN ?_))); (case side4 => exact (Kd.Zv HO273.out).2.1); rintro e w11 ⟨v275, rfl, ho0, hb⟩; refine ⟨_, rfl, ?_⟩; have n0_ := Zb.mk (Kd.ZJ (by (with_reducible repeat first | apply Kd.Zm | apply Kd.Zo); exact HO270.out) (Kd.ZV ho0) hb); have n1_ := Zb.mk (Kd.ZJ (by (with_reducible repeat first | apply Kd.Zm | apply Kd.Zo); exact HO273.out) (Kd.ZV ho0) hb); have n2_ := Zb.mk (Kd.ZG (Kd.R_new' (Kd.R_new' ho0 (Kd.R_lt (by (with_reducible repeat first | apply Kd.Zm | apply Kd.Zo); exact HO270.out))) (Kd.R_lt (by (with_reducible repeat first | apply Kd.Zm | apply Kd.Zo); exact HO273.out))) (Zi (by repeat (with_reducible first | exact HB.out | apply Zc | apply Za | apply Zd)))); have n3_ := Zb.mk (Zl (by repeat (with_reducible first | exact HB.out | apply Zc | apply Za | apply Zd)) hb); clear HO270; clear HO273; clear HB; have HO270 := n0_; have HO273 := n1_; have HO276 := n2_; have HB := n3_; clear n0_ n1_ n2_ n3_; (try clear hb); (try clear hb2); (try clear hk); (try clear hi); (try clear ho0); obtain ⟨Ao12, co12, eo12⟩ := Kd.Zy HO276.out; subst eo12) | ((with_reducible refine Zp (f := 92) rfl ?_); refine ZB (some 10) rfl rfl Try.func92 (by kernel_rfl) rfl #[.slice Ao12 t274.length co12] rfl (by (try simp only [List.map_toArray, List.map_cons, List.map_nil]); first | done | rfl | (simp only [List.length_drop, List.length_take]; rfl)) ?_; (with_reducible refine (r00limbs.calls k _ _ t274 t277 _ ?side1 ?side2 A6.out).mono ?_); (case side1 => repeat (first | exact (Kd.Zv HO276.out).2.2 | (with_reducible refine Kd.ZC ?_ _) | (with_reducible refine Kd.ZF ?_ _) | (with_reducible refine Kd.ZN ?_))); (case side2 => exact (Kd.Zv HO276.out).2.1); rintro e w13 ⟨v278, rfl, ho0, hb⟩; refine ⟨_, rfl, ?_⟩; have n0_ := Zb.mk (Kd.ZJ (by (with_reducible repeat first | apply Kd.Zm | apply Kd.Zo); exact HO270.out) (Kd.ZV ho0) hb); have n1_ := Zb.mk (Kd.ZJ (by (with_reducible repeat first | apply Kd.Zm | apply Kd.Zo); exact HO273.out) (Kd.ZV ho0) hb); have n2_ := Zb.mk (Kd.ZJ (by (with_reducible repeat first | apply Kd.Zm | apply Kd.Zo); exact HO276.out) (Kd.ZV ho0) hb); have n3_ := Zb.mk (Kd.ZG (Kd.R_new' (Kd.R_new' (Kd.R_new' ho0 (Kd.R_lt (by (with_reducible repeat first | apply Kd.Zm | apply Kd.Zo); exact HO270.out))) (Kd.R_lt (by (with_reducible repeat first | apply Kd.Zm | apply Kd.Zo); exact HO273.out))) (Kd.R_lt (by (with_reducible repeat first | apply Kd.Zm | apply Kd.Zo); exact HO276.out))) (Zi (by repeat (with_reducible first | exact HB.out | apply Zc | apply Za | apply Zd)))); have n4_ := Zb.mk (Zl (by repeat (with_reducible first | exact HB.out | apply Zc | apply Za | apply Zd)) hb); clear HO270; clear HO273; clear HO276; clear HB; have HO270 := n0_; have HO273 := n1_; have HO276 := n2_; have HO279 := n3_; have HB := n4_; clear n0_ n1_ n2_ n3_ n4_; (try clear hb); (try clear hb2); (try clear hk); (try clear hi); (try clear ho0)))
 go_ret
 exact ⟨_, by first | rfl | (simp [errW_none, errW_some] <;> rfl) | (simp [*, errW_none, errW_some] <;> rfl), by (with_reducible repeat first | apply Kd.Zm | apply Kd.Zo); exact Kd.ZE HO279.out (fun _ hk => trivial), by repeat (with_reducible first | exact HB.out | apply Zc | apply Za | apply Zd)⟩
def r00Times.f (k : Nat) (a0_0 : Bool) (l0_1 : List Int) (a0_2 : Int) (a1_0 : Bool) (l1_1 : List Int) (a1_2 : Int) : Option (Bool × List Int × Int) := (r00NatMul.f k l0_1 l1_1).bind fun t283 => (some ((a0_0 != a1_0), t283, wrap64 (a0_2 + a1_2)))
def r00Times.T1 : Bool × List (List Nat × List Nat) := (true, [([], []), ([0], [0]), ([], []), ([2], [2]), ([1, 3], [1, 3]), ([], []), ([5], [5]), ([], []), ([7], [7]), ([6, 8], [6, 8]), ([], []), ([10], [10]), ([], []), ([12], [12]), ([11, 13], [11, 13]), ([4, 9, 14], [4, 9, 14]), ([15, 9, 0, 1, 2, 3, 4, 5, 6, 7, 8, 9, 10, 11, 12, 13, 14, 15], [15])])
def r00Times.B1 : List Nat := [0, 1, 0, 4, 15, 0, 32, 0, 128, 480, 0, 1024, 0, 4096, 15360, 32767, 65535]
theorem r00Times.tab1 : rtab .any (opsOf Try.f25 1) = r00Times.T1 := by kernel_rfl
theorem r00Times.bits1 : waitsOk r00Times.T1.2 r00Times.B1 = true := by kernel_rfl
set_option maxHeartbeats 8000000 in
set_option maxRecDepth 100000 in
theorem r00Times.calls (k : Nat) (a0_0 : Bool) (A0_1 : Option Addr) (c0_1 : Nat) (l0_1 : List Int) (a0_2 : Int) (a1_0 : Bool) (A1_1 : Option Addr) (c1_1 : Nat) (l1_1 : List Int) (a1_2 : Int) (r1 : Bool) (r2 : List Int) (r3 : Int) (w : World) (hr0_1 : Kd.C (Kd.int .u64) w A0_1 l0_1.length l0_1) (hc0_1 : l0_1.length ≤ c0_1) (hr1_1 : Kd.C (Kd.int .u64) w A1_1 l1_1.length l1_1) (hc1_1 : l1_1.length ≤ c1_1) (h : r00Times.f k a0_0 l0_1 a0_2 a1_0 l1_1 a1_2 = some (r1, r2, r3)) :
  Calls Try.prog 25 #[.agg #[.bool a0_0, .slice A0_1 l0_1.length c0_1, .int .i64 a0_2], .agg #[.bool a1_0, .slice A1_1 l1_1.length c1_1, .int .i64 a1_2]] w fun e w' => ∃ v1_ : Value, e = .returned (.agg #[.bool r1, v1_, .int .i64 r3]) ∧ Kd.R (Kd.int .u64) 46 w' w.heap.size (fun _ => True) v1_ r2 ∧ Below w.heap.size w w' := by
 have hu48 := Try.underlying48
 have HR0_1 := Zb.mk hr0_1
 have HC0_1 := Zb.mk hc0_1
 clear hr0_1 hc0_1
 have HR1_1 := Zb.mk hr1_1
 have HC1_1 := Zb.mk hc1_1
 clear hr1_1 hc1_1
 have HB := Zb.mk (Below.refl w.heap.size w)
 have H : ((r00NatMul.f k l0_1 l1_1).bind fun t283 => (some ((a0_0 != a1_0), t283, wrap64 (a0_2 + a1_2)))) = some (r1, r2, r3) := h
 clear h
 replace H := Option.bind_eq_some_iff.mp H
 obtain ⟨t283, A30, H⟩ := H
 replace H : (some ((a0_0 != a1_0), t283, wrap64 (a0_2 + a1_2))) = some (r1, r2, r3) := H
 have A3 := Zb.mk A30
 clear A30
 simp only [Option.some.injEq, Prod.mk.injEq] at H
 obtain ⟨rfl, rfl, rfl⟩ := H
 go_enter Try.func25, Try.ntmps25
 try go_wp2_with (first | ((with_reducible refine Zt (N := 2) rfl ?_); refine Zs ?hg (N := 2) ?hd (cs := #[.bool a0_0, .slice A0_1 l0_1.length c0_1, .int .i64 a0_2]) (t := 48) ?hr ?_; (case hd => rfl); (case hg => rfl); (case hr => first | (go_simp; done) | (go_simp; rfl)); intro gb280 hg w4 hbox hb; have n0_ := Zb.mk (Zl (by repeat (with_reducible first | exact HB.out | apply Zc | apply Za | apply Zd)) hb); have n1_ := Zb.mk (hbox); have n2_ := Zb.mk ((by rw [hg]; exact (Zi (by repeat (with_reducible first | exact HB.out | apply Zc | apply Za | apply Zd))) : w.heap.size ≤ gb280)); have n3_ := Zb.mk ((by rw [hg]; exact (Zi (by repeat (with_reducible first | exact HB.out | apply Zc | apply Za | apply Zd))) : w.heap.size ≤ gb280)); clear HB; have HB := n0_; have BK280 := n1_; have GW280 := n2_; have GE280 := n3_; clear n0_ n1_ n2_ n3_; clear hb hbox hg) | ((with_reducible refine Zt (N := 3) rfl ?_); refine Zs ?hg (N := 3) ?hd (cs := #[.bool a1_0, .slice A1_1 l1_1.length c1_1, .int .i64 a1_2]) (t := 48) ?hr ?_; (case hd => rfl); (case hg => rfl); (case hr => first | (go_simp; done) | (go_simp; rfl)); intro gb281 hg w5 hbox hb; have n0_ := Zb.mk (Zn (g := gb280) (o := .cells #[.bool a0_0, .slice A0_1 l0_1.length c0_1, .int .i64 a0_2] 48 (0, 0)) (by (with_reducible repeat first | refine Ze ?_ _ | refine Zg ?_ | refine Zf ?_ _); exact BK280.out) hb); have n1_ := Zb.mk (Zl (by repeat (with_reducible first | exact HB.out | apply Zc | apply Za | apply Zd | refine Zh ?_ GE280.out)) hb); have n2_ := Zb.mk (hbox); have n3_ := Zb.mk ((by rw [hg]; exact (Zi (by repeat (with_reducible first | exact HB.out | apply Zc | apply Za | apply Zd | refine Zh ?_ GE280.out))) : w.heap.size ≤ gb281)); have n4_ := Zb.mk ((by rw [hg]; exact (Zi (by repeat (with_reducible first | exact HB.out | apply Zc | apply Za | apply Zd | refine Zh ?_ GE280.out))) : w.heap.size ≤ gb281)); have n5_ := Zb.mk ((by rw [hg]; exact Nat.ne_of_lt (Zw (g := gb280) (o := .cells #[.bool a0_0, .slice A0_1 l0_1.length c0_1, .int .i64 a0_2] 48 (0, 0)) (by (with_reducible repeat first | refine Ze ?_ _ | refine Zg ?_ | refine Zf ?_ _); exact BK280.out)) : gb280 ≠ gb281)); have n6_ := Zb.mk ((by rw [hg]; exact Nat.ne_of_gt (Zw (g := gb280) (o := .cells #[.bool a0_0, .slice A0_1 l0_1.length c0_1, .int .i64 a0_2] 48 (0, 0)) (by (with_reducible repeat first | refine Ze ?_ _ | refine Zg ?_ | refine Zf ?_ _); exact BK280.out)) : gb281 ≠ gb280)); clear BK280; clear HB; have BK280 := n0_; have HB := n1_; have BK281 := n2_; have GW281 := n3_; have GE281 := n4_; have NB280_281 := n5_; have NB281_280 := n6_; clear n0_ n1_ n2_ n3_ n4_ n5_ n6_; clear hb hbox hg) | ((with_reducible refine Zt (N := 4) rfl ?_); refine Zs ?hg (N := 4) ?hd (cs := #[.bool false, .slice none 0 0, .int .i64 0]) (t := 48) ?hr ?_; (case hd => rfl); (case hg => rfl); (case hr => first | (go_simp; done) | (go_simp; rfl)); intro gb282 hg w6 hbox hb; have n0_ := Zb.mk (Zn (g := gb280) (o := .cells #[.bool a0_0, .slice A0_1 l0_1.length c0_1, .int .i64 a0_2] 48 (0, 0)) (by (with_reducible repeat first | refine Ze ?_ _ | refine Zg ?_ | refine Zf ?_ _); exact BK280.out) hb); have n1_ := Zb.mk (Zn (g := gb281) (o := .cells #[.bool a1_0, .slice A1_1 l1_1.length c1_1, .int .i64 a1_2] 48 (0, 0)) (by (with_reducible repeat first | refine Ze ?_ _ | refine Zg ?_ | refine Zf ?_ _); exact BK281.out) hb); have n2_ := Zb.mk (Zl (by repeat (with_reducible first | exact HB.out | apply Zc | apply Za | apply Zd | refine Zh ?_ GE280.out | refine Zh ?_ GE281.out)) hb); have n3_ := Zb.mk (hbox); have n4_ := Zb.mk ((by rw [hg]; exact (Zi (by repeat (with_reducible first | exact HB.out | apply Zc | apply Za | apply Zd | refine Zh ?_ GE280.out | refine Zh ?_ GE281.out))) : w.heap.size ≤ gb282)); have n5_ := Zb.mk ((by rw [hg]; exact (Zi (by repeat (with_reducible first | exact HB.out | apply Zc | apply Za | apply Zd | refine Zh ?_ GE280.out | refine Zh ?_ GE281.out))) : w.heap.size ≤ gb282)); have n6_ := Zb.mk ((by rw [hg]; exact Nat.ne_of_lt (Zw (g := gb280) (o := .cells #[.bool a0_0, .slice A0_1 l0_1.length c0_1, .int .i64 a0_2] 48 (0, 0)) (by (with_reducible repeat first | refine Ze ?_ _ | refine Zg ?_ | refine Zf ?_ _); exact BK280.out)) : gb280 ≠ gb282)); have n7_ := Zb.mk ((by rw [hg]; exact Nat.ne_of_gt (Zw (g := gb280) (o := .cells #[.bool a0_0, .slice A0_1 l0_1.length c0_1, .int .i64 a0_2] 48 (0, 0)) (by (with_reducible repeat first | refine Ze ?_ _ | refine Zg ?_ | refine Zf ?_ _); exact BK280.out)) : gb282 ≠ gb280)); have n8_ := Zb.mk ((by rw [hg]; exact Nat.ne_of_lt (Zw (g := gb281) (o := .cells #[.bool a1_0, .slice A1_1 l1_1.length c1_1, .int .i64 a1_2] 48 (0, 0)) (by (with_reducible repeat first | refine Ze ?_ _ | refine Zg ?_ | refine Zf ?_ _); exact BK281.out)) : gb281 ≠ gb282)); have n9_ := Zb.mk ((by rw [hg]; exact Nat.ne_of_gt (Zw (g := gb281) (o := .cells #[.bool a1_0, .slice A1_1 l1_1.length c1_1, .int .i64 a1_2] 48 (0, 0)) (by (with_reducible repeat first | refine Ze ?_ _ | refine Zg ?_ | refine Zf ?_ _); exact BK281.out)) : gb282 ≠ gb281)); clear BK280; clear BK281; clear HB; have BK280 := n0_; have BK281 := n1_; have HB := n2_; have BK282 := n3_; have GW282 := n4_; have GE282 := n5_; have NB280_282 := n6_; have NB282_280 := n7_; have NB281_282 := n8_; have NB282_281 := n9_; clear n0_ n1_ n2_ n3_ n4_ n5_ n6_ n7_ n8_ n9_; clear hb hbox hg))
 have n0_ := Zb.mk (Zg BK280.out)
 have n1_ := Zb.mk (Zg BK281.out)
 have n2_ := Zb.mk (Zg BK282.out)
 have n3_ := Zb.mk (Zd HB.out)
 clear BK280
 clear BK281
 clear BK282
 clear HB
 have BK280 := n0_
 have BK281 := n1_
 have BK282 := n2_
 have HB := n3_
 clear n0_ n1_ n2_ n3_
 refine start_ (n := 17) (S := fun w' => w'.cell? ⟨gb280, 0, none⟩ = some (.bool a0_0) ∧ w'.cell? ⟨gb280, 1, none⟩ = some (.slice A0_1 l0_1.length c0_1) ∧ w'.cell? ⟨gb280, 2, none⟩ = some (.int .i64 a0_2) ∧ w'.cell? ⟨gb281, 0, none⟩ = some (.bool a1_0) ∧ w'.cell? ⟨gb281, 1, none⟩ = some (.slice A1_1 l1_1.length c1_1) ∧ w'.cell? ⟨gb281, 2, none⟩ = some (.int .i64 a1_2)) (ds := []) #[false, false, false, false, false, false, false, false, false, false, false, false, false, false, false, false, false] (by kernel_rfl) rfl rfl ⟨(Zk BK280.out 0).trans rfl, (Zk BK280.out 1).trans rfl, (Zk BK280.out 2).trans rfl, (Zk BK281.out 0).trans rfl, (Zk BK281.out 1).trans rfl, (Zk BK281.out 2).trans rfl⟩ (fun hHeld => ?_); refine with_tabW r00Times.tab1 r00Times.bits1 (fun HT_ HW_ => ?_)
 generalize w6.drew = w7 at BK280 BK281 BK282 HB hHeld ⊢
 refine ZM (i := 0) (N := some 5) (v := ?_) (a' := ?_) #[true, false, false, false, false, false, false, false, false, false, false, false, false, false, false, false, false] rfl rfl (ZD HT_.out (by kernel_rfl)) (fun _ _ _ h => h) (Or.inl ⟨by rfl, ?_⟩) ?_ ?_
 rotate_left
 ·intro w'
  go_simp
  with_reducible rfl
 rotate_left
 ·simp only [Act.put, List.setIfInBounds_toArray, List.set_cons_zero, List.set_cons_succ, Zx, ZA]
  rfl
 refine ZM (i := 2) (N := some 7) (v := ?_) (a' := ?_) #[true, false, true, false, false, false, false, false, false, false, false, false, false, false, false, false, false] rfl rfl (ZD HT_.out (by kernel_rfl)) (fun _ _ _ h => h) (Or.inl ⟨by rfl, ?_⟩) ?_ ?_
 rotate_left
 ·intro w'
  go_simp
  with_reducible rfl
 rotate_left
 ·simp only [Act.put, List.setIfInBounds_toArray, List.set_cons_zero, List.set_cons_succ, Zx, ZA]
  rfl
 refine ZM (i := 5) (N := some 10) (v := ?_) (a' := ?_) #[true, false, true, false, false, true, false, false, false, false, false, false, false, false, false, false, false] rfl rfl (ZD HT_.out (by kernel_rfl)) (fun _ _ _ h => h) (Or.inl ⟨by rfl, ?_⟩) ?_ ?_
 rotate_left
 ·intro w'
  go_simp
  with_reducible rfl
 rotate_left
 ·simp only [Act.put, List.setIfInBounds_toArray, List.set_cons_zero, List.set_cons_succ, Zx, ZA]
  rfl
 refine ZM (i := 7) (N := some 12) (v := ?_) (a' := ?_) #[true, false, true, false, false, true, false, true, false, false, false, false, false, false, false, false, false] rfl rfl (ZD HT_.out (by kernel_rfl)) (fun _ _ _ h => h) (Or.inl ⟨by rfl, ?_⟩) ?_ ?_
 rotate_left
 ·intro w'
  go_simp
  with_reducible rfl
 rotate_left
 ·simp only [Act.put, List.setIfInBounds_toArray, List.set_cons_zero, List.set_cons_succ, Zx, ZA]
  rfl
 refine ZM (i := 10) (N := some 15) (v := ?_) (a' := ?_) #[true, false, true, false, false, true, false, true, false, false, true, false, false, false, false, false, false] rfl rfl (ZD HT_.out (by kernel_rfl)) (fun _ _ _ h => h) (Or.inl ⟨by rfl, ?_⟩) ?_ ?_
 rotate_left
 ·intro w'
  go_simp
  with_reducible rfl
 rotate_left
 ·simp only [Act.put, List.setIfInBounds_toArray, List.set_cons_zero, List.set_cons_succ, Zx, ZA]
  rfl
 refine ZM (i := 12) (N := some 17) (v := ?_) (a' := ?_) #[true, false, true, false, false, true, false, true, false, false, true, false, true, false, false, false, false] rfl rfl (ZD HT_.out (by kernel_rfl)) (fun _ _ _ h => h) (Or.inl ⟨by rfl, ?_⟩) ?_ ?_
 rotate_left
 ·intro w'
  go_simp
  with_reducible rfl
 rotate_left
 ·simp only [Act.put, List.setIfInBounds_toArray, List.set_cons_zero, List.set_cons_succ, Zx, ZA]
  rfl
 refine take_ (i := 1) (N := some 6) (v := ?_) (a' := ?_) #[true, true, true, false, false, true, false, true, false, false, true, false, true, false, false, false, false] rfl rfl (take_ofW HT_.out HW_.out (by kernel_rfl)) (fun _ _ _ h => h) (Or.inl ⟨by rfl, ?_⟩) hHeld ?_ ?_
 rotate_left
 ·rintro w' ⟨s0, s1, s2, s3, s4, s5⟩
  go_simp
  with_reducible rfl
 rotate_left
 ·simp only [Act.put, List.setIfInBounds_toArray, List.set_cons_zero, List.set_cons_succ, Zx, ZA]
  rfl
 refine take_ (i := 3) (N := some 8) (v := ?_) (a' := ?_) #[true, true, true, true, false, true, false, true, false, false, true, false, true, false, false, false, false] rfl rfl (take_ofW HT_.out HW_.out (by kernel_rfl)) (fun _ _ _ h => h) (Or.inl ⟨by rfl, ?_⟩) hHeld ?_ ?_
 rotate_left
 ·rintro w' ⟨s0, s1, s2, s3, s4, s5⟩
  go_simp
  with_reducible rfl
 rotate_left
 ·simp only [Act.put, List.setIfInBounds_toArray, List.set_cons_zero, List.set_cons_succ, Zx, ZA]
  rfl
 refine ZM (i := 4) (N := some 9) (v := ?_) (a' := ?_) #[true, true, true, true, true, true, false, true, false, false, true, false, true, false, false, false, false] rfl rfl (ZD HT_.out (by kernel_rfl)) (fun _ _ _ h => h) (Or.inl ⟨by rfl, ?_⟩) ?_ ?_
 rotate_left
 ·intro w'
  go_simp
  with_reducible rfl
 rotate_left
 ·simp only [Act.put, List.setIfInBounds_toArray, List.set_cons_zero, List.set_cons_succ, Zx, ZA]
  rfl
 refine take_ (i := 6) (N := some 11) (v := ?_) (a' := ?_) #[true, true, true, true, true, true, true, true, false, false, true, false, true, false, false, false, false] rfl rfl (take_ofW HT_.out HW_.out (by kernel_rfl)) (fun _ _ _ h => h) (Or.inl ⟨by rfl, ?_⟩) hHeld ?_ ?_
 rotate_left
 ·rintro w' ⟨s0, s1, s2, s3, s4, s5⟩
  go_simp
  with_reducible rfl
 rotate_left
 ·simp only [Act.put, List.setIfInBounds_toArray, List.set_cons_zero, List.set_cons_succ, Zx, ZA]
  rfl
 refine take_ (i := 8) (N := some 13) (v := ?_) (a' := ?_) #[true, true, true, true, true, true, true, true, true, false, true, false, true, false, false, false, false] rfl rfl (take_ofW HT_.out HW_.out (by kernel_rfl)) (fun _ _ _ h => h) (Or.inl ⟨by rfl, ?_⟩) hHeld ?_ ?_
 rotate_left
 ·rintro w' ⟨s0, s1, s2, s3, s4, s5⟩
  go_simp
  with_reducible rfl
 rotate_left
 ·simp only [Act.put, List.setIfInBounds_toArray, List.set_cons_zero, List.set_cons_succ, Zx, ZA]
  rfl
 refine take_ (i := 11) (N := some 16) (v := ?_) (a' := ?_) #[true, true, true, true, true, true, true, true, true, false, true, true, true, false, false, false, false] rfl rfl (take_ofW HT_.out HW_.out (by kernel_rfl)) (fun _ _ _ h => h) (Or.inl ⟨by rfl, ?_⟩) hHeld ?_ ?_
 rotate_left
 ·rintro w' ⟨s0, s1, s2, s3, s4, s5⟩
  go_simp
  with_reducible rfl
 rotate_left
 ·simp only [Act.put, List.setIfInBounds_toArray, List.set_cons_zero, List.set_cons_succ, Zx, ZA]
  rfl
 refine take_ (i := 13) (N := some 18) (v := ?_) (a' := ?_) #[true, true, true, true, true, true, true, true, true, false, true, true, true, true, false, false, false] rfl rfl (take_ofW HT_.out HW_.out (by kernel_rfl)) (fun _ _ _ h => h) (Or.inl ⟨by rfl, ?_⟩) hHeld ?_ ?_
 rotate_left
 ·rintro w' ⟨s0, s1, s2, s3, s4, s5⟩
  go_simp
  with_reducible rfl
 rotate_left
 ·simp only [Act.put, List.setIfInBounds_toArray, List.set_cons_zero, List.set_cons_succ, Zx, ZA]
  rfl
 refine ZM (i := 14) (N := some 19) (v := ?_) (a' := ?_) #[true, true, true, true, true, true, true, true, true, false, true, true, true, true, true, false, false] rfl rfl (ZD HT_.out (by kernel_rfl)) (fun _ _ _ h => h) (Or.inl ⟨by rfl, ?_⟩) ?_ ?_
 rotate_left
 ·intro w'
  go_simp
  with_reducible rfl
 rotate_left
 ·simp only [Act.put, List.setIfInBounds_toArray, List.set_cons_zero, List.set_cons_succ, Zx, ZA]
  rfl
 refine one_ (i := 9) (N := some 14) #[true, true, true, true, true, true, true, true, true, true, true, true, true, true, true, false, false] rfl rfl (one_of HT_.out (by kernel_rfl)) (by decide) (fun K hK => ?_)
 refine goes_ Try.func59 (by kernel_rfl) rfl #[.slice A0_1 l0_1.length c0_1, .slice A1_1 l1_1.length c1_1] (by rfl) rfl rfl (by (try simp only [List.map_toArray, List.map_cons, List.map_nil]); first | done | rfl | (simp only [List.length_drop, List.length_take]; rfl)) ?_
 with_reducible refine (r00NatMul.calls k _ _ l0_1 _ _ l1_1 t283 _ ?side1 ?side2 ?side3 ?side4 A3.out).mono ?_
 (case side1 => repeat (first | exact (Kd.C_below HR0_1.out HB.out) | (with_reducible refine Kd.ZC ?_ _) | (with_reducible refine Kd.ZF ?_ _) | (with_reducible refine Kd.ZN ?_)))
 (case side2 => exact HC0_1.out)
 (case side3 => repeat (first | exact (Kd.C_below HR1_1.out HB.out) | (with_reducible refine Kd.ZC ?_ _) | (with_reducible refine Kd.ZF ?_ _) | (with_reducible refine Kd.ZN ?_)))
 (case side4 => exact HC1_1.out)
 rintro e w8 ⟨v284, rfl, ho0, hb⟩
 refine ⟨_, rfl, ?_⟩
 have n0_ := Zb.mk (Kd.ZG ho0 (Zi (by repeat (with_reducible first | exact HB.out | apply Zc | apply Za | apply Zd | refine Zh ?_ GE280.out | refine Zh ?_ GE281.out | refine Zh ?_ GE282.out))))
 have n1_ := Zb.mk (Zn (g := gb280) (o := .cells #[.bool a0_0, .slice A0_1 l0_1.length c0_1, .int .i64 a0_2] 48 (0, 0)) (by (with_reducible repeat first | refine Ze ?_ _ | refine Zg ?_ | refine Zf ?_ _); exact BK280.out) hb)
 have n2_ := Zb.mk (Zn (g := gb281) (o := .cells #[.bool a1_0, .slice A1_1 l1_1.length c1_1, .int .i64 a1_2] 48 (0, 0)) (by (with_reducible repeat first | refine Ze ?_ _ | refine Zg ?_ | refine Zf ?_ _); exact BK281.out) hb)
 have n3_ := Zb.mk (Zn (g := gb282) (o := .cells #[.bool false, .slice none 0 0, .int .i64 0] 48 (0, 0)) (by (with_reducible repeat first | refine Ze ?_ _ | refine Zg ?_ | refine Zf ?_ _); exact BK282.out) hb)
 have n4_ := Zb.mk (Zl (by repeat (with_reducible first | exact HB.out | apply Zc | apply Za | apply Zd | refine Zh ?_ GE280.out | refine Zh ?_ GE281.out | refine Zh ?_ GE282.out)) hb)
 clear BK280
 clear BK281
 clear BK282
 clear HB
 have HO285 := n0_
 have BK280 := n1_
 have BK281 := n2_
 have BK282 := n3_
 have HB := n4_
 clear n0_ n1_ n2_ n3_ n4_
 (try clear hb)
 (try clear hb2)
 (try clear hk)
 (try clear hi)
 (try clear ho0)
 obtain ⟨Ao9, co9, eo9⟩ := Kd.Zy HO285.out
 (first | subst eo9 | (injection eo9 with f1_ f2_ f3_; have f4_ := f1_.symm; have f5_ := f3_.symm; clear f1_ f2_ f3_; subst f4_; subst f5_))
 refine hK.out _ _ ⟨(Zk BK280.out 0).trans rfl, (Zk BK280.out 1).trans rfl, (Zk BK280.out 2).trans rfl, (Zk BK281.out 0).trans rfl, (Zk BK281.out 1).trans rfl, (Zk BK281.out 2).trans rfl⟩ (fun hHeld => ?_)
 clear hK K
 refine norm_ (a' := ?_) ?_ ?_
 rotate_left
 ·show Act.put _ (some 14) _ = _
  simp only [Act.put, List.setIfInBounds_toArray, List.set_cons_zero, List.set_cons_succ, Zx, ZA]
  rfl
 refine ZM (i := 15) (N := some 20) (v := ?_) (a' := ?_) #[true, true, true, true, true, true, true, true, true, true, true, true, true, true, true, true, false] rfl rfl (ZD HT_.out (by kernel_rfl)) (fun _ _ _ h => h) (Or.inl ⟨by rfl, ?_⟩) ?_ ?_
 rotate_left
 ·intro w'
  go_simp
  with_reducible rfl
 rotate_left
 ·simp only [Act.put, List.setIfInBounds_toArray, List.set_cons_zero, List.set_cons_succ, Zx, ZA]
  rfl
 refine one_ (i := 16) (N := none) #[true, true, true, true, true, true, true, true, true, true, true, true, true, true, true, true, true] rfl rfl (one_of HT_.out (by kernel_rfl)) (by decide) (fun K hK => ?_)
 have hs10 : w8.cell? ⟨gb282, 0, none⟩ = some (.bool false) := (Zk BK282.out 0).trans rfl
 have hfs10 := Zj BK282.out 0
 have hns10_0 := NB280_282.out
 have hns10_1 := NB281_282.out
 have hms10_0 := NB282_280.out
 have hms10_1 := NB282_281.out
 have hs11 : w8.cell? ⟨gb282, 1, none⟩ = some (.slice none 0 0) := (Zk BK282.out 1).trans rfl
 have hfs11 := Zj BK282.out 1
 have hns11_0 := NB280_282.out
 have hns11_1 := NB281_282.out
 have hms11_0 := NB282_280.out
 have hms11_1 := NB282_281.out
 have hs12 : w8.cell? ⟨gb282, 2, none⟩ = some (.int .i64 0) := (Zk BK282.out 2).trans rfl
 have hfs12 := Zj BK282.out 2
 have hns12_0 := NB280_282.out
 have hns12_1 := NB281_282.out
 have hms12_0 := NB282_280.out
 have hms12_1 := NB282_281.out
 refine skip_ (w1 := ?_) (by rfl) rfl ?_ ?_
 rotate_left
 ·go_simp
  rfl
 refine hK.out _ _ ⟨((cell_far (p := ⟨gb282, _, none⟩) NB280_282.out _).trans (((cell_far (p := ⟨gb282, _, none⟩) NB280_282.out _).trans (((cell_far (p := ⟨gb282, _, none⟩) NB280_282.out _).trans (hHeld.1)))))), ((cell_far (p := ⟨gb282, _, none⟩) NB280_282.out _).trans (((cell_far (p := ⟨gb282, _, none⟩) NB280_282.out _).trans (((cell_far (p := ⟨gb282, _, none⟩) NB280_282.out _).trans (hHeld.2.1)))))), ((cell_far (p := ⟨gb282, _, none⟩) NB280_282.out _).trans (((cell_far (p := ⟨gb282, _, none⟩) NB280_282.out _).trans (((cell_far (p := ⟨gb282, _, none⟩) NB280_282.out _).trans (hHeld.2.2.1)))))), ((cell_far (p := ⟨gb282, _, none⟩) NB281_282.out _).trans (((cell_far (p := ⟨gb282, _, none⟩) NB281_282.out _).trans (((cell_far (p := ⟨gb282, _, none⟩) NB281_282.out _).trans (hHeld.2.2.2.1)))))), ((cell_far (p := ⟨gb282, _, none⟩) NB281_282.out _).trans (((cell_far (p := ⟨gb282, _, none⟩) NB281_282.out _).trans (((cell_far (p := ⟨gb282, _, none⟩) NB281_282.out _).trans (hHeld.2.2.2.2.1)))))), ((cell_far (p := ⟨gb282, _, none⟩) NB281_282.out _).trans (((cell_far (p := ⟨gb282, _, none⟩) NB281_282.out _).trans (((cell_far (p := ⟨gb282, _, none⟩) NB281_282.out _).trans (hHeld.2.2.2.2.2))))))⟩ (fun hHeld => ?_)
 clear hK K
 refine done_ (done_of HT_.out (by kernel_rfl)) ?_
 try go_wp2
 refine bodyPost_ret (results_cell_row rfl _ _ gb282 48 #[.bool (a0_0 != a1_0), .slice Ao9 t283.length co9, .int .i64 (wrap64 (a0_2 + a1_2))] (0, 0) _ rfl (by (with_reducible repeat first | refine Ze ?_ _ | refine Zg ?_ | refine Zf ?_ _); refine Zu (cs := #[.bool (a0_0 != a1_0), .slice Ao9 t283.length co9, .int .i64 0]) ?_ 2 _ rfl; (with_reducible repeat first | refine Ze ?_ _ | refine Zg ?_ | refine Zf ?_ _); refine Zu (cs := #[.bool (a0_0 != a1_0), .slice none 0 0, .int .i64 0]) ?_ 1 _ rfl; (with_reducible repeat first | refine Ze ?_ _ | refine Zg ?_ | refine Zf ?_ _); refine Zu (cs := #[.bool false, .slice none 0 0, .int .i64 0]) ?_ 0 _ rfl; (with_reducible repeat first | refine Ze ?_ _ | refine Zg ?_ | refine Zf ?_ _); exact BK282.out) Try.underlying48 rfl (by kernel_rfl)) rfl ?_
 exact ⟨_, by first | rfl | (simp [errW_none, errW_some] <;> rfl) | (simp [*, errW_none, errW_some] <;> rfl), by (with_reducible repeat first | apply Kd.Zm | apply Kd.Zo); exact Kd.ZE (Kd.ZH (p := ⟨gb282, 2, none⟩) (Kd.ZH (p := ⟨gb282, 1, none⟩) (Kd.ZH (p := ⟨gb282, 0, none⟩) (Kd.ZI HO285.out BK282.out (by decide)) (fun _ hk => hk.2) (.bool (a0_0 != a1_0))) (fun _ hk => hk.2) (.slice Ao9 t283.length co9)) (fun _ hk => hk.2) (.int .i64 (wrap64 (a0_2 + a1_2)))) (fun _ hk => trivial), by repeat (with_reducible first | exact HB.out | apply Zc | apply Za | apply Zd | refine Zh ?_ GE280.out | refine Zh ?_ GE281.out | refine Zh ?_ GE282.out)⟩
def r19may.f (a0 : Int) : Option (Bool) := if a0 ≥ 2 then (some (decide (a0 ≤ 36))) else (some false)
end Go.Proofs.Ytbmddlldadbfnaa.BB
end
section
namespace Go.Proofs.Ytbmddlldadbfnaa.BE
open Go.RowKit Go.Proofs.Ytbmddlldadbfnaa.BA Go.Proofs.Ytbmddlldadbfnaa.BB Go.Proofs.YtbmddlldadbfnaaW.PrintWords Go.Proofs.YtbmddlldadbfnaaW.PrintLast Go.Proofs.YtbmddlldadbfnaaW.PrintMore
attribute [local go_sem] ZU ZS max_two min_two ZP ZO ZT ZR
set_option linter.unusedVariables false
set_option linter.unusedSimpArgs false
def errW : Option Int → Value
 | none => .nilIface
 | some c => .iface 0 (.int .i64 c)
theorem errW_none : errW none = .nilIface := rfl
theorem errW_some (c : Int) : errW (some c) = .iface 0 (.int .i64 c) := rfl
theorem info46 : (Try.prog.info? 46).map (fun i => (i.zero, i.size, i.bytes)) = some (some (.int .u64 0), 1, 8) := by kernel_rfl
end Go.Proofs.Ytbmddlldadbfnaa.BE
end
section
namespace Go.Proofs.Ytbmddlldadbfnaa.BE
open Go.RowKit Go.Proofs.Ytbmddlldadbfnaa.BA Go.Proofs.Ytbmddlldadbfnaa.BB Go.Proofs.YtbmddlldadbfnaaW.PrintWords Go.Proofs.YtbmddlldadbfnaaW.PrintLast Go.Proofs.YtbmddlldadbfnaaW.PrintMore
attribute [local go_sem] ZU ZS max_two min_two ZP ZO ZT ZR
set_option linter.unusedVariables false
set_option linter.unusedSimpArgs false
def r00NatCmp.l0 : Nat → List Int → List Int → Int → Option (Int)
 | 0, _, _, _ => none
 | k + 1, x5, x6, x7 => if x7 ≥ 0 then (if 0 ≤ x7 then (if x7 < (x5.length : Int) then (if x7 < (x6.length : Int) then (if (rd x5 x7) < (rd x6 x7) then (some (-1)) else (if (rd x5 x7) > (rd x6 x7) then (some 1) else (r00NatCmp.l0 k x5 x6 (wrap64 (x7 - 1))))) else (none)) else (none)) else (none)) else (some 0)
def r00NatCmp.f (k : Nat) (l0 : List Int) (l1 : List Int) : Option (Int) := (r00NatTrim.f k l0).bind fun t101 => ((r00NatTrim.f k l1).bind fun t104 => (if (t101.length : Int) = (t104.length : Int) then (r00NatCmp.l0 k t101 t104 (wrap64 ((t101.length : Int) - 1))) else (if (t101.length : Int) < (t104.length : Int) then (some (-1)) else (some 1))))
set_option maxHeartbeats 8000000 in
set_option maxRecDepth 100000 in
theorem r00NatCmp.calls (k : Nat) (A0 : Option Addr) (c0 : Nat) (l0 : List Int) (A1 : Option Addr) (c1 : Nat) (l1 : List Int) (r : Int) (w : World) (hr0 : Kd.C (Kd.int .u64) w A0 l0.length l0) (hc0 : l0.length ≤ c0) (hr1 : Kd.C (Kd.int .u64) w A1 l1.length l1) (hc1 : l1.length ≤ c1) (h : r00NatCmp.f k l0 l1 = some r) :
  Calls Try.prog 57 #[.slice A0 l0.length c0, .slice A1 l1.length c1] w fun e w' => e = .returned (.int .i64 r) ∧ Below w.heap.size w w' := by
 have HR0 := Zb.mk hr0
 have HC0 := Zb.mk hc0
 clear hr0 hc0
 have HR1 := Zb.mk hr1
 have HC1 := Zb.mk hc1
 clear hr1 hc1
 have HB := Zb.mk (Below.refl w.heap.size w)
 have H : ((r00NatTrim.f k l0).bind fun t101 => ((r00NatTrim.f k l1).bind fun t104 => (if (t101.length : Int) = (t104.length : Int) then (r00NatCmp.l0 k t101 t104 (wrap64 ((t101.length : Int) - 1))) else (if (t101.length : Int) < (t104.length : Int) then (some (-1)) else (some 1))))) = some r := h
 clear h
 replace H := Option.bind_eq_some_iff.mp H
 obtain ⟨t101, A30, H⟩ := H
 replace H : ((r00NatTrim.f k l1).bind fun t104 => (if (t101.length : Int) = (t104.length : Int) then (r00NatCmp.l0 k t101 t104 (wrap64 ((t101.length : Int) - 1))) else (if (t101.length : Int) < (t104.length : Int) then (some (-1)) else (some 1)))) = some r := H
 have A3 := Zb.mk A30
 clear A30
 replace H := Option.bind_eq_some_iff.mp H
 obtain ⟨t104, A40, H⟩ := H
 replace H : (if (t101.length : Int) = (t104.length : Int) then (r00NatCmp.l0 k t101 t104 (wrap64 ((t101.length : Int) - 1))) else (if (t101.length : Int) < (t104.length : Int) then (some (-1)) else (some 1))) = some r := H
 have A4 := Zb.mk A40
 clear A40
 by_cases c5 : (t101.length : Int) = (t104.length : Int)
 ·rw [if_pos c5] at H
  have c5b0 : ((t101.length : Int) == (t104.length : Int)) = true := beq_iff_eq.mpr c5
  have c5b1 : ((t101.length : Int) != (t104.length : Int)) = false := bne_eq_false_iff_eq.mpr c5
  have c5b2 : (t101.length == t104.length) = true := by first | simpa using c5 | (simp at c5 ⊢; omega)
  clear c5
  have H' := Zb.mk H
  clear H
  go_enter Try.func57, Try.ntmps57
  go_wp2_with (first | (go_at_call 53; (with_reducible refine (r00NatTrim.calls k _ _ l0 t101 _ ?side1 ?side2 A3.out).mono ?_); (case side1 => repeat (first | exact HR0.out | (with_reducible refine Kd.ZC ?_ _) | (with_reducible refine Kd.ZF ?_ _) | (with_reducible refine Kd.ZN ?_))); (case side2 => exact HC0.out); rintro e w6 ⟨v102, rfl, ho0, hb⟩; have n0_ := Zb.mk (Kd.ZG ho0 (Zi (by repeat (with_reducible first | exact HB.out | apply Zc | apply Za | apply Zd)))); have n1_ := Zb.mk (Zl (by repeat (with_reducible first | exact HB.out | apply Zc | apply Za | apply Zd)) hb); clear HB; have HO103 := n0_; have HB := n1_; clear n0_ n1_; (try clear hb); (try clear hb2); (try clear hk); (try clear hi); (try clear ho0)) | (go_at_call 53; (with_reducible refine (r00NatTrim.calls k _ _ l1 t104 _ ?side1 ?side2 A4.out).mono ?_); (case side1 => repeat (first | exact (Kd.C_below HR1.out HB.out) | (with_reducible refine Kd.ZC ?_ _) | (with_reducible refine Kd.ZF ?_ _) | (with_reducible refine Kd.ZN ?_))); (case side2 => exact HC1.out); rintro e w7 ⟨v105, rfl, ho0, hb⟩; have n0_ := Zb.mk (Kd.ZJ (by (with_reducible repeat first | apply Kd.Zm | apply Kd.Zo); exact HO103.out) (Kd.ZV ho0) hb); have n1_ := Zb.mk (Kd.ZG (Kd.R_new' ho0 (Kd.R_lt (by (with_reducible repeat first | apply Kd.Zm | apply Kd.Zo); exact HO103.out))) (Zi (by repeat (with_reducible first | exact HB.out | apply Zc | apply Za | apply Zd)))); have n2_ := Zb.mk (Zl (by repeat (with_reducible first | exact HB.out | apply Zc | apply Za | apply Zd)) hb); clear HO103; clear HB; have HO103 := n0_; have HO106 := n1_; have HB := n2_; clear n0_ n1_ n2_; (try clear hb); (try clear hb2); (try clear hk); (try clear hi); (try clear ho0); obtain ⟨Ao8, co8, eo8⟩ := Kd.Zy HO103.out; subst eo8; obtain ⟨Ao9, co9, eo9⟩ := Kd.Zy HO106.out; subst eo9))
  repeat (go_quiet (first | (go_at_call 53; (with_reducible refine (r00NatTrim.calls k _ _ l0 t101 _ ?side1 ?side2 A3.out).mono ?_); (case side1 => repeat (first | exact HR0.out | (with_reducible refine Kd.ZC ?_ _) | (with_reducible refine Kd.ZF ?_ _) | (with_reducible refine Kd.ZN ?_))); (case side2 => exact HC0.out); rintro e w6 ⟨v102, rfl, ho0, hb⟩; have n0_ := Zb.mk (Kd.ZG ho0 (Zi (by repeat (with_reducible first | exact HB.out | apply Zc | apply Za | apply Zd)))); have n1_ := Zb.mk (Zl (by repeat (with_reducible first | exact HB.out | apply Zc | apply Za | apply Zd)) hb); clear HB; have HO103 := n0_; have HB := n1_; clear n0_ n1_; (try clear hb); (try clear hb2); (try clear hk); (try clear hi); (try clear ho0)) | (go_at_call 53; (with_reducible refine (r00NatTrim.calls k _ _ l1 t104 _ ?side1 ?side2 A4.out).mono ?_); (case side1 => repeat (first | exact (Kd.C_below HR1.out HB.out) | (with_reducible refine Kd.ZC ?_ _) | (with_reducible refine Kd.ZF ?_ _) | (with_reducible refine Kd.ZN ?_))); (case side2 => exact HC1.out); rintro e w7 ⟨v105, rfl, ho0, hb⟩; have n0_ := Zb.mk (Kd.ZJ (by (with_reducible repeat first | apply Kd.Zm | apply Kd.Zo); exact HO103.out) (Kd.ZV ho0) hb); have n1_ := Zb.mk (Kd.ZG (Kd.R_new' ho0 (Kd.R_lt (by (with_reducible repeat first | apply Kd.Zm | apply Kd.Zo); exact HO103.out))) (Zi (by repeat (with_reducible first | exact HB.out | apply Zc | apply Za | apply Zd)))); have n2_ := Zb.mk (Zl (by repeat (with_reducible first | exact HB.out | apply Zc | apply Za | apply Zd)) hb); clear HO103; clear HB; have HO103 := n0_; have HO106 := n1_; have HB := n2_; clear n0_ n1_ n2_; (try clear hb); (try clear hb2); (try clear hk); (try clear hi); (try clear ho0); obtain ⟨Ao8, co8, eo8⟩ := Kd.Zy HO103.out; subst eo8; obtain ⟨Ao9, co9, eo9⟩ := Kd.Zy HO106.out; subst eo9)); try go_wp2_with (first | (go_at_call 53; (with_reducible refine (r00NatTrim.calls k _ _ l0 t101 _ ?side1 ?side2 A3.out).mono ?_); (case side1 => repeat (first | exact HR0.out | (with_reducible refine Kd.ZC ?_ _) | (with_reducible refine Kd.ZF ?_ _) | (with_reducible refine Kd.ZN ?_))); (case side2 => exact HC0.out); rintro e w6 ⟨v102, rfl, ho0, hb⟩; have n0_ := Zb.mk (Kd.ZG ho0 (Zi (by repeat (with_reducible first | exact HB.out | apply Zc | apply Za | apply Zd)))); have n1_ := Zb.mk (Zl (by repeat (with_reducible first | exact HB.out | apply Zc | apply Za | apply Zd)) hb); clear HB; have HO103 := n0_; have HB := n1_; clear n0_ n1_; (try clear hb); (try clear hb2); (try clear hk); (try clear hi); (try clear ho0)) | (go_at_call 53; (with_reducible refine (r00NatTrim.calls k _ _ l1 t104 _ ?side1 ?side2 A4.out).mono ?_); (case side1 => repeat (first | exact (Kd.C_below HR1.out HB.out) | (with_reducible refine Kd.ZC ?_ _) | (with_reducible refine Kd.ZF ?_ _) | (with_reducible refine Kd.ZN ?_))); (case side2 => exact HC1.out); rintro e w7 ⟨v105, rfl, ho0, hb⟩; have n0_ := Zb.mk (Kd.ZJ (by (with_reducible repeat first | apply Kd.Zm | apply Kd.Zo); exact HO103.out) (Kd.ZV ho0) hb); have n1_ := Zb.mk (Kd.ZG (Kd.R_new' ho0 (Kd.R_lt (by (with_reducible repeat first | apply Kd.Zm | apply Kd.Zo); exact HO103.out))) (Zi (by repeat (with_reducible first | exact HB.out | apply Zc | apply Za | apply Zd)))); have n2_ := Zb.mk (Zl (by repeat (with_reducible first | exact HB.out | apply Zc | apply Za | apply Zd)) hb); clear HO103; clear HB; have HO103 := n0_; have HO106 := n1_; have HB := n2_; clear n0_ n1_ n2_; (try clear hb); (try clear hb2); (try clear hk); (try clear hi); (try clear ho0); obtain ⟨Ao8, co8, eo8⟩ := Kd.Zy HO103.out; subst eo8; obtain ⟨Ao9, co9, eo9⟩ := Kd.Zy HO106.out; subst eo9)))
  go_loopg [7] k (fun kq v7 w' => ∃ (x7_1 : Int), v7 = .int .i64 x7_1 ∧ Zb (r00NatCmp.l0 kq t101 t104 x7_1 = some r) ∧ Zb (kq ≤ k) ∧ Zb (Kd.R (Kd.int .u64) 46 w' w.heap.size (fun k_ => some k_ ≠ ((.slice Ao9 t104.length co9) : Value).ownBlock) (.slice Ao8 t101.length co8) t101) ∧ Zb (Kd.R (Kd.int .u64) 46 w' w.heap.size (fun k_ => some k_ ≠ ((.slice Ao8 t101.length co8) : Value).ownBlock) (.slice Ao9 t104.length co9) t104) ∧ Zb (Below w.heap.size w w'))
  case atStart => exact ⟨(wrap64 ((t101.length : Int) - 1)), (by first | rfl | (simp; done) | (simp [*]; done)), H', ⟨Nat.le_refl _⟩, ⟨by (with_reducible repeat first | apply Kd.Zm | apply Kd.Zo); exact Kd.ZE HO103.out (fun _ hk => hk.2)⟩, ⟨by (with_reducible repeat first | apply Kd.Zm | apply Kd.Zo); exact Kd.ZE HO106.out (fun _ hk => hk.2)⟩, ⟨by repeat (with_reducible first | exact HB.out | apply Zc | apply Za | apply Zd)⟩⟩
  case round =>
   clear H'
   try clear c1
   try clear p2
   try clear c5
   try clear c5b0
   try clear c5b1
   try clear c5b2
   try clear p6
   obtain ⟨x7_1, rfl, HA, HK1, HO_5, HO_6, HB⟩ := hrel
   cases gk with
   | zero => exact absurd HA.out (by simp [r00NatCmp.l0])
   | succ k1 =>
    have H := HA.out
    clear HA
    simp only [r00NatCmp.l0] at H
    by_cases c10 : x7_1 ≥ 0
    ·rw [if_pos c10] at H
     have c10b0 : decide (0 ≤ x7_1) = true := decide_eq_true c10
     clear c10
     by_cases c11 : 0 ≤ x7_1
     ·rw [if_pos c11] at H
      have c11b0 : decide (0 ≤ x7_1) = true := decide_eq_true c11
      clear c11
      by_cases c12 : x7_1 < (t101.length : Int)
      ·rw [if_pos c12] at H
       have c12b0 : decide (x7_1 < (t101.length : Int)) = true := decide_eq_true c12
       clear c12
       by_cases c13 : x7_1 < (t104.length : Int)
       ·rw [if_pos c13] at H
        have c13b0 : decide (x7_1 < (t104.length : Int)) = true := decide_eq_true c13
        clear c13
        by_cases c14 : (rd t101 x7_1) < (rd t104 x7_1)
        ·rw [if_pos c14] at H
         have c14b0 : decide ((rd t101 x7_1) < (rd t104 x7_1)) = true := decide_eq_true c14
         clear c14
         obtain rfl := Option.some.inj H
         have p107 : 0 ≤ (x7_1 : Int) := of_decide_eq_true (by first | (with_reducible assumption) | assumption)
         have q107 : x7_1 < (t101.length : Int) := of_decide_eq_true (by first | (with_reducible assumption) | assumption)
         obtain ⟨ad107, e107, hx107_0⟩ := Kd.at_int (Kd.Zv HO_5.out).2.2 x7_1 p107 q107
         cases e107
         replace p107 := eq_true p107
         replace q107 := eq_true q107
         have p108 : 0 ≤ (x7_1 : Int) := of_decide_eq_true (by first | (with_reducible assumption) | assumption)
         have q108 : x7_1 < (t104.length : Int) := of_decide_eq_true (by first | (with_reducible assumption) | assumption)
         obtain ⟨ad108, e108, hx108_0⟩ := Kd.at_int (Kd.Zv HO_6.out).2.2 x7_1 p108 q108
         cases e108
         replace p108 := eq_true p108
         replace q108 := eq_true q108
         go_wp2
         repeat (go_quiet (fail); try go_wp2)
         go_ret
         exact ⟨by first | rfl | (simp [errW_none, errW_some] <;> rfl) | (simp [*, errW_none, errW_some] <;> rfl), by repeat (with_reducible first | exact HB.out | apply Zc | apply Za | apply Zd)⟩
        ·rw [if_neg c14] at H
         have c14b0 : decide ((rd t101 x7_1) < (rd t104 x7_1)) = false := decide_eq_false c14
         clear c14
         by_cases c15 : (rd t101 x7_1) > (rd t104 x7_1)
         ·rw [if_pos c15] at H
          have c15b0 : decide ((rd t104 x7_1) < (rd t101 x7_1)) = true := decide_eq_true c15
          clear c15
          obtain rfl := Option.some.inj H
          have p107 : 0 ≤ (x7_1 : Int) := of_decide_eq_true (by first | (with_reducible assumption) | assumption)
          have q107 : x7_1 < (t101.length : Int) := of_decide_eq_true (by first | (with_reducible assumption) | assumption)
          obtain ⟨ad107, e107, hx107_0⟩ := Kd.at_int (Kd.Zv HO_5.out).2.2 x7_1 p107 q107
          cases e107
          replace p107 := eq_true p107
          replace q107 := eq_true q107
          have p108 : 0 ≤ (x7_1 : Int) := of_decide_eq_true (by first | (with_reducible assumption) | assumption)
          have q108 : x7_1 < (t104.length : Int) := of_decide_eq_true (by first | (with_reducible assumption) | assumption)
          obtain ⟨ad108, e108, hx108_0⟩ := Kd.at_int (Kd.Zv HO_6.out).2.2 x7_1 p108 q108
          cases e108
          replace p108 := eq_true p108
          replace q108 := eq_true q108
          have p109 : 0 ≤ (x7_1 : Int) := of_decide_eq_true (by first | (with_reducible assumption) | assumption)
          have q109 : x7_1 < (t101.length : Int) := of_decide_eq_true (by first | (with_reducible assumption) | assumption)
          obtain ⟨ad109, e109, hx109_0⟩ := Kd.at_int (Kd.Zv HO_5.out).2.2 x7_1 p109 q109
          obtain rfl : ad107 = ad109 := (by injection e109)
          replace p109 := eq_true p109
          replace q109 := eq_true q109
          have p110 : 0 ≤ (x7_1 : Int) := of_decide_eq_true (by first | (with_reducible assumption) | assumption)
          have q110 : x7_1 < (t104.length : Int) := of_decide_eq_true (by first | (with_reducible assumption) | assumption)
          obtain ⟨ad110, e110, hx110_0⟩ := Kd.at_int (Kd.Zv HO_6.out).2.2 x7_1 p110 q110
          obtain rfl : ad108 = ad110 := (by injection e110)
          replace p110 := eq_true p110
          replace q110 := eq_true q110
          go_wp2
          repeat (go_quiet (fail); try go_wp2)
          go_ret
          exact ⟨by first | rfl | (simp [errW_none, errW_some] <;> rfl) | (simp [*, errW_none, errW_some] <;> rfl), by repeat (with_reducible first | exact HB.out | apply Zc | apply Za | apply Zd)⟩
         ·rw [if_neg c15] at H
          have c15b0 : decide ((rd t104 x7_1) < (rd t101 x7_1)) = false := decide_eq_false c15
          clear c15
          have H' := Zb.mk H
          clear H
          have p107 : 0 ≤ (x7_1 : Int) := of_decide_eq_true (by first | (with_reducible assumption) | assumption)
          have q107 : x7_1 < (t101.length : Int) := of_decide_eq_true (by first | (with_reducible assumption) | assumption)
          obtain ⟨ad107, e107, hx107_0⟩ := Kd.at_int (Kd.Zv HO_5.out).2.2 x7_1 p107 q107
          cases e107
          replace p107 := eq_true p107
          replace q107 := eq_true q107
          have p108 : 0 ≤ (x7_1 : Int) := of_decide_eq_true (by first | (with_reducible assumption) | assumption)
          have q108 : x7_1 < (t104.length : Int) := of_decide_eq_true (by first | (with_reducible assumption) | assumption)
          obtain ⟨ad108, e108, hx108_0⟩ := Kd.at_int (Kd.Zv HO_6.out).2.2 x7_1 p108 q108
          cases e108
          replace p108 := eq_true p108
          replace q108 := eq_true q108
          have p109 : 0 ≤ (x7_1 : Int) := of_decide_eq_true (by first | (with_reducible assumption) | assumption)
          have q109 : x7_1 < (t101.length : Int) := of_decide_eq_true (by first | (with_reducible assumption) | assumption)
          obtain ⟨ad109, e109, hx109_0⟩ := Kd.at_int (Kd.Zv HO_5.out).2.2 x7_1 p109 q109
          obtain rfl : ad107 = ad109 := (by injection e109)
          replace p109 := eq_true p109
          replace q109 := eq_true q109
          have p110 : 0 ≤ (x7_1 : Int) := of_decide_eq_true (by first | (with_reducible assumption) | assumption)
          have q110 : x7_1 < (t104.length : Int) := of_decide_eq_true (by first | (with_reducible assumption) | assumption)
          obtain ⟨ad110, e110, hx110_0⟩ := Kd.at_int (Kd.Zv HO_6.out).2.2 x7_1 p110 q110
          obtain rfl : ad108 = ad110 := (by injection e110)
          replace p110 := eq_true p110
          replace q110 := eq_true q110
          go_wp2
          repeat (go_quiet (fail); try go_wp2)
          go_roundg k1
          case measure => have := HK1.out; omega
          case rel => exact ⟨(wrap64 (x7_1 - 1)), (by first | rfl | (simp; done) | (simp [*]; done)), H', ⟨by have := HK1.out; omega⟩, ⟨by (with_reducible repeat first | apply Kd.Zm | apply Kd.Zo); exact HO_5.out⟩, ⟨by (with_reducible repeat first | apply Kd.Zm | apply Kd.Zo); exact HO_6.out⟩, ⟨by repeat (with_reducible first | exact HB.out | apply Zc | apply Za | apply Zd)⟩⟩
       ·rw [if_neg c13] at H
        exact absurd H (by simp)
      ·rw [if_neg c12] at H
       exact absurd H (by simp)
     ·rw [if_neg c11] at H
      exact absurd H (by simp)
    ·rw [if_neg c10] at H
     have c10b0 : decide (0 ≤ x7_1) = false := decide_eq_false c10
     clear c10
     obtain rfl := Option.some.inj H
     go_wp2
     repeat (go_quiet (fail); try go_wp2)
     go_ret
     exact ⟨by first | rfl | (simp [errW_none, errW_some] <;> rfl) | (simp [*, errW_none, errW_some] <;> rfl), by repeat (with_reducible first | exact HB.out | apply Zc | apply Za | apply Zd)⟩
 ·rw [if_neg c5] at H
  have c5b0 : ((t101.length : Int) == (t104.length : Int)) = false := beq_eq_false_iff_ne.mpr c5
  have c5b1 : ((t101.length : Int) != (t104.length : Int)) = true := bne_iff_ne.mpr c5
  have c5b2 : (t101.length == t104.length) = false := by first | simpa using c5 | (simp at c5 ⊢; omega)
  by_cases c16 : (t101.length : Int) < (t104.length : Int)
  ·rw [if_pos c16] at H
   have c16b0 : decide ((t101.length : Int) < (t104.length : Int)) = true := decide_eq_true c16
   have c16b1 : decide (t101.length < t104.length) = true := decide_eq_true (Int.ofNat_lt.mp c16)
   clear c16
   obtain rfl := Option.some.inj H
   go_enter Try.func57, Try.ntmps57
   go_wp2_with (first | (go_at_call 53; (with_reducible refine (r00NatTrim.calls k _ _ l0 t101 _ ?side1 ?side2 A3.out).mono ?_); (case side1 => repeat (first | exact HR0.out | (with_reducible refine Kd.ZC ?_ _) | (with_reducible refine Kd.ZF ?_ _) | (with_reducible refine Kd.ZN ?_))); (case side2 => exact HC0.out); rintro e w17 ⟨v102, rfl, ho0, hb⟩; have n0_ := Zb.mk (Kd.ZG ho0 (Zi (by repeat (with_reducible first | exact HB.out | apply Zc | apply Za | apply Zd)))); have n1_ := Zb.mk (Zl (by repeat (with_reducible first | exact HB.out | apply Zc | apply Za | apply Zd)) hb); clear HB; have HO103 := n0_; have HB := n1_; clear n0_ n1_; (try clear hb); (try clear hb2); (try clear hk); (try clear hi); (try clear ho0)) | (go_at_call 53; (with_reducible refine (r00NatTrim.calls k _ _ l1 t104 _ ?side1 ?side2 A4.out).mono ?_); (case side1 => repeat (first | exact (Kd.C_below HR1.out HB.out) | (with_reducible refine Kd.ZC ?_ _) | (with_reducible refine Kd.ZF ?_ _) | (with_reducible refine Kd.ZN ?_))); (case side2 => exact HC1.out); rintro e w18 ⟨v105, rfl, ho0, hb⟩; have n0_ := Zb.mk (Kd.ZJ (by (with_reducible repeat first | apply Kd.Zm | apply Kd.Zo); exact HO103.out) (Kd.ZV ho0) hb); have n1_ := Zb.mk (Kd.ZG (Kd.R_new' ho0 (Kd.R_lt (by (with_reducible repeat first | apply Kd.Zm | apply Kd.Zo); exact HO103.out))) (Zi (by repeat (with_reducible first | exact HB.out | apply Zc | apply Za | apply Zd)))); have n2_ := Zb.mk (Zl (by repeat (with_reducible first | exact HB.out | apply Zc | apply Za | apply Zd)) hb); clear HO103; clear HB; have HO103 := n0_; have HO106 := n1_; have HB := n2_; clear n0_ n1_ n2_; (try clear hb); (try clear hb2); (try clear hk); (try clear hi); (try clear ho0); obtain ⟨Ao19, co19, eo19⟩ := Kd.Zy HO103.out; subst eo19; obtain ⟨Ao20, co20, eo20⟩ := Kd.Zy HO106.out; subst eo20))
   repeat (go_quiet (first | (go_at_call 53; (with_reducible refine (r00NatTrim.calls k _ _ l0 t101 _ ?side1 ?side2 A3.out).mono ?_); (case side1 => repeat (first | exact HR0.out | (with_reducible refine Kd.ZC ?_ _) | (with_reducible refine Kd.ZF ?_ _) | (with_reducible refine Kd.ZN ?_))); (case side2 => exact HC0.out); rintro e w17 ⟨v102, rfl, ho0, hb⟩; have n0_ := Zb.mk (Kd.ZG ho0 (Zi (by repeat (with_reducible first | exact HB.out | apply Zc | apply Za | apply Zd)))); have n1_ := Zb.mk (Zl (by repeat (with_reducible first | exact HB.out | apply Zc | apply Za | apply Zd)) hb); clear HB; have HO103 := n0_; have HB := n1_; clear n0_ n1_; (try clear hb); (try clear hb2); (try clear hk); (try clear hi); (try clear ho0)) | (go_at_call 53; (with_reducible refine (r00NatTrim.calls k _ _ l1 t104 _ ?side1 ?side2 A4.out).mono ?_); (case side1 => repeat (first | exact (Kd.C_below HR1.out HB.out) | (with_reducible refine Kd.ZC ?_ _) | (with_reducible refine Kd.ZF ?_ _) | (with_reducible refine Kd.ZN ?_))); (case side2 => exact HC1.out); rintro e w18 ⟨v105, rfl, ho0, hb⟩; have n0_ := Zb.mk (Kd.ZJ (by (with_reducible repeat first | apply Kd.Zm | apply Kd.Zo); exact HO103.out) (Kd.ZV ho0) hb); have n1_ := Zb.mk (Kd.ZG (Kd.R_new' ho0 (Kd.R_lt (by (with_reducible repeat first | apply Kd.Zm | apply Kd.Zo); exact HO103.out))) (Zi (by repeat (with_reducible first | exact HB.out | apply Zc | apply Za | apply Zd)))); have n2_ := Zb.mk (Zl (by repeat (with_reducible first | exact HB.out | apply Zc | apply Za | apply Zd)) hb); clear HO103; clear HB; have HO103 := n0_; have HO106 := n1_; have HB := n2_; clear n0_ n1_ n2_; (try clear hb); (try clear hb2); (try clear hk); (try clear hi); (try clear ho0); obtain ⟨Ao19, co19, eo19⟩ := Kd.Zy HO103.out; subst eo19; obtain ⟨Ao20, co20, eo20⟩ := Kd.Zy HO106.out; subst eo20)); try go_wp2_with (first | (go_at_call 53; (with_reducible refine (r00NatTrim.calls k _ _ l0 t101 _ ?side1 ?side2 A3.out).mono ?_); (case side1 => repeat (first | exact HR0.out | (with_reducible refine Kd.ZC ?_ _) | (with_reducible refine Kd.ZF ?_ _) | (with_reducible refine Kd.ZN ?_))); (case side2 => exact HC0.out); rintro e w17 ⟨v102, rfl, ho0, hb⟩; have n0_ := Zb.mk (Kd.ZG ho0 (Zi (by repeat (with_reducible first | exact HB.out | apply Zc | apply Za | apply Zd)))); have n1_ := Zb.mk (Zl (by repeat (with_reducible first | exact HB.out | apply Zc | apply Za | apply Zd)) hb); clear HB; have HO103 := n0_; have HB := n1_; clear n0_ n1_; (try clear hb); (try clear hb2); (try clear hk); (try clear hi); (try clear ho0)) | (go_at_call 53; (with_reducible refine (r00NatTrim.calls k _ _ l1 t104 _ ?side1 ?side2 A4.out).mono ?_); (case side1 => repeat (first | exact (Kd.C_below HR1.out HB.out) | (with_reducible refine Kd.ZC ?_ _) | (with_reducible refine Kd.ZF ?_ _) | (with_reducible refine Kd.ZN ?_))); (case side2 => exact HC1.out); rintro e w18 ⟨v105, rfl, ho0, hb⟩; have n0_ := Zb.mk (Kd.ZJ (by (with_reducible repeat first | apply Kd.Zm | apply Kd.Zo); exact HO103.out) (Kd.ZV ho0) hb); have n1_ := Zb.mk (Kd.ZG (Kd.R_new' ho0 (Kd.R_lt (by (with_reducible repeat first | apply Kd.Zm | apply Kd.Zo); exact HO103.out))) (Zi (by repeat (with_reducible first | exact HB.out | apply Zc | apply Za | apply Zd)))); have n2_ := Zb.mk (Zl (by repeat (with_reducible first | exact HB.out | apply Zc | apply Za | apply Zd)) hb); clear HO103; clear HB; have HO103 := n0_; have HO106 := n1_; have HB := n2_; clear n0_ n1_ n2_; (try clear hb); (try clear hb2); (try clear hk); (try clear hi); (try clear ho0); obtain ⟨Ao19, co19, eo19⟩ := Kd.Zy HO103.out; subst eo19; obtain ⟨Ao20, co20, eo20⟩ := Kd.Zy HO106.out; subst eo20)))
   go_ret
   exact ⟨by first | rfl | (simp [errW_none, errW_some] <;> rfl) | (simp [*, errW_none, errW_some] <;> rfl), by repeat (with_reducible first | exact HB.out | apply Zc | apply Za | apply Zd)⟩
  ·rw [if_neg c16] at H
   have c16b0 : decide ((t101.length : Int) < (t104.length : Int)) = false := decide_eq_false c16
   have c16b1 : decide (t101.length < t104.length) = false := decide_eq_false (fun h => c16 (Int.ofNat_lt.mpr h))
   clear c16
   obtain rfl := Option.some.inj H
   go_enter Try.func57, Try.ntmps57
   go_wp2_with (first | (go_at_call 53; (with_reducible refine (r00NatTrim.calls k _ _ l0 t101 _ ?side1 ?side2 A3.out).mono ?_); (case side1 => repeat (first | exact HR0.out | (with_reducible refine Kd.ZC ?_ _) | (with_reducible refine Kd.ZF ?_ _) | (with_reducible refine Kd.ZN ?_))); (case side2 => exact HC0.out); rintro e w21 ⟨v102, rfl, ho0, hb⟩; have n0_ := Zb.mk (Kd.ZG ho0 (Zi (by repeat (with_reducible first | exact HB.out | apply Zc | apply Za | apply Zd)))); have n1_ := Zb.mk (Zl (by repeat (with_reducible first | exact HB.out | apply Zc | apply Za | apply Zd)) hb); clear HB; have HO103 := n0_; have HB := n1_; clear n0_ n1_; (try clear hb); (try clear hb2); (try clear hk); (try clear hi); (try clear ho0)) | (go_at_call 53; (with_reducible refine (r00NatTrim.calls k _ _ l1 t104 _ ?side1 ?side2 A4.out).mono ?_); (case side1 => repeat (first | exact (Kd.C_below HR1.out HB.out) | (with_reducible refine Kd.ZC ?_ _) | (with_reducible refine Kd.ZF ?_ _) | (with_reducible refine Kd.ZN ?_))); (case side2 => exact HC1.out); rintro e w22 ⟨v105, rfl, ho0, hb⟩; have n0_ := Zb.mk (Kd.ZJ (by (with_reducible repeat first | apply Kd.Zm | apply Kd.Zo); exact HO103.out) (Kd.ZV ho0) hb); have n1_ := Zb.mk (Kd.ZG (Kd.R_new' ho0 (Kd.R_lt (by (with_reducible repeat first | apply Kd.Zm | apply Kd.Zo); exact HO103.out))) (Zi (by repeat (with_reducible first | exact HB.out | apply Zc | apply Za | apply Zd)))); have n2_ := Zb.mk (Zl (by repeat (with_reducible first | exact HB.out | apply Zc | apply Za | apply Zd)) hb); clear HO103; clear HB; have HO103 := n0_; have HO106 := n1_; have HB := n2_; clear n0_ n1_ n2_; (try clear hb); (try clear hb2); (try clear hk); (try clear hi); (try clear ho0); obtain ⟨Ao23, co23, eo23⟩ := Kd.Zy HO103.out; subst eo23; obtain ⟨Ao24, co24, eo24⟩ := Kd.Zy HO106.out; subst eo24))
   repeat (go_quiet (first | (go_at_call 53; (with_reducible refine (r00NatTrim.calls k _ _ l0 t101 _ ?side1 ?side2 A3.out).mono ?_); (case side1 => repeat (first | exact HR0.out | (with_reducible refine Kd.ZC ?_ _) | (with_reducible refine Kd.ZF ?_ _) | (with_reducible refine Kd.ZN ?_))); (case side2 => exact HC0.out); rintro e w21 ⟨v102, rfl, ho0, hb⟩; have n0_ := Zb.mk (Kd.ZG ho0 (Zi (by repeat (with_reducible first | exact HB.out | apply Zc | apply Za | apply Zd)))); have n1_ := Zb.mk (Zl (by repeat (with_reducible first | exact HB.out | apply Zc | apply Za | apply Zd)) hb); clear HB; have HO103 := n0_; have HB := n1_; clear n0_ n1_; (try clear hb); (try clear hb2); (try clear hk); (try clear hi); (try clear ho0)) | (go_at_call 53; (with_reducible refine (r00NatTrim.calls k _ _ l1 t104 _ ?side1 ?side2 A4.out).mono ?_); (case side1 => repeat (first | exact (Kd.C_below HR1.out HB.out) | (with_reducible refine Kd.ZC ?_ _) | (with_reducible refine Kd.ZF ?_ _) | (with_reducible refine Kd.ZN ?_))); (case side2 => exact HC1.out); rintro e w22 ⟨v105, rfl, ho0, hb⟩; have n0_ := Zb.mk (Kd.ZJ (by (with_reducible repeat first | apply Kd.Zm | apply Kd.Zo); exact HO103.out) (Kd.ZV ho0) hb); have n1_ := Zb.mk (Kd.ZG (Kd.R_new' ho0 (Kd.R_lt (by (with_reducible repeat first | apply Kd.Zm | apply Kd.Zo); exact HO103.out))) (Zi (by repeat (with_reducible first | exact HB.out | apply Zc | apply Za | apply Zd)))); have n2_ := Zb.mk (Zl (by repeat (with_reducible first | exact HB.out | apply Zc | apply Za | apply Zd)) hb); clear HO103; clear HB; have HO103 := n0_; have HO106 := n1_; have HB := n2_; clear n0_ n1_ n2_; (try clear hb); (try clear hb2); (try clear hk); (try clear hi); (try clear ho0); obtain ⟨Ao23, co23, eo23⟩ := Kd.Zy HO103.out; subst eo23; obtain ⟨Ao24, co24, eo24⟩ := Kd.Zy HO106.out; subst eo24)); try go_wp2_with (first | (go_at_call 53; (with_reducible refine (r00NatTrim.calls k _ _ l0 t101 _ ?side1 ?side2 A3.out).mono ?_); (case side1 => repeat (first | exact HR0.out | (with_reducible refine Kd.ZC ?_ _) | (with_reducible refine Kd.ZF ?_ _) | (with_reducible refine Kd.ZN ?_))); (case side2 => exact HC0.out); rintro e w21 ⟨v102, rfl, ho0, hb⟩; have n0_ := Zb.mk (Kd.ZG ho0 (Zi (by repeat (with_reducible first | exact HB.out | apply Zc | apply Za | apply Zd)))); have n1_ := Zb.mk (Zl (by repeat (with_reducible first | exact HB.out | apply Zc | apply Za | apply Zd)) hb); clear HB; have HO103 := n0_; have HB := n1_; clear n0_ n1_; (try clear hb); (try clear hb2); (try clear hk); (try clear hi); (try clear ho0)) | (go_at_call 53; (with_reducible refine (r00NatTrim.calls k _ _ l1 t104 _ ?side1 ?side2 A4.out).mono ?_); (case side1 => repeat (first | exact (Kd.C_below HR1.out HB.out) | (with_reducible refine Kd.ZC ?_ _) | (with_reducible refine Kd.ZF ?_ _) | (with_reducible refine Kd.ZN ?_))); (case side2 => exact HC1.out); rintro e w22 ⟨v105, rfl, ho0, hb⟩; have n0_ := Zb.mk (Kd.ZJ (by (with_reducible repeat first | apply Kd.Zm | apply Kd.Zo); exact HO103.out) (Kd.ZV ho0) hb); have n1_ := Zb.mk (Kd.ZG (Kd.R_new' ho0 (Kd.R_lt (by (with_reducible repeat first | apply Kd.Zm | apply Kd.Zo); exact HO103.out))) (Zi (by repeat (with_reducible first | exact HB.out | apply Zc | apply Za | apply Zd)))); have n2_ := Zb.mk (Zl (by repeat (with_reducible first | exact HB.out | apply Zc | apply Za | apply Zd)) hb); clear HO103; clear HB; have HO103 := n0_; have HO106 := n1_; have HB := n2_; clear n0_ n1_ n2_; (try clear hb); (try clear hb2); (try clear hk); (try clear hi); (try clear ho0); obtain ⟨Ao23, co23, eo23⟩ := Kd.Zy HO103.out; subst eo23; obtain ⟨Ao24, co24, eo24⟩ := Kd.Zy HO106.out; subst eo24)))
   go_ret
   exact ⟨by first | rfl | (simp [errW_none, errW_some] <;> rfl) | (simp [*, errW_none, errW_some] <;> rfl), by repeat (with_reducible first | exact HB.out | apply Zc | apply Za | apply Zd)⟩
def r00NatSub.l0 : Nat → List Int → List Int → List Int → Int → Int → Option (List Int)
 | 0, _, _, _, _, _ => none
 | k + 1, x5, x6, x7, x8, x9 => if x9 < (x5.length : Int) then (if 0 ≤ x9 then ((r00digit.f x6 x9).bind fun t118 => (if x7.length < 17592186044416 then (r00NatSub.l0 k x5 x6 (x7 ++ [Int.tmod (IntKind.u64.wrap ((IntKind.u64.wrap ((IntKind.u64.wrap (4294967296 + (rd x5 x9))) - t118)) - x8)) 4294967296]) (IntKind.u64.wrap (1 - (IntKind.u64.wrap (Int.tdiv (IntKind.u64.wrap ((IntKind.u64.wrap ((IntKind.u64.wrap (4294967296 + (rd x5 x9))) - t118)) - x8)) 4294967296)))) (wrap64 (x9 + 1))) else (none))) else (none)) else ((r00limbs.f k x7).bind fun t122 => (some t122))
def r00NatSub.f (k : Nat) (l0 : List Int) (l1 : List Int) : Option (List Int) := (r00halves.f k l0).bind fun t111 => ((r00halves.f k l1).bind fun t114 => (r00NatSub.l0 k t111 t114 ([] : List Int) 0 0))
set_option maxHeartbeats 8000000 in
set_option maxRecDepth 100000 in
theorem r00NatSub.calls (k : Nat) (A0 : Option Addr) (c0 : Nat) (l0 : List Int) (A1 : Option Addr) (c1 : Nat) (l1 : List Int) (r : List Int) (w : World) (hr0 : Kd.C (Kd.int .u64) w A0 l0.length l0) (hc0 : l0.length ≤ c0) (hr1 : Kd.C (Kd.int .u64) w A1 l1.length l1) (hc1 : l1.length ≤ c1) (h : r00NatSub.f k l0 l1 = some r) :
  Calls Try.prog 58 #[.slice A0 l0.length c0, .slice A1 l1.length c1] w fun e w' => ∃ v0_ : Value, e = .returned (v0_) ∧ Kd.R (Kd.int .u64) 46 w' w.heap.size (fun _ => True) v0_ r ∧ Below w.heap.size w w' := by
 have HR0 := Zb.mk hr0
 have HC0 := Zb.mk hc0
 clear hr0 hc0
 have HR1 := Zb.mk hr1
 have HC1 := Zb.mk hc1
 clear hr1 hc1
 have HB := Zb.mk (Below.refl w.heap.size w)
 have H : ((r00halves.f k l0).bind fun t111 => ((r00halves.f k l1).bind fun t114 => (r00NatSub.l0 k t111 t114 ([] : List Int) 0 0))) = some r := h
 clear h
 replace H := Option.bind_eq_some_iff.mp H
 obtain ⟨t111, A30, H⟩ := H
 replace H : ((r00halves.f k l1).bind fun t114 => (r00NatSub.l0 k t111 t114 ([] : List Int) 0 0)) = some r := H
 have A3 := Zb.mk A30
 clear A30
 replace H := Option.bind_eq_some_iff.mp H
 obtain ⟨t114, A40, H⟩ := H
 replace H : (r00NatSub.l0 k t111 t114 ([] : List Int) 0 0) = some r := H
 have A4 := Zb.mk A40
 clear A40
 have H' := Zb.mk H
 clear H
 go_enter Try.func58, Try.ntmps58
 go_wp2_with (first | (go_at_call 91; (with_reducible refine (r00halves.calls k _ _ l0 t111 _ ?side1 ?side2 A3.out).mono ?_); (case side1 => repeat (first | exact HR0.out | (with_reducible refine Kd.ZC ?_ _) | (with_reducible refine Kd.ZF ?_ _) | (with_reducible refine Kd.ZN ?_))); (case side2 => exact HC0.out); rintro e w5 ⟨v112, rfl, ho0, hb⟩; have n0_ := Zb.mk (Kd.ZG ho0 (Zi (by repeat (with_reducible first | exact HB.out | apply Zc | apply Za | apply Zd)))); have n1_ := Zb.mk (Zl (by repeat (with_reducible first | exact HB.out | apply Zc | apply Za | apply Zd)) hb); clear HB; have HO113 := n0_; have HB := n1_; clear n0_ n1_; (try clear hb); (try clear hb2); (try clear hk); (try clear hi); (try clear ho0)) | (go_at_call 91; (with_reducible refine (r00halves.calls k _ _ l1 t114 _ ?side1 ?side2 A4.out).mono ?_); (case side1 => repeat (first | exact (Kd.C_below HR1.out HB.out) | (with_reducible refine Kd.ZC ?_ _) | (with_reducible refine Kd.ZF ?_ _) | (with_reducible refine Kd.ZN ?_))); (case side2 => exact HC1.out); rintro e w6 ⟨v115, rfl, ho0, hb⟩; have n0_ := Zb.mk (Kd.ZJ (by (with_reducible repeat first | apply Kd.Zm | apply Kd.Zo); exact HO113.out) (Kd.ZV ho0) hb); have n1_ := Zb.mk (Kd.ZG (Kd.R_new' ho0 (Kd.R_lt (by (with_reducible repeat first | apply Kd.Zm | apply Kd.Zo); exact HO113.out))) (Zi (by repeat (with_reducible first | exact HB.out | apply Zc | apply Za | apply Zd)))); have n2_ := Zb.mk (Zl (by repeat (with_reducible first | exact HB.out | apply Zc | apply Za | apply Zd)) hb); clear HO113; clear HB; have HO113 := n0_; have HO116 := n1_; have HB := n2_; clear n0_ n1_ n2_; (try clear hb); (try clear hb2); (try clear hk); (try clear hi); (try clear ho0)))
 repeat (go_quiet (first | (go_at_call 91; (with_reducible refine (r00halves.calls k _ _ l0 t111 _ ?side1 ?side2 A3.out).mono ?_); (case side1 => repeat (first | exact HR0.out | (with_reducible refine Kd.ZC ?_ _) | (with_reducible refine Kd.ZF ?_ _) | (with_reducible refine Kd.ZN ?_))); (case side2 => exact HC0.out); rintro e w5 ⟨v112, rfl, ho0, hb⟩; have n0_ := Zb.mk (Kd.ZG ho0 (Zi (by repeat (with_reducible first | exact HB.out | apply Zc | apply Za | apply Zd)))); have n1_ := Zb.mk (Zl (by repeat (with_reducible first | exact HB.out | apply Zc | apply Za | apply Zd)) hb); clear HB; have HO113 := n0_; have HB := n1_; clear n0_ n1_; (try clear hb); (try clear hb2); (try clear hk); (try clear hi); (try clear ho0)) | (go_at_call 91; (with_reducible refine (r00halves.calls k _ _ l1 t114 _ ?side1 ?side2 A4.out).mono ?_); (case side1 => repeat (first | exact (Kd.C_below HR1.out HB.out) | (with_reducible refine Kd.ZC ?_ _) | (with_reducible refine Kd.ZF ?_ _) | (with_reducible refine Kd.ZN ?_))); (case side2 => exact HC1.out); rintro e w6 ⟨v115, rfl, ho0, hb⟩; have n0_ := Zb.mk (Kd.ZJ (by (with_reducible repeat first | apply Kd.Zm | apply Kd.Zo); exact HO113.out) (Kd.ZV ho0) hb); have n1_ := Zb.mk (Kd.ZG (Kd.R_new' ho0 (Kd.R_lt (by (with_reducible repeat first | apply Kd.Zm | apply Kd.Zo); exact HO113.out))) (Zi (by repeat (with_reducible first | exact HB.out | apply Zc | apply Za | apply Zd)))); have n2_ := Zb.mk (Zl (by repeat (with_reducible first | exact HB.out | apply Zc | apply Za | apply Zd)) hb); clear HO113; clear HB; have HO113 := n0_; have HO116 := n1_; have HB := n2_; clear n0_ n1_ n2_; (try clear hb); (try clear hb2); (try clear hk); (try clear hi); (try clear ho0))); try go_wp2_with (first | (go_at_call 91; (with_reducible refine (r00halves.calls k _ _ l0 t111 _ ?side1 ?side2 A3.out).mono ?_); (case side1 => repeat (first | exact HR0.out | (with_reducible refine Kd.ZC ?_ _) | (with_reducible refine Kd.ZF ?_ _) | (with_reducible refine Kd.ZN ?_))); (case side2 => exact HC0.out); rintro e w5 ⟨v112, rfl, ho0, hb⟩; have n0_ := Zb.mk (Kd.ZG ho0 (Zi (by repeat (with_reducible first | exact HB.out | apply Zc | apply Za | apply Zd)))); have n1_ := Zb.mk (Zl (by repeat (with_reducible first | exact HB.out | apply Zc | apply Za | apply Zd)) hb); clear HB; have HO113 := n0_; have HB := n1_; clear n0_ n1_; (try clear hb); (try clear hb2); (try clear hk); (try clear hi); (try clear ho0)) | (go_at_call 91; (with_reducible refine (r00halves.calls k _ _ l1 t114 _ ?side1 ?side2 A4.out).mono ?_); (case side1 => repeat (first | exact (Kd.C_below HR1.out HB.out) | (with_reducible refine Kd.ZC ?_ _) | (with_reducible refine Kd.ZF ?_ _) | (with_reducible refine Kd.ZN ?_))); (case side2 => exact HC1.out); rintro e w6 ⟨v115, rfl, ho0, hb⟩; have n0_ := Zb.mk (Kd.ZJ (by (with_reducible repeat first | apply Kd.Zm | apply Kd.Zo); exact HO113.out) (Kd.ZV ho0) hb); have n1_ := Zb.mk (Kd.ZG (Kd.R_new' ho0 (Kd.R_lt (by (with_reducible repeat first | apply Kd.Zm | apply Kd.Zo); exact HO113.out))) (Zi (by repeat (with_reducible first | exact HB.out | apply Zc | apply Za | apply Zd)))); have n2_ := Zb.mk (Zl (by repeat (with_reducible first | exact HB.out | apply Zc | apply Za | apply Zd)) hb); clear HO113; clear HB; have HO113 := n0_; have HO116 := n1_; have HB := n2_; clear n0_ n1_ n2_; (try clear hb); (try clear hb2); (try clear hk); (try clear hi); (try clear ho0))))
 go_loopg [7, 8, 9] k (fun kq v7 v8 v9 w' => ∃ (x7_1 : List Int) (x8_1 : Int) (x9_1 : Int), v8 = .int .u64 x8_1 ∧ v9 = .int .i64 x9_1 ∧ Zb (r00NatSub.l0 kq t111 t114 x7_1 x8_1 x9_1 = some r) ∧ Zb (kq ≤ k) ∧ Zb (Kd.R (Kd.int .u64) 46 w' w.heap.size (fun k_ => some k_ ≠ (v115 : Value).ownBlock ∧ some k_ ≠ (v7 : Value).ownBlock) v112 t111) ∧ Zb (Kd.R (Kd.int .u64) 46 w' w.heap.size (fun k_ => some k_ ≠ (v112 : Value).ownBlock ∧ some k_ ≠ (v7 : Value).ownBlock) v115 t114) ∧ Zb (Kd.R (Kd.int .u64) 46 w' w.heap.size (fun k_ => some k_ ≠ (v112 : Value).ownBlock ∧ some k_ ≠ (v115 : Value).ownBlock) v7 x7_1) ∧ Zb (Below w.heap.size w w'))
 case atStart => exact ⟨(([] : List Int)), (0), (0), (by first | rfl | (simp; done) | (simp [*]; done)), (by first | rfl | (simp; done) | (simp [*]; done)), H', ⟨Nat.le_refl _⟩, ⟨by (with_reducible repeat first | apply Kd.Zm | apply Kd.Zo); exact Kd.ZE HO113.out (fun _ hk => ⟨hk.2, (by simp [Value.ownBlock])⟩)⟩, ⟨by (with_reducible repeat first | apply Kd.Zm | apply Kd.Zo); exact Kd.ZE HO116.out (fun _ hk => ⟨hk.2, (by simp [Value.ownBlock])⟩)⟩, ⟨by first | exact Kd.R_nil _ _ _ _ _ | exact Kd.V_nil _ _ _ _ _ | exact Kd.S_nil _ _ _ _ _⟩, ⟨by repeat (with_reducible first | exact HB.out | apply Zc | apply Za | apply Zd)⟩⟩
 case round =>
  clear H'
  try clear c1
  try clear p2
  try clear c5
  obtain ⟨x7_1, x8_1, x9_1, rfl, rfl, HA, HK1, HO_5, HO_6, HO_7, HB⟩ := hrel
  cases gk with
  | zero => exact absurd HA.out (by simp [r00NatSub.l0])
  | succ k1 =>
   have H := HA.out
   clear HA
   simp only [r00NatSub.l0] at H
   by_cases c7 : x9_1 < (t111.length : Int)
   ·rw [if_pos c7] at H
    have c7b0 : decide (x9_1 < (t111.length : Int)) = true := decide_eq_true c7
    clear c7
    by_cases c8 : 0 ≤ x9_1
    ·rw [if_pos c8] at H
     have c8b0 : decide (0 ≤ x9_1) = true := decide_eq_true c8
     clear c8
     replace H := Option.bind_eq_some_iff.mp H
     obtain ⟨t118, A90, H⟩ := H
     replace H : (if x7_1.length < 17592186044416 then (r00NatSub.l0 k1 t111 t114 (x7_1 ++ [Int.tmod (IntKind.u64.wrap ((IntKind.u64.wrap ((IntKind.u64.wrap (4294967296 + (rd t111 x9_1))) - t118)) - x8_1)) 4294967296]) (IntKind.u64.wrap (1 - (IntKind.u64.wrap (Int.tdiv (IntKind.u64.wrap ((IntKind.u64.wrap ((IntKind.u64.wrap (4294967296 + (rd t111 x9_1))) - t118)) - x8_1)) 4294967296)))) (wrap64 (x9_1 + 1))) else (none)) = some r := H
     have A9 := Zb.mk A90
     clear A90
     by_cases c10 : x7_1.length < 17592186044416
     ·rw [if_pos c10] at H
      have LMc10 := Zb.mk c10
      clear c10
      obtain ⟨y119, hy119⟩ : ∃ y_ : List Int, y_ = (x7_1 ++ [Int.tmod (IntKind.u64.wrap ((IntKind.u64.wrap ((IntKind.u64.wrap (4294967296 + (rd t111 x9_1))) - t118)) - x8_1)) 4294967296]) := ⟨_, rfl⟩
      replace H : (r00NatSub.l0 k1 t111 t114 y119 (IntKind.u64.wrap (1 - (IntKind.u64.wrap (Int.tdiv (IntKind.u64.wrap ((IntKind.u64.wrap ((IntKind.u64.wrap (4294967296 + (rd t111 x9_1))) - t118)) - x8_1)) 4294967296)))) (wrap64 (x9_1 + 1))) = some r := by first | (rw [hy119]; with_reducible exact H) | (have H2_ := (Option.bind_some _ _).symm.trans H; rw [hy119]; with_reducible exact H2_) | (have H2_ := (Option.bind_some _ _).symm.trans H; with_reducible exact H2_) | with_reducible exact H | (rw [hy119]; exact H) | exact H
      have Ny119 := Zb.mk hy119
      clear hy119
      have H' := Zb.mk H
      clear H
      obtain ⟨Ao11, co11, eo11⟩ := Kd.Zy HO_5.out
      subst eo11
      have p117 : 0 ≤ (x9_1 : Int) := of_decide_eq_true (by first | (with_reducible assumption) | assumption)
      have q117 : x9_1 < (t111.length : Int) := of_decide_eq_true (by first | (with_reducible assumption) | assumption)
      obtain ⟨ad117, e117, hx117_0⟩ := Kd.at_int (Kd.Zv HO_5.out).2.2 x9_1 p117 q117
      cases e117
      replace p117 := eq_true p117
      replace q117 := eq_true q117
      obtain ⟨Ao12, co12, eo12⟩ := Kd.Zy HO_6.out
      subst eo12
      go_wp2_with (first | (go_at_call 93; (with_reducible refine (r00digit.calls _ _ t114 x9_1 t118 _ ?side1 ?side2 A9.out).mono ?_); (case side1 => repeat (first | exact (Kd.Zv HO_6.out).2.2 | (with_reducible refine Kd.ZC ?_ _) | (with_reducible refine Kd.ZF ?_ _) | (with_reducible refine Kd.ZN ?_))); (case side2 => exact (Kd.Zv HO_6.out).2.1); rintro e w' ⟨rfl, ⟨nd, rfl⟩⟩; (try first | exact ⟨rfl, _, World.drewN_drewN _ _ _⟩ | exact ⟨rfl, _, Eq.trans (World.drewN_drewN _ _ _) (congrArg (World.drewN _) (Nat.add_assoc _ _ _))⟩)) | ((with_reducible refine gate_builtin (b := .append) (xs := #[.tmp 32, .tmp 35]) rfl ?_); at_builtin; refine Kd.R_append (Kd.int .u64) (w0 := w) w.heap.size rfl (.tmp 32) (.tmp 35) 22 46 (.int .u64 0) 8 rfl Try.underlying22 info46 rfl (by decide) (by omega) u7 x7_1 (Int.tmod (IntKind.u64.wrap ((IntKind.u64.wrap ((IntKind.u64.wrap (4294967296 + (rd t111 x9_1))) - t118)) - x8_1)) 4294967296) [.int .u64 (Int.tmod (IntKind.u64.wrap ((IntKind.u64.wrap ((IntKind.u64.wrap (4294967296 + (rd t111 x9_1))) - t118)) - x8_1)) 4294967296)] (fun k_ => some k_ ≠ (.slice (some ad117) t111.length co11 : Value).ownBlock ∧ some k_ ≠ (.slice Ao12 t114.length co12 : Value).ownBlock) (fun _ => False) rfl rfl ?aP (fun _ hk => hk.elim) ?aF ?aO ?aB ?aS ?aL ?_; (case aP => exact rfl); (case aB => exact (by repeat (with_reducible first | exact HB.out | apply Zc | apply Za | apply Zd))); (case aF => exact (fun k_ hk => ⟨Kd.fresh' (Kd.R_lt (by (with_reducible repeat first | apply Kd.Zm | apply Kd.Zo); exact HO_5.out)) k_ hk, Kd.fresh' (Kd.R_lt (by (with_reducible repeat first | apply Kd.Zm | apply Kd.Zo); exact HO_6.out)) k_ hk⟩)); (case aO => exact (by (with_reducible repeat first | apply Kd.Zm | apply Kd.Zo); exact HO_7.out)); (case aS => exact (Zi (by repeat (with_reducible first | exact HB.out | apply Zc | apply Za | apply Zd)))); (case aL => have := LMc10.out; omega); intro v120 w13 ho hb hg hat; rw [← Ny119.out] at ho; have n0_ := Zb.mk (Kd.R_after (ok := (fun k_ => some k_ ≠ (.slice Ao12 t114.length co12 : Value).ownBlock)) (by (with_reducible repeat first | apply Kd.Zm | apply Kd.Zo); exact HO_5.out) hg hat); have n1_ := Zb.mk (Kd.R_after (ok := (fun k_ => some k_ ≠ (.slice (some ad117) t111.length co11 : Value).ownBlock)) (by (with_reducible repeat first | apply Kd.Zm | apply Kd.Zo); exact HO_6.out) hg hat); have n2_ := Zb.mk (hb); have n3_ := Zb.mk (ho); clear HO_5; clear HO_6; clear HB; clear HO_7; have HO_5 := n0_; have HO_6 := n1_; have HB := n2_; have HO121 := n3_; clear n0_ n1_ n2_ n3_; clear ho hb hg hat))
      repeat (go_quiet (first | (go_at_call 93; (with_reducible refine (r00digit.calls _ _ t114 x9_1 t118 _ ?side1 ?side2 A9.out).mono ?_); (case side1 => repeat (first | exact (Kd.Zv HO_6.out).2.2 | (with_reducible refine Kd.ZC ?_ _) | (with_reducible refine Kd.ZF ?_ _) | (with_reducible refine Kd.ZN ?_))); (case side2 => exact (Kd.Zv HO_6.out).2.1); rintro e w' ⟨rfl, ⟨nd, rfl⟩⟩; (try first | exact ⟨rfl, _, World.drewN_drewN _ _ _⟩ | exact ⟨rfl, _, Eq.trans (World.drewN_drewN _ _ _) (congrArg (World.drewN _) (Nat.add_assoc _ _ _))⟩)) | ((with_reducible refine gate_builtin (b := .append) (xs := #[.tmp 32, .tmp 35]) rfl ?_); at_builtin; refine Kd.R_append (Kd.int .u64) (w0 := w) w.heap.size rfl (.tmp 32) (.tmp 35) 22 46 (.int .u64 0) 8 rfl Try.underlying22 info46 rfl (by decide) (by omega) u7 x7_1 (Int.tmod (IntKind.u64.wrap ((IntKind.u64.wrap ((IntKind.u64.wrap (4294967296 + (rd t111 x9_1))) - t118)) - x8_1)) 4294967296) [.int .u64 (Int.tmod (IntKind.u64.wrap ((IntKind.u64.wrap ((IntKind.u64.wrap (4294967296 + (rd t111 x9_1))) - t118)) - x8_1)) 4294967296)] (fun k_ => some k_ ≠ (.slice (some ad117) t111.length co11 : Value).ownBlock ∧ some k_ ≠ (.slice Ao12 t114.length co12 : Value).ownBlock) (fun _ => False) rfl rfl ?aP (fun _ hk => hk.elim) ?aF ?aO ?aB ?aS ?aL ?_; (case aP => exact rfl); (case aB => exact (by repeat (with_reducible first | exact HB.out | apply Zc | apply Za | apply Zd))); (case aF => exact (fun k_ hk => ⟨Kd.fresh' (Kd.R_lt (by (with_reducible repeat first | apply Kd.Zm | apply Kd.Zo); exact HO_5.out)) k_ hk, Kd.fresh' (Kd.R_lt (by (with_reducible repeat first | apply Kd.Zm | apply Kd.Zo); exact HO_6.out)) k_ hk⟩)); (case aO => exact (by (with_reducible repeat first | apply Kd.Zm | apply Kd.Zo); exact HO_7.out)); (case aS => exact (Zi (by repeat (with_reducible first | exact HB.out | apply Zc | apply Za | apply Zd)))); (case aL => have := LMc10.out; omega); intro v120 w13 ho hb hg hat; rw [← Ny119.out] at ho; have n0_ := Zb.mk (Kd.R_after (ok := (fun k_ => some k_ ≠ (.slice Ao12 t114.length co12 : Value).ownBlock)) (by (with_reducible repeat first | apply Kd.Zm | apply Kd.Zo); exact HO_5.out) hg hat); have n1_ := Zb.mk (Kd.R_after (ok := (fun k_ => some k_ ≠ (.slice (some ad117) t111.length co11 : Value).ownBlock)) (by (with_reducible repeat first | apply Kd.Zm | apply Kd.Zo); exact HO_6.out) hg hat); have n2_ := Zb.mk (hb); have n3_ := Zb.mk (ho); clear HO_5; clear HO_6; clear HB; clear HO_7; have HO_5 := n0_; have HO_6 := n1_; have HB := n2_; have HO121 := n3_; clear n0_ n1_ n2_ n3_; clear ho hb hg hat)); try go_wp2_with (first | (go_at_call 93; (with_reducible refine (r00digit.calls _ _ t114 x9_1 t118 _ ?side1 ?side2 A9.out).mono ?_); (case side1 => repeat (first | exact (Kd.Zv HO_6.out).2.2 | (with_reducible refine Kd.ZC ?_ _) | (with_reducible refine Kd.ZF ?_ _) | (with_reducible refine Kd.ZN ?_))); (case side2 => exact (Kd.Zv HO_6.out).2.1); rintro e w' ⟨rfl, ⟨nd, rfl⟩⟩; (try first | exact ⟨rfl, _, World.drewN_drewN _ _ _⟩ | exact ⟨rfl, _, Eq.trans (World.drewN_drewN _ _ _) (congrArg (World.drewN _) (Nat.add_assoc _ _ _))⟩)) | ((with_reducible refine gate_builtin (b := .append) (xs := #[.tmp 32, .tmp 35]) rfl ?_); at_builtin; refine Kd.R_append (Kd.int .u64) (w0 := w) w.heap.size rfl (.tmp 32) (.tmp 35) 22 46 (.int .u64 0) 8 rfl Try.underlying22 info46 rfl (by decide) (by omega) u7 x7_1 (Int.tmod (IntKind.u64.wrap ((IntKind.u64.wrap ((IntKind.u64.wrap (4294967296 + (rd t111 x9_1))) - t118)) - x8_1)) 4294967296) [.int .u64 (Int.tmod (IntKind.u64.wrap ((IntKind.u64.wrap ((IntKind.u64.wrap (4294967296 + (rd t111 x9_1))) - t118)) - x8_1)) 4294967296)] (fun k_ => some k_ ≠ (.slice (some ad117) t111.length co11 : Value).ownBlock ∧ some k_ ≠ (.slice Ao12 t114.length co12 : Value).ownBlock) (fun _ => False) rfl rfl ?aP (fun _ hk => hk.elim) ?aF ?aO ?aB ?aS ?aL ?_; (case aP => exact rfl); (case aB => exact (by repeat (with_reducible first | exact HB.out | apply Zc | apply Za | apply Zd))); (case aF => exact (fun k_ hk => ⟨Kd.fresh' (Kd.R_lt (by (with_reducible repeat first | apply Kd.Zm | apply Kd.Zo); exact HO_5.out)) k_ hk, Kd.fresh' (Kd.R_lt (by (with_reducible repeat first | apply Kd.Zm | apply Kd.Zo); exact HO_6.out)) k_ hk⟩)); (case aO => exact (by (with_reducible repeat first | apply Kd.Zm | apply Kd.Zo); exact HO_7.out)); (case aS => exact (Zi (by repeat (with_reducible first | exact HB.out | apply Zc | apply Za | apply Zd)))); (case aL => have := LMc10.out; omega); intro v120 w13 ho hb hg hat; rw [← Ny119.out] at ho; have n0_ := Zb.mk (Kd.R_after (ok := (fun k_ => some k_ ≠ (.slice Ao12 t114.length co12 : Value).ownBlock)) (by (with_reducible repeat first | apply Kd.Zm | apply Kd.Zo); exact HO_5.out) hg hat); have n1_ := Zb.mk (Kd.R_after (ok := (fun k_ => some k_ ≠ (.slice (some ad117) t111.length co11 : Value).ownBlock)) (by (with_reducible repeat first | apply Kd.Zm | apply Kd.Zo); exact HO_6.out) hg hat); have n2_ := Zb.mk (hb); have n3_ := Zb.mk (ho); clear HO_5; clear HO_6; clear HB; clear HO_7; have HO_5 := n0_; have HO_6 := n1_; have HB := n2_; have HO121 := n3_; clear n0_ n1_ n2_ n3_; clear ho hb hg hat)))
      go_roundg k1
      case measure => have := HK1.out; omega
      case rel => exact ⟨(y119), (IntKind.u64.wrap (1 - (IntKind.u64.wrap (Int.tdiv (IntKind.u64.wrap ((IntKind.u64.wrap ((IntKind.u64.wrap (4294967296 + (rd t111 x9_1))) - t118)) - x8_1)) 4294967296)))), (wrap64 (x9_1 + 1)), (by first | rfl | (simp; done) | (simp [*]; done)), (by first | rfl | (simp; done) | (simp [*]; done)), H', ⟨by have := HK1.out; omega⟩, ⟨by (with_reducible repeat first | apply Kd.Zm | apply Kd.Zo); exact HO_5.out⟩, ⟨by (with_reducible repeat first | apply Kd.Zm | apply Kd.Zo); exact HO_6.out⟩, ⟨by (with_reducible repeat first | apply Kd.Zm | apply Kd.Zo); exact HO121.out⟩, ⟨by repeat (with_reducible first | exact HB.out | apply Zc | apply Za | apply Zd)⟩⟩
     ·rw [if_neg c10] at H
      exact absurd H (by simp)
    ·rw [if_neg c8] at H
     exact absurd H (by simp)
   ·rw [if_neg c7] at H
    have c7b0 : decide (x9_1 < (t111.length : Int)) = false := decide_eq_false c7
    clear c7
    replace H := Option.bind_eq_some_iff.mp H
    obtain ⟨t122, A140, H⟩ := H
    replace H : (some t122) = some r := H
    have A14 := Zb.mk A140
    clear A140
    obtain rfl := Option.some.inj H
    obtain ⟨Ao15, co15, eo15⟩ := Kd.Zy HO_5.out
    subst eo15
    obtain ⟨Ao16, co16, eo16⟩ := Kd.Zy HO_7.out
    subst eo16
    go_wp2_with (first | (go_at_call 92; (with_reducible refine (r00limbs.calls k1 _ _ x7_1 t122 _ ?side1 ?side2 A14.out).mono ?_); (case side1 => repeat (first | exact (Kd.Zv HO_7.out).2.2 | (with_reducible refine Kd.ZC ?_ _) | (with_reducible refine Kd.ZF ?_ _) | (with_reducible refine Kd.ZN ?_))); (case side2 => exact (Kd.Zv HO_7.out).2.1); rintro e w17 ⟨v123, rfl, ho0, hb⟩; have n0_ := Zb.mk (Kd.ZJ (by (with_reducible repeat first | apply Kd.Zm | apply Kd.Zo); exact HO_5.out) (Kd.ZV ho0) hb); have n1_ := Zb.mk (Kd.ZJ (by (with_reducible repeat first | apply Kd.Zm | apply Kd.Zo); exact HO_6.out) (Kd.ZV ho0) hb); have n2_ := Zb.mk (Kd.ZJ (by (with_reducible repeat first | apply Kd.Zm | apply Kd.Zo); exact HO_7.out) (Kd.ZV ho0) hb); have n3_ := Zb.mk (Kd.ZG (Kd.R_new' (Kd.R_new' (Kd.R_new' ho0 (Kd.R_lt (by (with_reducible repeat first | apply Kd.Zm | apply Kd.Zo); exact HO_5.out))) (Kd.R_lt (by (with_reducible repeat first | apply Kd.Zm | apply Kd.Zo); exact HO_6.out))) (Kd.R_lt (by (with_reducible repeat first | apply Kd.Zm | apply Kd.Zo); exact HO_7.out))) (Zi (by repeat (with_reducible first | exact HB.out | apply Zc | apply Za | apply Zd)))); have n4_ := Zb.mk (Zl (by repeat (with_reducible first | exact HB.out | apply Zc | apply Za | apply Zd)) hb); clear HO_5; clear HO_6; clear HO_7; clear HB; have HO_5 := n0_; have HO_6 := n1_; have HO_7 := n2_; have HO124 := n3_; have HB := n4_; clear n0_ n1_ n2_ n3_ n4_; (try clear hb); (try clear hb2); (try clear hk); (try clear hi); (try clear ho0)))
    repeat (go_quiet (first | (go_at_call 92; (with_reducible refine (r00limbs.calls k1 _ _ x7_1 t122 _ ?side1 ?side2 A14.out).mono ?_); (case side1 => repeat (first | exact (Kd.Zv HO_7.out).2.2 | (with_reducible refine Kd.ZC ?_ _) | (with_reducible refine Kd.ZF ?_ _) | (with_reducible refine Kd.ZN ?_))); (case side2 => exact (Kd.Zv HO_7.out).2.1); rintro e w17 ⟨v123, rfl, ho0, hb⟩; have n0_ := Zb.mk (Kd.ZJ (by (with_reducible repeat first | apply Kd.Zm | apply Kd.Zo); exact HO_5.out) (Kd.ZV ho0) hb); have n1_ := Zb.mk (Kd.ZJ (by (with_reducible repeat first | apply Kd.Zm | apply Kd.Zo); exact HO_6.out) (Kd.ZV ho0) hb); have n2_ := Zb.mk (Kd.ZJ (by (with_reducible repeat first | apply Kd.Zm | apply Kd.Zo); exact HO_7.out) (Kd.ZV ho0) hb); have n3_ := Zb.mk (Kd.ZG (Kd.R_new' (Kd.R_new' (Kd.R_new' ho0 (Kd.R_lt (by (with_reducible repeat first | apply Kd.Zm | apply Kd.Zo); exact HO_5.out))) (Kd.R_lt (by (with_reducible repeat first | apply Kd.Zm | apply Kd.Zo); exact HO_6.out))) (Kd.R_lt (by (with_reducible repeat first | apply Kd.Zm | apply Kd.Zo); exact HO_7.out))) (Zi (by repeat (with_reducible first | exact HB.out | apply Zc | apply Za | apply Zd)))); have n4_ := Zb.mk (Zl (by repeat (with_reducible first | exact HB.out | apply Zc | apply Za | apply Zd)) hb); clear HO_5; clear HO_6; clear HO_7; clear HB; have HO_5 := n0_; have HO_6 := n1_; have HO_7 := n2_; have HO124 := n3_; have HB := n4_; clear n0_ n1_ n2_ n3_ n4_; (try clear hb); (try clear hb2); (try clear hk); (try clear hi); (try clear ho0))); try go_wp2_with (first | (go_at_call 92; (with_reducible refine (r00limbs.calls k1 _ _ x7_1 t122 _ ?side1 ?side2 A14.out).mono ?_); (case side1 => repeat (first | exact (Kd.Zv HO_7.out).2.2 | (with_reducible refine Kd.ZC ?_ _) | (with_reducible refine Kd.ZF ?_ _) | (with_reducible refine Kd.ZN ?_))); (case side2 => exact (Kd.Zv HO_7.out).2.1); rintro e w17 ⟨v123, rfl, ho0, hb⟩; have n0_ := Zb.mk (Kd.ZJ (by (with_reducible repeat first | apply Kd.Zm | apply Kd.Zo); exact HO_5.out) (Kd.ZV ho0) hb); have n1_ := Zb.mk (Kd.ZJ (by (with_reducible repeat first | apply Kd.Zm | apply Kd.Zo); exact HO_6.out) (Kd.ZV ho0) hb); have n2_ := Zb.mk (Kd.ZJ (by (with_reducible repeat first | apply Kd.Zm | apply Kd.Zo); exact HO_7.out) (Kd.ZV ho0) hb); have n3_ := Zb.mk (Kd.ZG (Kd.R_new' (Kd.R_new' (Kd.R_new' ho0 (Kd.R_lt (by (with_reducible repeat first | apply Kd.Zm | apply Kd.Zo); exact HO_5.out))) (Kd.R_lt (by (with_reducible repeat first | apply Kd.Zm | apply Kd.Zo); exact HO_6.out))) (Kd.R_lt (by (with_reducible repeat first | apply Kd.Zm | apply Kd.Zo); exact HO_7.out))) (Zi (by repeat (with_reducible first | exact HB.out | apply Zc | apply Za | apply Zd)))); have n4_ := Zb.mk (Zl (by repeat (with_reducible first | exact HB.out | apply Zc | apply Za | apply Zd)) hb); clear HO_5; clear HO_6; clear HO_7; clear HB; have HO_5 := n0_; have HO_6 := n1_; have HO_7 := n2_; have HO124 := n3_; have HB := n4_; clear n0_ n1_ n2_ n3_ n4_; (try clear hb); (try clear hb2); (try clear hk); (try clear hi); (try clear ho0))))
    go_ret
    exact ⟨_, by first | rfl | (simp [errW_none, errW_some] <;> rfl) | (simp [*, errW_none, errW_some] <;> rfl), by (with_reducible repeat first | apply Kd.Zm | apply Kd.Zo); exact Kd.ZE HO124.out (fun _ hk => trivial), by repeat (with_reducible first | exact HB.out | apply Zc | apply Za | apply Zd)⟩
end Go.Proofs.Ytbmddlldadbfnaa.BE
end
section
namespace Go.Proofs.Ytbmddlldadbfnaa.BE
open Go.RowKit Go.Proofs.Ytbmddlldadbfnaa.BA Go.Proofs.Ytbmddlldadbfnaa.BB Go.Proofs.YtbmddlldadbfnaaW.PrintWords Go.Proofs.YtbmddlldadbfnaaW.PrintLast Go.Proofs.YtbmddlldadbfnaaW.PrintMore
attribute [local go_sem] ZU ZS max_two min_two ZP ZO ZT ZR
set_option linter.unusedVariables false
set_option linter.unusedSimpArgs false
def r00Plus.f : Nat → Bool → List Int → Int → Bool → List Int → Int → Option (Bool × List Int × Int)
 | 0, _, _, _, _, _, _ => none
 | k + 1, a0_0, l0_1, a0_2, a1_0, l1_1, a1_2 => (r00Num_Zero.f k a0_0 l0_1 a0_2).bind fun t128 => (if t128 = true then (none) else ((r00Num_Zero.f k a1_0 l1_1 a1_2).bind fun t129 => (if t129 = true then (none) else (if a0_2 > a1_2 then (none) else ((r00NatUp.f k l1_1 (wrap64 (a1_2 - a0_2))).bind fun t130 => (if (a0_0 == a1_0) = true then (none) else ((r00NatCmp.f k l0_1 t130).bind fun t133 => (if t133 ≥ 0 then ((r00NatSub.f k l0_1 t130).bind fun t134 => (some (a0_0, t134, a0_2))) else ((r00NatSub.f k t130 l0_1).bind fun t137 => (some (a1_0, t137, a0_2)))))))))))
def r00Plus.T7 : Bool × List (List Nat × List Nat) := (true, [([], []), ([0], [0]), ([], []), ([2], [2]), ([], []), ([4], [4]), ([], []), ([6], [6]), ([5, 7], [5, 7]), ([3, 8], [3, 8]), ([1, 9, 0, 1], [1]), ([9, 10, 0, 1, 2, 3, 4, 5, 6, 7, 8, 9, 10], [9])])
def r00Plus.B7 : List Nat := [0, 1, 0, 4, 0, 16, 0, 64, 240, 508, 1023, 2047]
theorem r00Plus.tab7 : rtab .any (opsOf Try.f24 7) = r00Plus.T7 := by kernel_rfl
theorem r00Plus.bits7 : waitsOk r00Plus.T7.2 r00Plus.B7 = true := by kernel_rfl
def r00Plus.T11 : Bool × List (List Nat × List Nat) := (true, [([], []), ([0], [0]), ([], []), ([], []), ([2, 3], [2, 3]), ([], []), ([5], [5]), ([1, 4, 6], [1, 4, 6]), ([7, 4, 0, 1, 2, 3, 4, 5, 6, 7], [7])])
def r00Plus.B11 : List Nat := [0, 1, 0, 0, 12, 0, 32, 127, 255]
theorem r00Plus.tab11 : rtab .any (opsOf Try.f24 11) = r00Plus.T11 := by kernel_rfl
theorem r00Plus.bits11 : waitsOk r00Plus.T11.2 r00Plus.B11 = true := by kernel_rfl
def r00Plus.T12 : Bool × List (List Nat × List Nat) := (true, [([], []), ([0], [0]), ([], []), ([], []), ([2, 3], [2, 3]), ([], []), ([5], [5]), ([1, 4, 6], [1, 4, 6]), ([7, 4, 0, 1, 2, 3, 4, 5, 6, 7], [7])])
def r00Plus.B12 : List Nat := [0, 1, 0, 0, 12, 0, 32, 127, 255]
theorem r00Plus.tab12 : rtab .any (opsOf Try.f24 12) = r00Plus.T12 := by kernel_rfl
theorem r00Plus.bits12 : waitsOk r00Plus.T12.2 r00Plus.B12 = true := by kernel_rfl
set_option maxHeartbeats 8000000 in
set_option maxRecDepth 100000 in
theorem r00Plus.calls (k : Nat) : ∀ (a0_0 : Bool) (A0_1 : Option Addr) (c0_1 : Nat) (l0_1 : List Int) (a0_2 : Int) (a1_0 : Bool) (A1_1 : Option Addr) (c1_1 : Nat) (l1_1 : List Int) (a1_2 : Int) (r1 : Bool) (r2 : List Int) (r3 : Int) (w : World) (hr0_1 : Kd.C (Kd.int .u64) w A0_1 l0_1.length l0_1) (hc0_1 : l0_1.length ≤ c0_1) (hr1_1 : Kd.C (Kd.int .u64) w A1_1 l1_1.length l1_1) (hc1_1 : l1_1.length ≤ c1_1) (h : r00Plus.f k a0_0 l0_1 a0_2 a1_0 l1_1 a1_2 = some (r1, r2, r3)),
  Calls Try.prog 24 #[.agg #[.bool a0_0, .slice A0_1 l0_1.length c0_1, .int .i64 a0_2], .agg #[.bool a1_0, .slice A1_1 l1_1.length c1_1, .int .i64 a1_2]] w fun e w' => ∃ v1_ : Value, e = .returned (.agg #[.bool r1, v1_, .int .i64 r3]) ∧ Kd.R (Kd.int .u64) 46 w' w.heap.size (fun _ => True) v1_ r2 ∧ Below w.heap.size w w' := by
 induction k using Nat.strongRecOn with
 | _ k ih =>
 intro a0_0 A0_1 c0_1 l0_1 a0_2 a1_0 A1_1 c1_1 l1_1 a1_2 r1 r2 r3 w hr0_1 hc0_1 hr1_1 hc1_1 h
 cases k with
 | zero => exact absurd h (by simp [r00Plus.f])
 | succ k =>
 simp only [r00Plus.f] at h
 have hu48 := Try.underlying48
 have HR0_1 := Zb.mk hr0_1
 have HC0_1 := Zb.mk hc0_1
 clear hr0_1 hc0_1
 have HR1_1 := Zb.mk hr1_1
 have HC1_1 := Zb.mk hc1_1
 clear hr1_1 hc1_1
 have HB := Zb.mk (Below.refl w.heap.size w)
 have H : ((r00Num_Zero.f k a0_0 l0_1 a0_2).bind fun t128 => (if t128 = true then (none) else ((r00Num_Zero.f k a1_0 l1_1 a1_2).bind fun t129 => (if t129 = true then (none) else (if a0_2 > a1_2 then (none) else ((r00NatUp.f k l1_1 (wrap64 (a1_2 - a0_2))).bind fun t130 => (if (a0_0 == a1_0) = true then (none) else ((r00NatCmp.f k l0_1 t130).bind fun t133 => (if t133 ≥ 0 then ((r00NatSub.f k l0_1 t130).bind fun t134 => (some (a0_0, t134, a0_2))) else ((r00NatSub.f k t130 l0_1).bind fun t137 => (some (a1_0, t137, a0_2)))))))))))) = some (r1, r2, r3) := h
 clear h
 replace H := Option.bind_eq_some_iff.mp H
 obtain ⟨t128, A30, H⟩ := H
 replace H : (if t128 = true then (none) else ((r00Num_Zero.f k a1_0 l1_1 a1_2).bind fun t129 => (if t129 = true then (none) else (if a0_2 > a1_2 then (none) else ((r00NatUp.f k l1_1 (wrap64 (a1_2 - a0_2))).bind fun t130 => (if (a0_0 == a1_0) = true then (none) else ((r00NatCmp.f k l0_1 t130).bind fun t133 => (if t133 ≥ 0 then ((r00NatSub.f k l0_1 t130).bind fun t134 => (some (a0_0, t134, a0_2))) else ((r00NatSub.f k t130 l0_1).bind fun t137 => (some (a1_0, t137, a0_2))))))))))) = some (r1, r2, r3) := H
 have A3 := Zb.mk A30
 clear A30
 by_cases c4 : t128 = true
 ·subst c4
  have H1 : (none) = some (r1, r2, r3) := by rw [if_pos rfl] at H; exact H
  clear H
  have H := H1
  clear H1
  exact absurd H (by simp)
 ·replace c4 := Bool.eq_false_iff.mpr c4
  subst c4
  have H1 : ((r00Num_Zero.f k a1_0 l1_1 a1_2).bind fun t129 => (if t129 = true then (none) else (if a0_2 > a1_2 then (none) else ((r00NatUp.f k l1_1 (wrap64 (a1_2 - a0_2))).bind fun t130 => (if (a0_0 == a1_0) = true then (none) else ((r00NatCmp.f k l0_1 t130).bind fun t133 => (if t133 ≥ 0 then ((r00NatSub.f k l0_1 t130).bind fun t134 => (some (a0_0, t134, a0_2))) else ((r00NatSub.f k t130 l0_1).bind fun t137 => (some (a1_0, t137, a0_2)))))))))) = some (r1, r2, r3) := by rw [if_neg (show ¬ (false = true) by decide)] at H; exact H
  clear H
  have H := H1
  clear H1
  replace H := Option.bind_eq_some_iff.mp H
  obtain ⟨t129, A50, H⟩ := H
  replace H : (if t129 = true then (none) else (if a0_2 > a1_2 then (none) else ((r00NatUp.f k l1_1 (wrap64 (a1_2 - a0_2))).bind fun t130 => (if (a0_0 == a1_0) = true then (none) else ((r00NatCmp.f k l0_1 t130).bind fun t133 => (if t133 ≥ 0 then ((r00NatSub.f k l0_1 t130).bind fun t134 => (some (a0_0, t134, a0_2))) else ((r00NatSub.f k t130 l0_1).bind fun t137 => (some (a1_0, t137, a0_2))))))))) = some (r1, r2, r3) := H
  have A5 := Zb.mk A50
  clear A50
  by_cases c6 : t129 = true
  ·subst c6
   have H1 : (none) = some (r1, r2, r3) := by rw [if_pos rfl] at H; exact H
   clear H
   have H := H1
   clear H1
   exact absurd H (by simp)
  ·replace c6 := Bool.eq_false_iff.mpr c6
   subst c6
   have H1 : (if a0_2 > a1_2 then (none) else ((r00NatUp.f k l1_1 (wrap64 (a1_2 - a0_2))).bind fun t130 => (if (a0_0 == a1_0) = true then (none) else ((r00NatCmp.f k l0_1 t130).bind fun t133 => (if t133 ≥ 0 then ((r00NatSub.f k l0_1 t130).bind fun t134 => (some (a0_0, t134, a0_2))) else ((r00NatSub.f k t130 l0_1).bind fun t137 => (some (a1_0, t137, a0_2)))))))) = some (r1, r2, r3) := by rw [if_neg (show ¬ (false = true) by decide)] at H; exact H
   clear H
   have H := H1
   clear H1
   by_cases c7 : a0_2 > a1_2
   ·rw [if_pos c7] at H
    exact absurd H (by simp)
   ·rw [if_neg c7] at H
    have c7b0 : decide (a1_2 < a0_2) = false := decide_eq_false c7
    clear c7
    replace H := Option.bind_eq_some_iff.mp H
    obtain ⟨t130, A80, H⟩ := H
    replace H : (if (a0_0 == a1_0) = true then (none) else ((r00NatCmp.f k l0_1 t130).bind fun t133 => (if t133 ≥ 0 then ((r00NatSub.f k l0_1 t130).bind fun t134 => (some (a0_0, t134, a0_2))) else ((r00NatSub.f k t130 l0_1).bind fun t137 => (some (a1_0, t137, a0_2)))))) = some (r1, r2, r3) := H
    have A8 := Zb.mk A80
    clear A80
    by_cases c9 : (a0_0 == a1_0) = true
    ·rw [if_pos c9] at H
     exact absurd H (by simp)
    ·rw [if_neg c9] at H
     have c9b0 : (a0_0 == a1_0) = false := by simpa using c9
     (try (have c9b1 : decide (a0_0 = a1_0) = false := by simpa using c9))
     (try (have c9b2 : (a0_0 == a1_0) = false := by simpa using c9))
     (try (have c9b3 : ¬ (a0_0 = a1_0) := by simpa using c9))
     clear c9
     replace H := Option.bind_eq_some_iff.mp H
     obtain ⟨t133, A100, H⟩ := H
     replace H : (if t133 ≥ 0 then ((r00NatSub.f k l0_1 t130).bind fun t134 => (some (a0_0, t134, a0_2))) else ((r00NatSub.f k t130 l0_1).bind fun t137 => (some (a1_0, t137, a0_2)))) = some (r1, r2, r3) := H
     have A10 := Zb.mk A100
     clear A100
     by_cases c11 : t133 ≥ 0
     ·rw [if_pos c11] at H
      have c11b0 : decide (0 ≤ t133) = true := decide_eq_true c11
      clear c11
      replace H := Option.bind_eq_some_iff.mp H
      obtain ⟨t134, A120, H⟩ := H
      replace H : (some (a0_0, t134, a0_2)) = some (r1, r2, r3) := H
      have A12 := Zb.mk A120
      clear A120
      simp only [Option.some.injEq, Prod.mk.injEq] at H
      obtain ⟨rfl, rfl, rfl⟩ := H
      go_enter Try.func24, Try.ntmps24
      try go_wp2_with (first | ((with_reducible refine Zt (N := 2) rfl ?_); refine Zs ?hg (N := 2) ?hd (cs := #[.bool a0_0, .slice A0_1 l0_1.length c0_1, .int .i64 a0_2]) (t := 48) ?hr ?_; (case hd => rfl); (case hg => rfl); (case hr => first | (go_simp; done) | (go_simp; rfl)); intro gb125 hg w13 hbox hb; have n0_ := Zb.mk (Zl (by repeat (with_reducible first | exact HB.out | apply Zc | apply Za | apply Zd)) hb); have n1_ := Zb.mk (hbox); have n2_ := Zb.mk ((by rw [hg]; exact (Zi (by repeat (with_reducible first | exact HB.out | apply Zc | apply Za | apply Zd))) : w.heap.size ≤ gb125)); have n3_ := Zb.mk ((by rw [hg]; exact (Zi (by repeat (with_reducible first | exact HB.out | apply Zc | apply Za | apply Zd))) : w.heap.size ≤ gb125)); clear HB; have HB := n0_; have BK125 := n1_; have GW125 := n2_; have GE125 := n3_; clear n0_ n1_ n2_ n3_; clear hb hbox hg) | ((with_reducible refine Zt (N := 3) rfl ?_); refine Zs ?hg (N := 3) ?hd (cs := #[.bool a1_0, .slice A1_1 l1_1.length c1_1, .int .i64 a1_2]) (t := 48) ?hr ?_; (case hd => rfl); (case hg => rfl); (case hr => first | (go_simp; done) | (go_simp; rfl)); intro gb126 hg w14 hbox hb; have n0_ := Zb.mk (Zn (g := gb125) (o := .cells #[.bool a0_0, .slice A0_1 l0_1.length c0_1, .int .i64 a0_2] 48 (0, 0)) (by (with_reducible repeat first | refine Ze ?_ _ | refine Zg ?_ | refine Zf ?_ _); exact BK125.out) hb); have n1_ := Zb.mk (Zl (by repeat (with_reducible first | exact HB.out | apply Zc | apply Za | apply Zd | refine Zh ?_ GE125.out)) hb); have n2_ := Zb.mk (hbox); have n3_ := Zb.mk ((by rw [hg]; exact (Zi (by repeat (with_reducible first | exact HB.out | apply Zc | apply Za | apply Zd | refine Zh ?_ GE125.out))) : w.heap.size ≤ gb126)); have n4_ := Zb.mk ((by rw [hg]; exact (Zi (by repeat (with_reducible first | exact HB.out | apply Zc | apply Za | apply Zd | refine Zh ?_ GE125.out))) : w.heap.size ≤ gb126)); have n5_ := Zb.mk ((by rw [hg]; exact Nat.ne_of_lt (Zw (g := gb125) (o := .cells #[.bool a0_0, .slice A0_1 l0_1.length c0_1, .int .i64 a0_2] 48 (0, 0)) (by (with_reducible repeat first | refine Ze ?_ _ | refine Zg ?_ | refine Zf ?_ _); exact BK125.out)) : gb125 ≠ gb126)); have n6_ := Zb.mk ((by rw [hg]; exact Nat.ne_of_gt (Zw (g := gb125) (o := .cells #[.bool a0_0, .slice A0_1 l0_1.length c0_1, .int .i64 a0_2] 48 (0, 0)) (by (with_reducible repeat first | refine Ze ?_ _ | refine Zg ?_ | refine Zf ?_ _); exact BK125.out)) : gb126 ≠ gb125)); clear BK125; clear HB; have BK125 := n0_; have HB := n1_; have BK126 := n2_; have GW126 := n3_; have GE126 := n4_; have NB125_126 := n5_; have NB126_125 := n6_; clear n0_ n1_ n2_ n3_ n4_ n5_ n6_; clear hb hbox hg) | ((with_reducible refine Zt (N := 4) rfl ?_); refine Zs ?hg (N := 4) ?hd (cs := #[.bool false, .slice none 0 0, .int .i64 0]) (t := 48) ?hr ?_; (case hd => rfl); (case hg => rfl); (case hr => first | (go_simp; done) | (go_simp; rfl)); intro gb127 hg w15 hbox hb; have n0_ := Zb.mk (Zn (g := gb125) (o := .cells #[.bool a0_0, .slice A0_1 l0_1.length c0_1, .int .i64 a0_2] 48 (0, 0)) (by (with_reducible repeat first | refine Ze ?_ _ | refine Zg ?_ | refine Zf ?_ _); exact BK125.out) hb); have n1_ := Zb.mk (Zn (g := gb126) (o := .cells #[.bool a1_0, .slice A1_1 l1_1.length c1_1, .int .i64 a1_2] 48 (0, 0)) (by (with_reducible repeat first | refine Ze ?_ _ | refine Zg ?_ | refine Zf ?_ _); exact BK126.out) hb); have n2_ := Zb.mk (Zl (by repeat (with_reducible first | exact HB.out | apply Zc | apply Za | apply Zd | refine Zh ?_ GE125.out | refine Zh ?_ GE126.out)) hb); have n3_ := Zb.mk (hbox); have n4_ := Zb.mk ((by rw [hg]; exact (Zi (by repeat (with_reducible first | exact HB.out | apply Zc | apply Za | apply Zd | refine Zh ?_ GE125.out | refine Zh ?_ GE126.out))) : w.heap.size ≤ gb127)); have n5_ := Zb.mk ((by rw [hg]; exact (Zi (by repeat (with_reducible first | exact HB.out | apply Zc | apply Za | apply Zd | refine Zh ?_ GE125.out | refine Zh ?_ GE126.out))) : w.heap.size ≤ gb127)); have n6_ := Zb.mk ((by rw [hg]; exact Nat.ne_of_lt (Zw (g := gb125) (o := .cells #[.bool a0_0, .slice A0_1 l0_1.length c0_1, .int .i64 a0_2] 48 (0, 0)) (by (with_reducible repeat first | refine Ze ?_ _ | refine Zg ?_ | refine Zf ?_ _); exact BK125.out)) : gb125 ≠ gb127)); have n7_ := Zb.mk ((by rw [hg]; exact Nat.ne_of_gt (Zw (g := gb125) (o := .cells #[.bool a0_0, .slice A0_1 l0_1.length c0_1, .int .i64 a0_2] 48 (0, 0)) (by (with_reducible repeat first | refine Ze ?_ _ | refine Zg ?_ | refine Zf ?_ _); exact BK125.out)) : gb127 ≠ gb125)); have n8_ := Zb.mk ((by rw [hg]; exact Nat.ne_of_lt (Zw (g := gb126) (o := .cells #[.bool a1_0, .slice A1_1 l1_1.length c1_1, .int .i64 a1_2] 48 (0, 0)) (by (with_reducible repeat first | refine Ze ?_ _ | refine Zg ?_ | refine Zf ?_ _); exact BK126.out)) : gb126 ≠ gb127)); have n9_ := Zb.mk ((by rw [hg]; exact Nat.ne_of_gt (Zw (g := gb126) (o := .cells #[.bool a1_0, .slice A1_1 l1_1.length c1_1, .int .i64 a1_2] 48 (0, 0)) (by (with_reducible repeat first | refine Ze ?_ _ | refine Zg ?_ | refine Zf ?_ _); exact BK126.out)) : gb127 ≠ gb126)); clear BK125; clear BK126; clear HB; have BK125 := n0_; have BK126 := n1_; have HB := n2_; have BK127 := n3_; have GW127 := n4_; have GE127 := n5_; have NB125_127 := n6_; have NB127_125 := n7_; have NB126_127 := n8_; have NB127_126 := n9_; clear n0_ n1_ n2_ n3_ n4_ n5_ n6_ n7_ n8_ n9_; clear hb hbox hg; have hnb16 := NB125_126.out; have hnc16 := NB126_125.out; have hnb17 := NB125_127.out; have hnc17 := NB127_125.out; have hcz18_0 : w15.cell? ⟨gb125, 0, none⟩ = some (.bool a0_0) := (Zk BK125.out 0).trans rfl; have hcz18_1 : w15.cell? ⟨gb125, 1, none⟩ = some (.slice A0_1 l0_1.length c0_1) := (Zk BK125.out 1).trans rfl; have hcz18_2 : w15.cell? ⟨gb125, 2, none⟩ = some (.int .i64 a0_2) := (Zk BK125.out 2).trans rfl; have hfz18_0 := Zj BK125.out 0; have hfz18_1 := Zj BK125.out 1; have hfz18_2 := Zj BK125.out 2) | ((with_reducible refine Zp (f := 54) rfl ?_); refine ZB (some 8) rfl rfl Try.func54 (by kernel_rfl) rfl #[.agg #[.bool a0_0, .slice A0_1 l0_1.length c0_1, .int .i64 a0_2]] rfl (by (try simp only [List.map_toArray, List.map_cons, List.map_nil]); first | done | rfl | (simp only [List.length_drop, List.length_take]; rfl)) ?_; (with_reducible refine (r00Num_Zero.calls k a0_0 _ _ l0_1 a0_2 false _ ?side1 ?side2 A3.out).mono ?_); (case side1 => repeat (first | exact (Kd.C_below HR0_1.out HB.out) | (with_reducible refine Kd.ZC ?_ _) | (with_reducible refine Kd.ZF ?_ _) | (with_reducible refine Kd.ZN ?_))); (case side2 => exact HC0_1.out); rintro e w19 ⟨rfl, hb⟩; refine ⟨_, rfl, ?_⟩; have n0_ := Zb.mk (Zn (g := gb125) (o := .cells #[.bool a0_0, .slice A0_1 l0_1.length c0_1, .int .i64 a0_2] 48 (0, 0)) (by (with_reducible repeat first | refine Ze ?_ _ | refine Zg ?_ | refine Zf ?_ _); exact BK125.out) hb); have n1_ := Zb.mk (Zn (g := gb126) (o := .cells #[.bool a1_0, .slice A1_1 l1_1.length c1_1, .int .i64 a1_2] 48 (0, 0)) (by (with_reducible repeat first | refine Ze ?_ _ | refine Zg ?_ | refine Zf ?_ _); exact BK126.out) hb); have n2_ := Zb.mk (Zn (g := gb127) (o := .cells #[.bool false, .slice none 0 0, .int .i64 0] 48 (0, 0)) (by (with_reducible repeat first | refine Ze ?_ _ | refine Zg ?_ | refine Zf ?_ _); exact BK127.out) hb); have n3_ := Zb.mk (Zl (by repeat (with_reducible first | exact HB.out | apply Zc | apply Za | apply Zd | refine Zh ?_ GE125.out | refine Zh ?_ GE126.out | refine Zh ?_ GE127.out)) hb); clear BK125; clear BK126; clear BK127; clear HB; have BK125 := n0_; have BK126 := n1_; have BK127 := n2_; have HB := n3_; clear n0_ n1_ n2_ n3_; (try clear hb); (try clear hb2); (try clear hk); (try clear hi); have hnb20 := NB126_127.out; have hnc20 := NB127_126.out; have hcz21_0 : w19.cell? ⟨gb126, 0, none⟩ = some (.bool a1_0) := (Zk BK126.out 0).trans rfl; have hcz21_1 : w19.cell? ⟨gb126, 1, none⟩ = some (.slice A1_1 l1_1.length c1_1) := (Zk BK126.out 1).trans rfl; have hcz21_2 : w19.cell? ⟨gb126, 2, none⟩ = some (.int .i64 a1_2) := (Zk BK126.out 2).trans rfl; have hfz21_0 := Zj BK126.out 0; have hfz21_1 := Zj BK126.out 1; have hfz21_2 := Zj BK126.out 2) | ((with_reducible refine Zp (f := 54) rfl ?_); refine ZB (some 11) rfl rfl Try.func54 (by kernel_rfl) rfl #[.agg #[.bool a1_0, .slice A1_1 l1_1.length c1_1, .int .i64 a1_2]] rfl (by (try simp only [List.map_toArray, List.map_cons, List.map_nil]); first | done | rfl | (simp only [List.length_drop, List.length_take]; rfl)) ?_; (with_reducible refine (r00Num_Zero.calls k a1_0 _ _ l1_1 a1_2 false _ ?side1 ?side2 A5.out).mono ?_); (case side1 => repeat (first | exact (Kd.C_below HR1_1.out HB.out) | (with_reducible refine Kd.ZC ?_ _) | (with_reducible refine Kd.ZF ?_ _) | (with_reducible refine Kd.ZN ?_))); (case side2 => exact HC1_1.out); rintro e w22 ⟨rfl, hb⟩; refine ⟨_, rfl, ?_⟩; have n0_ := Zb.mk (Zn (g := gb125) (o := .cells #[.bool a0_0, .slice A0_1 l0_1.length c0_1, .int .i64 a0_2] 48 (0, 0)) (by (with_reducible repeat first | refine Ze ?_ _ | refine Zg ?_ | refine Zf ?_ _); exact BK125.out) hb); have n1_ := Zb.mk (Zn (g := gb126) (o := .cells #[.bool a1_0, .slice A1_1 l1_1.length c1_1, .int .i64 a1_2] 48 (0, 0)) (by (with_reducible repeat first | refine Ze ?_ _ | refine Zg ?_ | refine Zf ?_ _); exact BK126.out) hb); have n2_ := Zb.mk (Zn (g := gb127) (o := .cells #[.bool false, .slice none 0 0, .int .i64 0] 48 (0, 0)) (by (with_reducible repeat first | refine Ze ?_ _ | refine Zg ?_ | refine Zf ?_ _); exact BK127.out) hb); have n3_ := Zb.mk (Zl (by repeat (with_reducible first | exact HB.out | apply Zc | apply Za | apply Zd | refine Zh ?_ GE125.out | refine Zh ?_ GE126.out | refine Zh ?_ GE127.out)) hb); clear BK125; clear BK126; clear BK127; clear HB; have BK125 := n0_; have BK126 := n1_; have BK127 := n2_; have HB := n3_; clear n0_ n1_ n2_ n3_; (try clear hb); (try clear hb2); (try clear hk); (try clear hi); have hcz23_0 : w22.cell? ⟨gb125, 0, none⟩ = some (.bool a0_0) := (Zk BK125.out 0).trans rfl; have hcz23_1 : w22.cell? ⟨gb125, 1, none⟩ = some (.slice A0_1 l0_1.length c0_1) := (Zk BK125.out 1).trans rfl; have hcz23_2 : w22.cell? ⟨gb125, 2, none⟩ = some (.int .i64 a0_2) := (Zk BK125.out 2).trans rfl; have hfz23_0 := Zj BK125.out 0; have hfz23_1 := Zj BK125.out 1; have hfz23_2 := Zj BK125.out 2; have hcz24_0 : w22.cell? ⟨gb126, 0, none⟩ = some (.bool a1_0) := (Zk BK126.out 0).trans rfl; have hcz24_1 : w22.cell? ⟨gb126, 1, none⟩ = some (.slice A1_1 l1_1.length c1_1) := (Zk BK126.out 1).trans rfl; have hcz24_2 : w22.cell? ⟨gb126, 2, none⟩ = some (.int .i64 a1_2) := (Zk BK126.out 2).trans rfl; have hfz24_0 := Zj BK126.out 0; have hfz24_1 := Zj BK126.out 1; have hfz24_2 := Zj BK126.out 2))
      have n0_ := Zb.mk (Zg BK125.out)
      have n1_ := Zb.mk (Zg BK126.out)
      have n2_ := Zb.mk (Zg BK127.out)
      have n3_ := Zb.mk (Zd HB.out)
      clear BK125
      clear BK126
      clear BK127
      clear HB
      have BK125 := n0_
      have BK126 := n1_
      have BK127 := n2_
      have HB := n3_
      clear n0_ n1_ n2_ n3_
      refine start_ (n := 12) (S := fun w' => w'.cell? ⟨gb125, 0, none⟩ = some (.bool a0_0) ∧ w'.cell? ⟨gb125, 1, none⟩ = some (.slice A0_1 l0_1.length c0_1) ∧ w'.cell? ⟨gb125, 2, none⟩ = some (.int .i64 a0_2) ∧ w'.cell? ⟨gb126, 0, none⟩ = some (.bool a1_0) ∧ w'.cell? ⟨gb126, 1, none⟩ = some (.slice A1_1 l1_1.length c1_1) ∧ w'.cell? ⟨gb126, 2, none⟩ = some (.int .i64 a1_2)) (ds := []) #[false, false, false, false, false, false, false, false, false, false, false, false] (by kernel_rfl) rfl rfl ⟨(Zk BK125.out 0).trans rfl, (Zk BK125.out 1).trans rfl, (Zk BK125.out 2).trans rfl, (Zk BK126.out 0).trans rfl, (Zk BK126.out 1).trans rfl, (Zk BK126.out 2).trans rfl⟩ (fun hHeld => ?_); refine with_tabW r00Plus.tab7 r00Plus.bits7 (fun HT_ HW_ => ?_)
      generalize w22.drew = w25 at BK125 BK126 BK127 HB hHeld ⊢
      refine ZM (i := 0) (N := some 21) (v := ?_) (a' := ?_) #[true, false, false, false, false, false, false, false, false, false, false, false] rfl rfl (ZD HT_.out (by kernel_rfl)) (fun _ _ _ h => h) (Or.inl ⟨by rfl, ?_⟩) ?_ ?_
      rotate_left
      ·intro w'
       go_simp
       with_reducible rfl
      rotate_left
      ·simp only [Act.put, List.setIfInBounds_toArray, List.set_cons_zero, List.set_cons_succ, Zx, ZA]
       rfl
      refine ZM (i := 2) (N := some 23) (v := ?_) (a' := ?_) #[true, false, true, false, false, false, false, false, false, false, false, false] rfl rfl (ZD HT_.out (by kernel_rfl)) (fun _ _ _ h => h) (Or.inl ⟨by rfl, ?_⟩) ?_ ?_
      rotate_left
      ·intro w'
       go_simp
       with_reducible rfl
      rotate_left
      ·simp only [Act.put, List.setIfInBounds_toArray, List.set_cons_zero, List.set_cons_succ, Zx, ZA]
       rfl
      refine ZM (i := 4) (N := some 25) (v := ?_) (a' := ?_) #[true, false, true, false, true, false, false, false, false, false, false, false] rfl rfl (ZD HT_.out (by kernel_rfl)) (fun _ _ _ h => h) (Or.inl ⟨by rfl, ?_⟩) ?_ ?_
      rotate_left
      ·intro w'
       go_simp
       with_reducible rfl
      rotate_left
      ·simp only [Act.put, List.setIfInBounds_toArray, List.set_cons_zero, List.set_cons_succ, Zx, ZA]
       rfl
      refine ZM (i := 6) (N := some 27) (v := ?_) (a' := ?_) #[true, false, true, false, true, false, true, false, false, false, false, false] rfl rfl (ZD HT_.out (by kernel_rfl)) (fun _ _ _ h => h) (Or.inl ⟨by rfl, ?_⟩) ?_ ?_
      rotate_left
      ·intro w'
       go_simp
       with_reducible rfl
      rotate_left
      ·simp only [Act.put, List.setIfInBounds_toArray, List.set_cons_zero, List.set_cons_succ, Zx, ZA]
       rfl
      refine take_ (i := 1) (N := some 22) (v := ?_) (a' := ?_) #[true, true, true, false, true, false, true, false, false, false, false, false] rfl rfl (take_ofW HT_.out HW_.out (by kernel_rfl)) (fun _ _ _ h => h) (Or.inl ⟨by rfl, ?_⟩) hHeld ?_ ?_
      rotate_left
      ·rintro w' ⟨s0, s1, s2, s3, s4, s5⟩
       go_simp
       with_reducible rfl
      rotate_left
      ·simp only [Act.put, List.setIfInBounds_toArray, List.set_cons_zero, List.set_cons_succ, Zx, ZA]
       rfl
      refine take_ (i := 3) (N := some 24) (v := ?_) (a' := ?_) #[true, true, true, true, true, false, true, false, false, false, false, false] rfl rfl (take_ofW HT_.out HW_.out (by kernel_rfl)) (fun _ _ _ h => h) (Or.inl ⟨by rfl, ?_⟩) hHeld ?_ ?_
      rotate_left
      ·rintro w' ⟨s0, s1, s2, s3, s4, s5⟩
       go_simp
       with_reducible rfl
      rotate_left
      ·simp only [Act.put, List.setIfInBounds_toArray, List.set_cons_zero, List.set_cons_succ, Zx, ZA]
       rfl
      refine take_ (i := 5) (N := some 26) (v := ?_) (a' := ?_) #[true, true, true, true, true, true, true, false, false, false, false, false] rfl rfl (take_ofW HT_.out HW_.out (by kernel_rfl)) (fun _ _ _ h => h) (Or.inl ⟨by rfl, ?_⟩) hHeld ?_ ?_
      rotate_left
      ·rintro w' ⟨s0, s1, s2, s3, s4, s5⟩
       go_simp
       with_reducible rfl
      rotate_left
      ·simp only [Act.put, List.setIfInBounds_toArray, List.set_cons_zero, List.set_cons_succ, Zx, ZA]
       rfl
      refine take_ (i := 7) (N := some 28) (v := ?_) (a' := ?_) #[true, true, true, true, true, true, true, true, false, false, false, false] rfl rfl (take_ofW HT_.out HW_.out (by kernel_rfl)) (fun _ _ _ h => h) (Or.inl ⟨by rfl, ?_⟩) hHeld ?_ ?_
      rotate_left
      ·rintro w' ⟨s0, s1, s2, s3, s4, s5⟩
       go_simp
       with_reducible rfl
      rotate_left
      ·simp only [Act.put, List.setIfInBounds_toArray, List.set_cons_zero, List.set_cons_succ, Zx, ZA]
       rfl
      refine ZM (i := 8) (N := some 29) (v := ?_) (a' := ?_) #[true, true, true, true, true, true, true, true, true, false, false, false] rfl rfl (ZD HT_.out (by kernel_rfl)) (fun _ _ _ h => h) (Or.inl ⟨by rfl, ?_⟩) ?_ ?_
      rotate_left
      ·intro w'
       go_simp
       with_reducible rfl
      rotate_left
      ·simp only [Act.put, List.setIfInBounds_toArray, List.set_cons_zero, List.set_cons_succ, Zx, ZA]
       rfl
      refine one_ (i := 9) (N := some 30) #[true, true, true, true, true, true, true, true, true, true, false, false] rfl rfl (one_of HT_.out (by kernel_rfl)) (by decide) (fun K hK => ?_)
      refine goes_ Try.func55 (by kernel_rfl) rfl #[.slice A1_1 l1_1.length c1_1, .int .i64 (wrap64 (a1_2 - a0_2))] (by rfl) rfl rfl (by (try simp only [List.map_toArray, List.map_cons, List.map_nil]); first | done | rfl | (simp only [List.length_drop, List.length_take]; rfl)) ?_
      with_reducible refine (r00NatUp.calls k _ _ l1_1 (wrap64 (a1_2 - a0_2)) t130 _ ?side1 ?side2 A8.out).mono ?_
      (case side1 => repeat (first | exact (Kd.C_below HR1_1.out HB.out) | (with_reducible refine Kd.ZC ?_ _) | (with_reducible refine Kd.ZF ?_ _) | (with_reducible refine Kd.ZN ?_)))
      (case side2 => exact HC1_1.out)
      rintro e w26 ⟨v131, rfl, ho0, hb⟩
      refine ⟨_, rfl, ?_⟩
      have n0_ := Zb.mk (Kd.ZG ho0 (Zi (by repeat (with_reducible first | exact HB.out | apply Zc | apply Za | apply Zd | refine Zh ?_ GE125.out | refine Zh ?_ GE126.out | refine Zh ?_ GE127.out))))
      have n1_ := Zb.mk (Zn (g := gb125) (o := .cells #[.bool a0_0, .slice A0_1 l0_1.length c0_1, .int .i64 a0_2] 48 (0, 0)) (by (with_reducible repeat first | refine Ze ?_ _ | refine Zg ?_ | refine Zf ?_ _); exact BK125.out) hb)
      have n2_ := Zb.mk (Zn (g := gb126) (o := .cells #[.bool a1_0, .slice A1_1 l1_1.length c1_1, .int .i64 a1_2] 48 (0, 0)) (by (with_reducible repeat first | refine Ze ?_ _ | refine Zg ?_ | refine Zf ?_ _); exact BK126.out) hb)
      have n3_ := Zb.mk (Zn (g := gb127) (o := .cells #[.bool false, .slice none 0 0, .int .i64 0] 48 (0, 0)) (by (with_reducible repeat first | refine Ze ?_ _ | refine Zg ?_ | refine Zf ?_ _); exact BK127.out) hb)
      have n4_ := Zb.mk (Zl (by repeat (with_reducible first | exact HB.out | apply Zc | apply Za | apply Zd | refine Zh ?_ GE125.out | refine Zh ?_ GE126.out | refine Zh ?_ GE127.out)) hb)
      clear BK125
      clear BK126
      clear BK127
      clear HB
      have HO132 := n0_
      have BK125 := n1_
      have BK126 := n2_
      have BK127 := n3_
      have HB := n4_
      clear n0_ n1_ n2_ n3_ n4_
      (try clear hb)
      (try clear hb2)
      (try clear hk)
      (try clear hi)
      (try clear ho0)
      refine hK.out _ _ ⟨(Zk BK125.out 0).trans rfl, (Zk BK125.out 1).trans rfl, (Zk BK125.out 2).trans rfl, (Zk BK126.out 0).trans rfl, (Zk BK126.out 1).trans rfl, (Zk BK126.out 2).trans rfl⟩ (fun hHeld => ?_)
      clear hK K
      refine norm_ (a' := ?_) ?_ ?_
      rotate_left
      ·show Act.put _ (some 30) _ = _
       simp only [Act.put, List.setIfInBounds_toArray, List.set_cons_zero, List.set_cons_succ, Zx, ZA]
       rfl
      refine ZM (i := 10) (N := some 5) (v := ?_) (a' := ?_) #[true, true, true, true, true, true, true, true, true, true, true, false] rfl rfl (ZD HT_.out (by kernel_rfl)) (fun _ _ _ h => h) (Or.inl ⟨by rfl, ?_⟩) ?_ ?_
      rotate_left
      ·intro w'
       go_simp
       with_reducible rfl
      rotate_left
      ·simp only [Act.put, List.setIfInBounds_toArray, List.set_cons_zero, List.set_cons_succ, Zx, ZA]
       rfl
      refine ZM (i := 11) (N := some 6) (v := ?_) (a' := ?_) #[true, true, true, true, true, true, true, true, true, true, true, true] rfl rfl (ZD HT_.out (by kernel_rfl)) (fun _ _ _ h => h) (Or.inl ⟨by rfl, ?_⟩) ?_ ?_
      rotate_left
      ·intro w'
       go_simp
       with_reducible rfl
      rotate_left
      ·simp only [Act.put, List.setIfInBounds_toArray, List.set_cons_zero, List.set_cons_succ, Zx, ZA]
       rfl
      refine done_ (done_of HT_.out (by kernel_rfl)) ?_
      have hcz27_0 : w26.cell? ⟨gb125, 0, none⟩ = some (.bool a0_0) := (Zk BK125.out 0).trans rfl
      have hcz27_1 : w26.cell? ⟨gb125, 1, none⟩ = some (.slice A0_1 l0_1.length c0_1) := (Zk BK125.out 1).trans rfl
      have hcz27_2 : w26.cell? ⟨gb125, 2, none⟩ = some (.int .i64 a0_2) := (Zk BK125.out 2).trans rfl
      have hfz27_0 := Zj BK125.out 0
      have hfz27_1 := Zj BK125.out 1
      have hfz27_2 := Zj BK125.out 2
      have hcz28_0 : w26.cell? ⟨gb126, 0, none⟩ = some (.bool a1_0) := (Zk BK126.out 0).trans rfl
      have hcz28_1 : w26.cell? ⟨gb126, 1, none⟩ = some (.slice A1_1 l1_1.length c1_1) := (Zk BK126.out 1).trans rfl
      have hcz28_2 : w26.cell? ⟨gb126, 2, none⟩ = some (.int .i64 a1_2) := (Zk BK126.out 2).trans rfl
      have hfz28_0 := Zj BK126.out 0
      have hfz28_1 := Zj BK126.out 1
      have hfz28_2 := Zj BK126.out 2
      obtain ⟨Ao29, co29, eo29⟩ := Kd.Zy HO132.out
      subst eo29
      try go_wp2_with (first | ((with_reducible refine Zp (f := 57) rfl ?_); refine ZB (some 46) rfl rfl Try.func57 (by kernel_rfl) rfl #[.slice A0_1 l0_1.length c0_1, .slice Ao29 t130.length co29] rfl (by (try simp only [List.map_toArray, List.map_cons, List.map_nil]); first | done | rfl | (simp only [List.length_drop, List.length_take]; rfl)) ?_; (with_reducible refine (r00NatCmp.calls k _ _ l0_1 _ _ t130 t133 _ ?side1 ?side2 ?side3 ?side4 A10.out).mono ?_); (case side1 => repeat (first | exact (Kd.C_below HR0_1.out HB.out) | (with_reducible refine Kd.ZC ?_ _) | (with_reducible refine Kd.ZF ?_ _) | (with_reducible refine Kd.ZN ?_))); (case side2 => exact HC0_1.out); (case side3 => repeat (first | exact (Kd.Zv HO132.out).2.2 | (with_reducible refine Kd.ZC ?_ _) | (with_reducible refine Kd.ZF ?_ _) | (with_reducible refine Kd.ZN ?_))); (case side4 => exact (Kd.Zv HO132.out).2.1); rintro e w30 ⟨rfl, hb⟩; refine ⟨_, rfl, ?_⟩; have n0_ := Zb.mk (Kd.Zz (by (with_reducible repeat first | apply Kd.Zm | apply Kd.Zo); exact HO132.out) hb); have n1_ := Zb.mk (Zn (g := gb125) (o := .cells #[.bool a0_0, .slice A0_1 l0_1.length c0_1, .int .i64 a0_2] 48 (0, 0)) (by (with_reducible repeat first | refine Ze ?_ _ | refine Zg ?_ | refine Zf ?_ _); exact BK125.out) hb); have n2_ := Zb.mk (Zn (g := gb126) (o := .cells #[.bool a1_0, .slice A1_1 l1_1.length c1_1, .int .i64 a1_2] 48 (0, 0)) (by (with_reducible repeat first | refine Ze ?_ _ | refine Zg ?_ | refine Zf ?_ _); exact BK126.out) hb); have n3_ := Zb.mk (Zn (g := gb127) (o := .cells #[.bool false, .slice none 0 0, .int .i64 0] 48 (0, 0)) (by (with_reducible repeat first | refine Ze ?_ _ | refine Zg ?_ | refine Zf ?_ _); exact BK127.out) hb); have n4_ := Zb.mk (Zl (by repeat (with_reducible first | exact HB.out | apply Zc | apply Za | apply Zd | refine Zh ?_ GE125.out | refine Zh ?_ GE126.out | refine Zh ?_ GE127.out)) hb); clear HO132; clear BK125; clear BK126; clear BK127; clear HB; have HO132 := n0_; have BK125 := n1_; have BK126 := n2_; have BK127 := n3_; have HB := n4_; clear n0_ n1_ n2_ n3_ n4_; (try clear hb); (try clear hb2); (try clear hk); (try clear hi)))
      have n0_ := Zb.mk (Kd.Zo HO132.out)
      have n1_ := Zb.mk (Zg BK125.out)
      have n2_ := Zb.mk (Zg BK126.out)
      have n3_ := Zb.mk (Zg BK127.out)
      have n4_ := Zb.mk (Zd HB.out)
      clear HO132
      clear BK125
      clear BK126
      clear BK127
      clear HB
      have HO132 := n0_
      have BK125 := n1_
      have BK126 := n2_
      have BK127 := n3_
      have HB := n4_
      clear n0_ n1_ n2_ n3_ n4_
      refine start_ (n := 9) (S := fun w' => w'.cell? ⟨gb125, 0, none⟩ = some (.bool a0_0) ∧ w'.cell? ⟨gb125, 1, none⟩ = some (.slice A0_1 l0_1.length c0_1) ∧ w'.cell? ⟨gb125, 2, none⟩ = some (.int .i64 a0_2)) (ds := []) #[false, false, false, false, false, false, false, false, false] (by kernel_rfl) rfl rfl ⟨(Zk BK125.out 0).trans rfl, (Zk BK125.out 1).trans rfl, (Zk BK125.out 2).trans rfl⟩ (fun hHeld => ?_); refine with_tabW r00Plus.tab11 r00Plus.bits11 (fun HT_ HW_ => ?_)
      generalize w30.drew = w31 at HO132 BK125 BK126 BK127 HB hHeld ⊢
      refine ZM (i := 0) (N := some 48) (v := ?_) (a' := ?_) #[true, false, false, false, false, false, false, false, false] rfl rfl (ZD HT_.out (by kernel_rfl)) (fun _ _ _ h => h) (Or.inl ⟨by rfl, ?_⟩) ?_ ?_
      rotate_left
      ·intro w'
       go_simp
       with_reducible rfl
      rotate_left
      ·simp only [Act.put, List.setIfInBounds_toArray, List.set_cons_zero, List.set_cons_succ, Zx, ZA]
       rfl
      refine ZM (i := 2) (N := some 50) (v := ?_) (a' := ?_) #[true, false, true, false, false, false, false, false, false] rfl rfl (ZD HT_.out (by kernel_rfl)) (fun _ _ _ h => h) (Or.inl ⟨by rfl, ?_⟩) ?_ ?_
      rotate_left
      ·intro w'
       go_simp
       with_reducible rfl
      rotate_left
      ·simp only [Act.put, List.setIfInBounds_toArray, List.set_cons_zero, List.set_cons_succ, Zx, ZA]
       rfl
      refine ZM (i := 3) (N := some 51) (v := ?_) (a' := ?_) #[true, false, true, true, false, false, false, false, false] rfl rfl (ZD HT_.out (by kernel_rfl)) (fun _ _ _ h => h) (Or.inl ⟨by rfl, ?_⟩) ?_ ?_
      rotate_left
      ·intro w'
       go_simp
       with_reducible rfl
      rotate_left
      ·simp only [Act.put, List.setIfInBounds_toArray, List.set_cons_zero, List.set_cons_succ, Zx, ZA]
       rfl
      refine ZM (i := 5) (N := some 53) (v := ?_) (a' := ?_) #[true, false, true, true, false, true, false, false, false] rfl rfl (ZD HT_.out (by kernel_rfl)) (fun _ _ _ h => h) (Or.inl ⟨by rfl, ?_⟩) ?_ ?_
      rotate_left
      ·intro w'
       go_simp
       with_reducible rfl
      rotate_left
      ·simp only [Act.put, List.setIfInBounds_toArray, List.set_cons_zero, List.set_cons_succ, Zx, ZA]
       rfl
      refine take_ (i := 1) (N := some 49) (v := ?_) (a' := ?_) #[true, true, true, true, false, true, false, false, false] rfl rfl (take_ofW HT_.out HW_.out (by kernel_rfl)) (fun _ _ _ h => h) (Or.inl ⟨by rfl, ?_⟩) hHeld ?_ ?_
      rotate_left
      ·rintro w' ⟨s0, s1, s2⟩
       go_simp
       with_reducible rfl
      rotate_left
      ·simp only [Act.put, List.setIfInBounds_toArray, List.set_cons_zero, List.set_cons_succ, Zx, ZA]
       rfl
      refine take_ (i := 6) (N := some 54) (v := ?_) (a' := ?_) #[true, true, true, true, false, true, true, false, false] rfl rfl (take_ofW HT_.out HW_.out (by kernel_rfl)) (fun _ _ _ h => h) (Or.inl ⟨by rfl, ?_⟩) hHeld ?_ ?_
      rotate_left
      ·rintro w' ⟨s0, s1, s2⟩
       go_simp
       with_reducible rfl
      rotate_left
      ·simp only [Act.put, List.setIfInBounds_toArray, List.set_cons_zero, List.set_cons_succ, Zx, ZA]
       rfl
      refine one_ (i := 4) (N := some 52) #[true, true, true, true, true, true, true, false, false] rfl rfl (one_of HT_.out (by kernel_rfl)) (by decide) (fun K hK => ?_)
      refine goes_ Try.func58 (by kernel_rfl) rfl #[.slice A0_1 l0_1.length c0_1, .slice Ao29 t130.length co29] (by rfl) rfl rfl (by (try simp only [List.map_toArray, List.map_cons, List.map_nil]); first | done | rfl | (simp only [List.length_drop, List.length_take]; rfl)) ?_
      with_reducible refine (r00NatSub.calls k _ _ l0_1 _ _ t130 t134 _ ?side1 ?side2 ?side3 ?side4 A12.out).mono ?_
      (case side1 => repeat (first | exact (Kd.C_below HR0_1.out HB.out) | (with_reducible refine Kd.ZC ?_ _) | (with_reducible refine Kd.ZF ?_ _) | (with_reducible refine Kd.ZN ?_)))
      (case side2 => exact HC0_1.out)
      (case side3 => repeat (first | exact (Kd.Zv HO132.out).2.2 | (with_reducible refine Kd.ZC ?_ _) | (with_reducible refine Kd.ZF ?_ _) | (with_reducible refine Kd.ZN ?_)))
      (case side4 => exact (Kd.Zv HO132.out).2.1)
      rintro e w32 ⟨v135, rfl, ho0, hb⟩
      refine ⟨_, rfl, ?_⟩
      have n0_ := Zb.mk (Kd.ZJ (by (with_reducible repeat first | apply Kd.Zm | apply Kd.Zo); exact HO132.out) (Kd.ZV ho0) hb)
      have n1_ := Zb.mk (Kd.ZG (Kd.R_new' ho0 (Kd.R_lt (by (with_reducible repeat first | apply Kd.Zm | apply Kd.Zo); exact HO132.out))) (Zi (by repeat (with_reducible first | exact HB.out | apply Zc | apply Za | apply Zd | refine Zh ?_ GE125.out | refine Zh ?_ GE126.out | refine Zh ?_ GE127.out))))
      have n2_ := Zb.mk (Zn (g := gb125) (o := .cells #[.bool a0_0, .slice A0_1 l0_1.length c0_1, .int .i64 a0_2] 48 (0, 0)) (by (with_reducible repeat first | refine Ze ?_ _ | refine Zg ?_ | refine Zf ?_ _); exact BK125.out) hb)
      have n3_ := Zb.mk (Zn (g := gb126) (o := .cells #[.bool a1_0, .slice A1_1 l1_1.length c1_1, .int .i64 a1_2] 48 (0, 0)) (by (with_reducible repeat first | refine Ze ?_ _ | refine Zg ?_ | refine Zf ?_ _); exact BK126.out) hb)
      have n4_ := Zb.mk (Zn (g := gb127) (o := .cells #[.bool false, .slice none 0 0, .int .i64 0] 48 (0, 0)) (by (with_reducible repeat first | refine Ze ?_ _ | refine Zg ?_ | refine Zf ?_ _); exact BK127.out) hb)
      have n5_ := Zb.mk (Zl (by repeat (with_reducible first | exact HB.out | apply Zc | apply Za | apply Zd | refine Zh ?_ GE125.out | refine Zh ?_ GE126.out | refine Zh ?_ GE127.out)) hb)
      clear HO132
      clear BK125
      clear BK126
      clear BK127
      clear HB
      have HO132 := n0_
      have HO136 := n1_
      have BK125 := n2_
      have BK126 := n3_
      have BK127 := n4_
      have HB := n5_
      clear n0_ n1_ n2_ n3_ n4_ n5_
      (try clear hb)
      (try clear hb2)
      (try clear hk)
      (try clear hi)
      (try clear ho0)
      obtain ⟨Ao33, co33, eo33⟩ := Kd.Zy HO136.out
      (first | subst eo33 | (injection eo33 with f1_ f2_ f3_; have f4_ := f1_.symm; have f5_ := f3_.symm; clear f1_ f2_ f3_; subst f4_; subst f5_))
      refine hK.out _ _ ⟨(Zk BK125.out 0).trans rfl, (Zk BK125.out 1).trans rfl, (Zk BK125.out 2).trans rfl⟩ (fun hHeld => ?_)
      clear hK K
      refine norm_ (a' := ?_) ?_ ?_
      rotate_left
      ·show Act.put _ (some 52) _ = _
       simp only [Act.put, List.setIfInBounds_toArray, List.set_cons_zero, List.set_cons_succ, Zx, ZA]
       rfl
      refine ZM (i := 7) (N := some 55) (v := ?_) (a' := ?_) #[true, true, true, true, true, true, true, true, false] rfl rfl (ZD HT_.out (by kernel_rfl)) (fun _ _ _ h => h) (Or.inl ⟨by rfl, ?_⟩) ?_ ?_
      rotate_left
      ·intro w'
       go_simp
       with_reducible rfl
      rotate_left
      ·simp only [Act.put, List.setIfInBounds_toArray, List.set_cons_zero, List.set_cons_succ, Zx, ZA]
       rfl
      refine one_ (i := 8) (N := none) #[true, true, true, true, true, true, true, true, true] rfl rfl (one_of HT_.out (by kernel_rfl)) (by decide) (fun K hK => ?_)
      have hs34 : w32.cell? ⟨gb127, 0, none⟩ = some (.bool false) := (Zk BK127.out 0).trans rfl
      have hfs34 := Zj BK127.out 0
      have hns34_0 := NB125_127.out
      have hns34_1 := NB126_127.out
      have hms34_0 := NB127_125.out
      have hms34_1 := NB127_126.out
      have hs35 : w32.cell? ⟨gb127, 1, none⟩ = some (.slice none 0 0) := (Zk BK127.out 1).trans rfl
      have hfs35 := Zj BK127.out 1
      have hns35_0 := NB125_127.out
      have hns35_1 := NB126_127.out
      have hms35_0 := NB127_125.out
      have hms35_1 := NB127_126.out
      have hs36 : w32.cell? ⟨gb127, 2, none⟩ = some (.int .i64 0) := (Zk BK127.out 2).trans rfl
      have hfs36 := Zj BK127.out 2
      have hns36_0 := NB125_127.out
      have hns36_1 := NB126_127.out
      have hms36_0 := NB127_125.out
      have hms36_1 := NB127_126.out
      refine skip_ (w1 := ?_) (by rfl) rfl ?_ ?_
      rotate_left
      ·go_simp
       rfl
      refine hK.out _ _ ⟨((cell_far (p := ⟨gb127, _, none⟩) NB125_127.out _).trans (((cell_far (p := ⟨gb127, _, none⟩) NB125_127.out _).trans (((cell_far (p := ⟨gb127, _, none⟩) NB125_127.out _).trans (hHeld.1)))))), ((cell_far (p := ⟨gb127, _, none⟩) NB125_127.out _).trans (((cell_far (p := ⟨gb127, _, none⟩) NB125_127.out _).trans (((cell_far (p := ⟨gb127, _, none⟩) NB125_127.out _).trans (hHeld.2.1)))))), ((cell_far (p := ⟨gb127, _, none⟩) NB125_127.out _).trans (((cell_far (p := ⟨gb127, _, none⟩) NB125_127.out _).trans (((cell_far (p := ⟨gb127, _, none⟩) NB125_127.out _).trans (hHeld.2.2))))))⟩ (fun hHeld => ?_)
      clear hK K
      refine done_ (done_of HT_.out (by kernel_rfl)) ?_
      try go_wp2
      refine bodyPost_ret (results_cell_row rfl _ _ gb127 48 #[.bool a0_0, .slice Ao33 t134.length co33, .int .i64 a0_2] (0, 0) _ rfl (by (with_reducible repeat first | refine Ze ?_ _ | refine Zg ?_ | refine Zf ?_ _); refine Zu (cs := #[.bool a0_0, .slice Ao33 t134.length co33, .int .i64 0]) ?_ 2 _ rfl; (with_reducible repeat first | refine Ze ?_ _ | refine Zg ?_ | refine Zf ?_ _); refine Zu (cs := #[.bool a0_0, .slice none 0 0, .int .i64 0]) ?_ 1 _ rfl; (with_reducible repeat first | refine Ze ?_ _ | refine Zg ?_ | refine Zf ?_ _); refine Zu (cs := #[.bool false, .slice none 0 0, .int .i64 0]) ?_ 0 _ rfl; (with_reducible repeat first | refine Ze ?_ _ | refine Zg ?_ | refine Zf ?_ _); exact BK127.out) Try.underlying48 rfl (by kernel_rfl)) rfl ?_
      exact ⟨_, by first | rfl | (simp [errW_none, errW_some] <;> rfl) | (simp [*, errW_none, errW_some] <;> rfl), by (with_reducible repeat first | apply Kd.Zm | apply Kd.Zo); exact Kd.ZE (Kd.ZH (p := ⟨gb127, 2, none⟩) (Kd.ZH (p := ⟨gb127, 1, none⟩) (Kd.ZH (p := ⟨gb127, 0, none⟩) (Kd.ZI HO136.out BK127.out (by decide)) (fun _ hk => hk.2) (.bool a0_0)) (fun _ hk => hk.2) (.slice Ao33 t134.length co33)) (fun _ hk => hk.2) (.int .i64 a0_2)) (fun _ hk => trivial), by repeat (with_reducible first | exact HB.out | apply Zc | apply Za | apply Zd | refine Zh ?_ GE125.out | refine Zh ?_ GE126.out | refine Zh ?_ GE127.out)⟩
     ·rw [if_neg c11] at H
      have c11b0 : decide (0 ≤ t133) = false := decide_eq_false c11
      clear c11
      replace H := Option.bind_eq_some_iff.mp H
      obtain ⟨t137, A370, H⟩ := H
      replace H : (some (a1_0, t137, a0_2)) = some (r1, r2, r3) := H
      have A37 := Zb.mk A370
      clear A370
      simp only [Option.some.injEq, Prod.mk.injEq] at H
      obtain ⟨rfl, rfl, rfl⟩ := H
      go_enter Try.func24, Try.ntmps24
      try go_wp2_with (first | ((with_reducible refine Zt (N := 2) rfl ?_); refine Zs ?hg (N := 2) ?hd (cs := #[.bool a0_0, .slice A0_1 l0_1.length c0_1, .int .i64 a0_2]) (t := 48) ?hr ?_; (case hd => rfl); (case hg => rfl); (case hr => first | (go_simp; done) | (go_simp; rfl)); intro gb125 hg w38 hbox hb; have n0_ := Zb.mk (Zl (by repeat (with_reducible first | exact HB.out | apply Zc | apply Za | apply Zd)) hb); have n1_ := Zb.mk (hbox); have n2_ := Zb.mk ((by rw [hg]; exact (Zi (by repeat (with_reducible first | exact HB.out | apply Zc | apply Za | apply Zd))) : w.heap.size ≤ gb125)); have n3_ := Zb.mk ((by rw [hg]; exact (Zi (by repeat (with_reducible first | exact HB.out | apply Zc | apply Za | apply Zd))) : w.heap.size ≤ gb125)); clear HB; have HB := n0_; have BK125 := n1_; have GW125 := n2_; have GE125 := n3_; clear n0_ n1_ n2_ n3_; clear hb hbox hg) | ((with_reducible refine Zt (N := 3) rfl ?_); refine Zs ?hg (N := 3) ?hd (cs := #[.bool a1_0, .slice A1_1 l1_1.length c1_1, .int .i64 a1_2]) (t := 48) ?hr ?_; (case hd => rfl); (case hg => rfl); (case hr => first | (go_simp; done) | (go_simp; rfl)); intro gb126 hg w39 hbox hb; have n0_ := Zb.mk (Zn (g := gb125) (o := .cells #[.bool a0_0, .slice A0_1 l0_1.length c0_1, .int .i64 a0_2] 48 (0, 0)) (by (with_reducible repeat first | refine Ze ?_ _ | refine Zg ?_ | refine Zf ?_ _); exact BK125.out) hb); have n1_ := Zb.mk (Zl (by repeat (with_reducible first | exact HB.out | apply Zc | apply Za | apply Zd | refine Zh ?_ GE125.out)) hb); have n2_ := Zb.mk (hbox); have n3_ := Zb.mk ((by rw [hg]; exact (Zi (by repeat (with_reducible first | exact HB.out | apply Zc | apply Za | apply Zd | refine Zh ?_ GE125.out))) : w.heap.size ≤ gb126)); have n4_ := Zb.mk ((by rw [hg]; exact (Zi (by repeat (with_reducible first | exact HB.out | apply Zc | apply Za | apply Zd | refine Zh ?_ GE125.out))) : w.heap.size ≤ gb126)); have n5_ := Zb.mk ((by rw [hg]; exact Nat.ne_of_lt (Zw (g := gb125) (o := .cells #[.bool a0_0, .slice A0_1 l0_1.length c0_1, .int .i64 a0_2] 48 (0, 0)) (by (with_reducible repeat first | refine Ze ?_ _ | refine Zg ?_ | refine Zf ?_ _); exact BK125.out)) : gb125 ≠ gb126)); have n6_ := Zb.mk ((by rw [hg]; exact Nat.ne_of_gt (Zw (g := gb125) (o := .cells #[.bool a0_0, .slice A0_1 l0_1.length c0_1, .int .i64 a0_2] 48 (0, 0)) (by (with_reducible repeat first | refine Ze ?_ _ | refine Zg ?_ | refine Zf ?_ _); exact BK125.out)) : gb126 ≠ gb125)); clear BK125; clear HB; have BK125 := n0_; have HB := n1_; have BK126 := n2_; have GW126 := n3_; have GE126 := n4_; have NB125_126 := n5_; have NB126_125 := n6_; clear n0_ n1_ n2_ n3_ n4_ n5_ n6_; clear hb hbox hg) | ((with_reducible refine Zt (N := 4) rfl ?_); refine Zs ?hg (N := 4) ?hd (cs := #[.bool false, .slice none 0 0, .int .i64 0]) (t := 48) ?hr ?_; (case hd => rfl); (case hg => rfl); (case hr => first | (go_simp; done) | (go_simp; rfl)); intro gb127 hg w40 hbox hb; have n0_ := Zb.mk (Zn (g := gb125) (o := .cells #[.bool a0_0, .slice A0_1 l0_1.length c0_1, .int .i64 a0_2] 48 (0, 0)) (by (with_reducible repeat first | refine Ze ?_ _ | refine Zg ?_ | refine Zf ?_ _); exact BK125.out) hb); have n1_ := Zb.mk (Zn (g := gb126) (o := .cells #[.bool a1_0, .slice A1_1 l1_1.length c1_1, .int .i64 a1_2] 48 (0, 0)) (by (with_reducible repeat first | refine Ze ?_ _ | refine Zg ?_ | refine Zf ?_ _); exact BK126.out) hb); have n2_ := Zb.mk (Zl (by repeat (with_reducible first | exact HB.out | apply Zc | apply Za | apply Zd | refine Zh ?_ GE125.out | refine Zh ?_ GE126.out)) hb); have n3_ := Zb.mk (hbox); have n4_ := Zb.mk ((by rw [hg]; exact (Zi (by repeat (with_reducible first | exact HB.out | apply Zc | apply Za | apply Zd | refine Zh ?_ GE125.out | refine Zh ?_ GE126.out))) : w.heap.size ≤ gb127)); have n5_ := Zb.mk ((by rw [hg]; exact (Zi (by repeat (with_reducible first | exact HB.out | apply Zc | apply Za | apply Zd | refine Zh ?_ GE125.out | refine Zh ?_ GE126.out))) : w.heap.size ≤ gb127)); have n6_ := Zb.mk ((by rw [hg]; exact Nat.ne_of_lt (Zw (g := gb125) (o := .cells #[.bool a0_0, .slice A0_1 l0_1.length c0_1, .int .i64 a0_2] 48 (0, 0)) (by (with_reducible repeat first | refine Ze ?_ _ | refine Zg ?_ | refine Zf ?_ _); exact BK125.out)) : gb125 ≠ gb127)); have n7_ := Zb.mk ((by rw [hg]; exact Nat.ne_of_gt (Zw (g := gb125) (o := .cells #[.bool a0_0, .slice A0_1 l0_1.length c0_1, .int .i64 a0_2] 48 (0, 0)) (by (with_reducible repeat first | refine Ze ?_ _ | refine Zg ?_ | refine Zf ?_ _); exact BK125.out)) : gb127 ≠ gb125)); have n8_ := Zb.mk ((by rw [hg]; exact Nat.ne_of_lt (Zw (g := gb126) (o := .cells #[.bool a1_0, .slice A1_1 l1_1.length c1_1, .int .i64 a1_2] 48 (0, 0)) (by (with_reducible repeat first | refine Ze ?_ _ | refine Zg ?_ | refine Zf ?_ _); exact BK126.out)) : gb126 ≠ gb127)); have n9_ := Zb.mk ((by rw [hg]; exact Nat.ne_of_gt (Zw (g := gb126) (o := .cells #[.bool a1_0, .slice A1_1 l1_1.length c1_1, .int .i64 a1_2] 48 (0, 0)) (by (with_reducible repeat first | refine Ze ?_ _ | refine Zg ?_ | refine Zf ?_ _); exact BK126.out)) : gb127 ≠ gb126)); clear BK125; clear BK126; clear HB; have BK125 := n0_; have BK126 := n1_; have HB := n2_; have BK127 := n3_; have GW127 := n4_; have GE127 := n5_; have NB125_127 := n6_; have NB127_125 := n7_; have NB126_127 := n8_; have NB127_126 := n9_; clear n0_ n1_ n2_ n3_ n4_ n5_ n6_ n7_ n8_ n9_; clear hb hbox hg; have hnb41 := NB125_126.out; have hnc41 := NB126_125.out; have hnb42 := NB125_127.out; have hnc42 := NB127_125.out; have hcz43_0 : w40.cell? ⟨gb125, 0, none⟩ = some (.bool a0_0) := (Zk BK125.out 0).trans rfl; have hcz43_1 : w40.cell? ⟨gb125, 1, none⟩ = some (.slice A0_1 l0_1.length c0_1) := (Zk BK125.out 1).trans rfl; have hcz43_2 : w40.cell? ⟨gb125, 2, none⟩ = some (.int .i64 a0_2) := (Zk BK125.out 2).trans rfl; have hfz43_0 := Zj BK125.out 0; have hfz43_1 := Zj BK125.out 1; have hfz43_2 := Zj BK125.out 2) | ((with_reducible refine Zp (f := 54) rfl ?_); refine ZB (some 8) rfl rfl Try.func54 (by kernel_rfl) rfl #[.agg #[.bool a0_0, .slice A0_1 l0_1.length c0_1, .int .i64 a0_2]] rfl (by (try simp only [List.map_toArray, List.map_cons, List.map_nil]); first | done | rfl | (simp only [List.length_drop, List.length_take]; rfl)) ?_; (with_reducible refine (r00Num_Zero.calls k a0_0 _ _ l0_1 a0_2 false _ ?side1 ?side2 A3.out).mono ?_); (case side1 => repeat (first | exact (Kd.C_below HR0_1.out HB.out) | (with_reducible refine Kd.ZC ?_ _) | (with_reducible refine Kd.ZF ?_ _) | (with_reducible refine Kd.ZN ?_))); (case side2 => exact HC0_1.out); rintro e w44 ⟨rfl, hb⟩; refine ⟨_, rfl, ?_⟩; have n0_ := Zb.mk (Zn (g := gb125) (o := .cells #[.bool a0_0, .slice A0_1 l0_1.length c0_1, .int .i64 a0_2] 48 (0, 0)) (by (with_reducible repeat first | refine Ze ?_ _ | refine Zg ?_ | refine Zf ?_ _); exact BK125.out) hb); have n1_ := Zb.mk (Zn (g := gb126) (o := .cells #[.bool a1_0, .slice A1_1 l1_1.length c1_1, .int .i64 a1_2] 48 (0, 0)) (by (with_reducible repeat first | refine Ze ?_ _ | refine Zg ?_ | refine Zf ?_ _); exact BK126.out) hb); have n2_ := Zb.mk (Zn (g := gb127) (o := .cells #[.bool false, .slice none 0 0, .int .i64 0] 48 (0, 0)) (by (with_reducible repeat first | refine Ze ?_ _ | refine Zg ?_ | refine Zf ?_ _); exact BK127.out) hb); have n3_ := Zb.mk (Zl (by repeat (with_reducible first | exact HB.out | apply Zc | apply Za | apply Zd | refine Zh ?_ GE125.out | refine Zh ?_ GE126.out | refine Zh ?_ GE127.out)) hb); clear BK125; clear BK126; clear BK127; clear HB; have BK125 := n0_; have BK126 := n1_; have BK127 := n2_; have HB := n3_; clear n0_ n1_ n2_ n3_; (try clear hb); (try clear hb2); (try clear hk); (try clear hi); have hnb45 := NB126_127.out; have hnc45 := NB127_126.out; have hcz46_0 : w44.cell? ⟨gb126, 0, none⟩ = some (.bool a1_0) := (Zk BK126.out 0).trans rfl; have hcz46_1 : w44.cell? ⟨gb126, 1, none⟩ = some (.slice A1_1 l1_1.length c1_1) := (Zk BK126.out 1).trans rfl; have hcz46_2 : w44.cell? ⟨gb126, 2, none⟩ = some (.int .i64 a1_2) := (Zk BK126.out 2).trans rfl; have hfz46_0 := Zj BK126.out 0; have hfz46_1 := Zj BK126.out 1; have hfz46_2 := Zj BK126.out 2) | ((with_reducible refine Zp (f := 54) rfl ?_); refine ZB (some 11) rfl rfl Try.func54 (by kernel_rfl) rfl #[.agg #[.bool a1_0, .slice A1_1 l1_1.length c1_1, .int .i64 a1_2]] rfl (by (try simp only [List.map_toArray, List.map_cons, List.map_nil]); first | done | rfl | (simp only [List.length_drop, List.length_take]; rfl)) ?_; (with_reducible refine (r00Num_Zero.calls k a1_0 _ _ l1_1 a1_2 false _ ?side1 ?side2 A5.out).mono ?_); (case side1 => repeat (first | exact (Kd.C_below HR1_1.out HB.out) | (with_reducible refine Kd.ZC ?_ _) | (with_reducible refine Kd.ZF ?_ _) | (with_reducible refine Kd.ZN ?_))); (case side2 => exact HC1_1.out); rintro e w47 ⟨rfl, hb⟩; refine ⟨_, rfl, ?_⟩; have n0_ := Zb.mk (Zn (g := gb125) (o := .cells #[.bool a0_0, .slice A0_1 l0_1.length c0_1, .int .i64 a0_2] 48 (0, 0)) (by (with_reducible repeat first | refine Ze ?_ _ | refine Zg ?_ | refine Zf ?_ _); exact BK125.out) hb); have n1_ := Zb.mk (Zn (g := gb126) (o := .cells #[.bool a1_0, .slice A1_1 l1_1.length c1_1, .int .i64 a1_2] 48 (0, 0)) (by (with_reducible repeat first | refine Ze ?_ _ | refine Zg ?_ | refine Zf ?_ _); exact BK126.out) hb); have n2_ := Zb.mk (Zn (g := gb127) (o := .cells #[.bool false, .slice none 0 0, .int .i64 0] 48 (0, 0)) (by (with_reducible repeat first | refine Ze ?_ _ | refine Zg ?_ | refine Zf ?_ _); exact BK127.out) hb); have n3_ := Zb.mk (Zl (by repeat (with_reducible first | exact HB.out | apply Zc | apply Za | apply Zd | refine Zh ?_ GE125.out | refine Zh ?_ GE126.out | refine Zh ?_ GE127.out)) hb); clear BK125; clear BK126; clear BK127; clear HB; have BK125 := n0_; have BK126 := n1_; have BK127 := n2_; have HB := n3_; clear n0_ n1_ n2_ n3_; (try clear hb); (try clear hb2); (try clear hk); (try clear hi); have hcz48_0 : w47.cell? ⟨gb125, 0, none⟩ = some (.bool a0_0) := (Zk BK125.out 0).trans rfl; have hcz48_1 : w47.cell? ⟨gb125, 1, none⟩ = some (.slice A0_1 l0_1.length c0_1) := (Zk BK125.out 1).trans rfl; have hcz48_2 : w47.cell? ⟨gb125, 2, none⟩ = some (.int .i64 a0_2) := (Zk BK125.out 2).trans rfl; have hfz48_0 := Zj BK125.out 0; have hfz48_1 := Zj BK125.out 1; have hfz48_2 := Zj BK125.out 2; have hcz49_0 : w47.cell? ⟨gb126, 0, none⟩ = some (.bool a1_0) := (Zk BK126.out 0).trans rfl; have hcz49_1 : w47.cell? ⟨gb126, 1, none⟩ = some (.slice A1_1 l1_1.length c1_1) := (Zk BK126.out 1).trans rfl; have hcz49_2 : w47.cell? ⟨gb126, 2, none⟩ = some (.int .i64 a1_2) := (Zk BK126.out 2).trans rfl; have hfz49_0 := Zj BK126.out 0; have hfz49_1 := Zj BK126.out 1; have hfz49_2 := Zj BK126.out 2))
      have n0_ := Zb.mk (Zg BK125.out)
      have n1_ := Zb.mk (Zg BK126.out)
      have n2_ := Zb.mk (Zg BK127.out)
      have n3_ := Zb.mk (Zd HB.out)
      clear BK125
      clear BK126
      clear BK127
      clear HB
      have BK125 := n0_
      have BK126 := n1_
      have BK127 := n2_
      have HB := n3_
      clear n0_ n1_ n2_ n3_
      refine start_ (n := 12) (S := fun w' => w'.cell? ⟨gb125, 0, none⟩ = some (.bool a0_0) ∧ w'.cell? ⟨gb125, 1, none⟩ = some (.slice A0_1 l0_1.length c0_1) ∧ w'.cell? ⟨gb125, 2, none⟩ = some (.int .i64 a0_2) ∧ w'.cell? ⟨gb126, 0, none⟩ = some (.bool a1_0) ∧ w'.cell? ⟨gb126, 1, none⟩ = some (.slice A1_1 l1_1.length c1_1) ∧ w'.cell? ⟨gb126, 2, none⟩ = some (.int .i64 a1_2)) (ds := []) #[false, false, false, false, false, false, false, false, false, false, false, false] (by kernel_rfl) rfl rfl ⟨(Zk BK125.out 0).trans rfl, (Zk BK125.out 1).trans rfl, (Zk BK125.out 2).trans rfl, (Zk BK126.out 0).trans rfl, (Zk BK126.out 1).trans rfl, (Zk BK126.out 2).trans rfl⟩ (fun hHeld => ?_); refine with_tabW r00Plus.tab7 r00Plus.bits7 (fun HT_ HW_ => ?_)
      generalize w47.drew = w50 at BK125 BK126 BK127 HB hHeld ⊢
      refine ZM (i := 0) (N := some 21) (v := ?_) (a' := ?_) #[true, false, false, false, false, false, false, false, false, false, false, false] rfl rfl (ZD HT_.out (by kernel_rfl)) (fun _ _ _ h => h) (Or.inl ⟨by rfl, ?_⟩) ?_ ?_
      rotate_left
      ·intro w'
       go_simp
       with_reducible rfl
      rotate_left
      ·simp only [Act.put, List.setIfInBounds_toArray, List.set_cons_zero, List.set_cons_succ, Zx, ZA]
       rfl
      refine ZM (i := 2) (N := some 23) (v := ?_) (a' := ?_) #[true, false, true, false, false, false, false, false, false, false, false, false] rfl rfl (ZD HT_.out (by kernel_rfl)) (fun _ _ _ h => h) (Or.inl ⟨by rfl, ?_⟩) ?_ ?_
      rotate_left
      ·intro w'
       go_simp
       with_reducible rfl
      rotate_left
      ·simp only [Act.put, List.setIfInBounds_toArray, List.set_cons_zero, List.set_cons_succ, Zx, ZA]
       rfl
      refine ZM (i := 4) (N := some 25) (v := ?_) (a' := ?_) #[true, false, true, false, true, false, false, false, false, false, false, false] rfl rfl (ZD HT_.out (by kernel_rfl)) (fun _ _ _ h => h) (Or.inl ⟨by rfl, ?_⟩) ?_ ?_
      rotate_left
      ·intro w'
       go_simp
       with_reducible rfl
      rotate_left
      ·simp only [Act.put, List.setIfInBounds_toArray, List.set_cons_zero, List.set_cons_succ, Zx, ZA]
       rfl
      refine ZM (i := 6) (N := some 27) (v := ?_) (a' := ?_) #[true, false, true, false, true, false, true, false, false, false, false, false] rfl rfl (ZD HT_.out (by kernel_rfl)) (fun _ _ _ h => h) (Or.inl ⟨by rfl, ?_⟩) ?_ ?_
      rotate_left
      ·intro w'
       go_simp
       with_reducible rfl
      rotate_left
      ·simp only [Act.put, List.setIfInBounds_toArray, List.set_cons_zero, List.set_cons_succ, Zx, ZA]
       rfl
      refine take_ (i := 1) (N := some 22) (v := ?_) (a' := ?_) #[true, true, true, false, true, false, true, false, false, false, false, false] rfl rfl (take_ofW HT_.out HW_.out (by kernel_rfl)) (fun _ _ _ h => h) (Or.inl ⟨by rfl, ?_⟩) hHeld ?_ ?_
      rotate_left
      ·rintro w' ⟨s0, s1, s2, s3, s4, s5⟩
       go_simp
       with_reducible rfl
      rotate_left
      ·simp only [Act.put, List.setIfInBounds_toArray, List.set_cons_zero, List.set_cons_succ, Zx, ZA]
       rfl
      refine take_ (i := 3) (N := some 24) (v := ?_) (a' := ?_) #[true, true, true, true, true, false, true, false, false, false, false, false] rfl rfl (take_ofW HT_.out HW_.out (by kernel_rfl)) (fun _ _ _ h => h) (Or.inl ⟨by rfl, ?_⟩) hHeld ?_ ?_
      rotate_left
      ·rintro w' ⟨s0, s1, s2, s3, s4, s5⟩
       go_simp
       with_reducible rfl
      rotate_left
      ·simp only [Act.put, List.setIfInBounds_toArray, List.set_cons_zero, List.set_cons_succ, Zx, ZA]
       rfl
      refine take_ (i := 5) (N := some 26) (v := ?_) (a' := ?_) #[true, true, true, true, true, true, true, false, false, false, false, false] rfl rfl (take_ofW HT_.out HW_.out (by kernel_rfl)) (fun _ _ _ h => h) (Or.inl ⟨by rfl, ?_⟩) hHeld ?_ ?_
      rotate_left
      ·rintro w' ⟨s0, s1, s2, s3, s4, s5⟩
       go_simp
       with_reducible rfl
      rotate_left
      ·simp only [Act.put, List.setIfInBounds_toArray, List.set_cons_zero, List.set_cons_succ, Zx, ZA]
       rfl
      refine take_ (i := 7) (N := some 28) (v := ?_) (a' := ?_) #[true, true, true, true, true, true, true, true, false, false, false, false] rfl rfl (take_ofW HT_.out HW_.out (by kernel_rfl)) (fun _ _ _ h => h) (Or.inl ⟨by rfl, ?_⟩) hHeld ?_ ?_
      rotate_left
      ·rintro w' ⟨s0, s1, s2, s3, s4, s5⟩
       go_simp
       with_reducible rfl
      rotate_left
      ·simp only [Act.put, List.setIfInBounds_toArray, List.set_cons_zero, List.set_cons_succ, Zx, ZA]
       rfl
      refine ZM (i := 8) (N := some 29) (v := ?_) (a' := ?_) #[true, true, true, true, true, true, true, true, true, false, false, false] rfl rfl (ZD HT_.out (by kernel_rfl)) (fun _ _ _ h => h) (Or.inl ⟨by rfl, ?_⟩) ?_ ?_
      rotate_left
      ·intro w'
       go_simp
       with_reducible rfl
      rotate_left
      ·simp only [Act.put, List.setIfInBounds_toArray, List.set_cons_zero, List.set_cons_succ, Zx, ZA]
       rfl
      refine one_ (i := 9) (N := some 30) #[true, true, true, true, true, true, true, true, true, true, false, false] rfl rfl (one_of HT_.out (by kernel_rfl)) (by decide) (fun K hK => ?_)
      refine goes_ Try.func55 (by kernel_rfl) rfl #[.slice A1_1 l1_1.length c1_1, .int .i64 (wrap64 (a1_2 - a0_2))] (by rfl) rfl rfl (by (try simp only [List.map_toArray, List.map_cons, List.map_nil]); first | done | rfl | (simp only [List.length_drop, List.length_take]; rfl)) ?_
      with_reducible refine (r00NatUp.calls k _ _ l1_1 (wrap64 (a1_2 - a0_2)) t130 _ ?side1 ?side2 A8.out).mono ?_
      (case side1 => repeat (first | exact (Kd.C_below HR1_1.out HB.out) | (with_reducible refine Kd.ZC ?_ _) | (with_reducible refine Kd.ZF ?_ _) | (with_reducible refine Kd.ZN ?_)))
      (case side2 => exact HC1_1.out)
      rintro e w51 ⟨v131, rfl, ho0, hb⟩
      refine ⟨_, rfl, ?_⟩
      have n0_ := Zb.mk (Kd.ZG ho0 (Zi (by repeat (with_reducible first | exact HB.out | apply Zc | apply Za | apply Zd | refine Zh ?_ GE125.out | refine Zh ?_ GE126.out | refine Zh ?_ GE127.out))))
      have n1_ := Zb.mk (Zn (g := gb125) (o := .cells #[.bool a0_0, .slice A0_1 l0_1.length c0_1, .int .i64 a0_2] 48 (0, 0)) (by (with_reducible repeat first | refine Ze ?_ _ | refine Zg ?_ | refine Zf ?_ _); exact BK125.out) hb)
      have n2_ := Zb.mk (Zn (g := gb126) (o := .cells #[.bool a1_0, .slice A1_1 l1_1.length c1_1, .int .i64 a1_2] 48 (0, 0)) (by (with_reducible repeat first | refine Ze ?_ _ | refine Zg ?_ | refine Zf ?_ _); exact BK126.out) hb)
      have n3_ := Zb.mk (Zn (g := gb127) (o := .cells #[.bool false, .slice none 0 0, .int .i64 0] 48 (0, 0)) (by (with_reducible repeat first | refine Ze ?_ _ | refine Zg ?_ | refine Zf ?_ _); exact BK127.out) hb)
      have n4_ := Zb.mk (Zl (by repeat (with_reducible first | exact HB.out | apply Zc | apply Za | apply Zd | refine Zh ?_ GE125.out | refine Zh ?_ GE126.out | refine Zh ?_ GE127.out)) hb)
      clear BK125
      clear BK126
      clear BK127
      clear HB
      have HO132 := n0_
      have BK125 := n1_
      have BK126 := n2_
      have BK127 := n3_
      have HB := n4_
      clear n0_ n1_ n2_ n3_ n4_
      (try clear hb)
      (try clear hb2)
      (try clear hk)
      (try clear hi)
      (try clear ho0)
      refine hK.out _ _ ⟨(Zk BK125.out 0).trans rfl, (Zk BK125.out 1).trans rfl, (Zk BK125.out 2).trans rfl, (Zk BK126.out 0).trans rfl, (Zk BK126.out 1).trans rfl, (Zk BK126.out 2).trans rfl⟩ (fun hHeld => ?_)
      clear hK K
      refine norm_ (a' := ?_) ?_ ?_
      rotate_left
      ·show Act.put _ (some 30) _ = _
       simp only [Act.put, List.setIfInBounds_toArray, List.set_cons_zero, List.set_cons_succ, Zx, ZA]
       rfl
      refine ZM (i := 10) (N := some 5) (v := ?_) (a' := ?_) #[true, true, true, true, true, true, true, true, true, true, true, false] rfl rfl (ZD HT_.out (by kernel_rfl)) (fun _ _ _ h => h) (Or.inl ⟨by rfl, ?_⟩) ?_ ?_
      rotate_left
      ·intro w'
       go_simp
       with_reducible rfl
      rotate_left
      ·simp only [Act.put, List.setIfInBounds_toArray, List.set_cons_zero, List.set_cons_succ, Zx, ZA]
       rfl
      refine ZM (i := 11) (N := some 6) (v := ?_) (a' := ?_) #[true, true, true, true, true, true, true, true, true, true, true, true] rfl rfl (ZD HT_.out (by kernel_rfl)) (fun _ _ _ h => h) (Or.inl ⟨by rfl, ?_⟩) ?_ ?_
      rotate_left
      ·intro w'
       go_simp
       with_reducible rfl
      rotate_left
      ·simp only [Act.put, List.setIfInBounds_toArray, List.set_cons_zero, List.set_cons_succ, Zx, ZA]
       rfl
      refine done_ (done_of HT_.out (by kernel_rfl)) ?_
      have hcz52_0 : w51.cell? ⟨gb125, 0, none⟩ = some (.bool a0_0) := (Zk BK125.out 0).trans rfl
      have hcz52_1 : w51.cell? ⟨gb125, 1, none⟩ = some (.slice A0_1 l0_1.length c0_1) := (Zk BK125.out 1).trans rfl
      have hcz52_2 : w51.cell? ⟨gb125, 2, none⟩ = some (.int .i64 a0_2) := (Zk BK125.out 2).trans rfl
      have hfz52_0 := Zj BK125.out 0
      have hfz52_1 := Zj BK125.out 1
      have hfz52_2 := Zj BK125.out 2
      have hcz53_0 : w51.cell? ⟨gb126, 0, none⟩ = some (.bool a1_0) := (Zk BK126.out 0).trans rfl
      have hcz53_1 : w51.cell? ⟨gb126, 1, none⟩ = some (.slice A1_1 l1_1.length c1_1) := (Zk BK126.out 1).trans rfl
      have hcz53_2 : w51.cell? ⟨gb126, 2, none⟩ = some (.int .i64 a1_2) := (Zk BK126.out 2).trans rfl
      have hfz53_0 := Zj BK126.out 0
      have hfz53_1 := Zj BK126.out 1
      have hfz53_2 := Zj BK126.out 2
      obtain ⟨Ao54, co54, eo54⟩ := Kd.Zy HO132.out
      subst eo54
      try go_wp2_with (first | ((with_reducible refine Zp (f := 57) rfl ?_); refine ZB (some 46) rfl rfl Try.func57 (by kernel_rfl) rfl #[.slice A0_1 l0_1.length c0_1, .slice Ao54 t130.length co54] rfl (by (try simp only [List.map_toArray, List.map_cons, List.map_nil]); first | done | rfl | (simp only [List.length_drop, List.length_take]; rfl)) ?_; (with_reducible refine (r00NatCmp.calls k _ _ l0_1 _ _ t130 t133 _ ?side1 ?side2 ?side3 ?side4 A10.out).mono ?_); (case side1 => repeat (first | exact (Kd.C_below HR0_1.out HB.out) | (with_reducible refine Kd.ZC ?_ _) | (with_reducible refine Kd.ZF ?_ _) | (with_reducible refine Kd.ZN ?_))); (case side2 => exact HC0_1.out); (case side3 => repeat (first | exact (Kd.Zv HO132.out).2.2 | (with_reducible refine Kd.ZC ?_ _) | (with_reducible refine Kd.ZF ?_ _) | (with_reducible refine Kd.ZN ?_))); (case side4 => exact (Kd.Zv HO132.out).2.1); rintro e w55 ⟨rfl, hb⟩; refine ⟨_, rfl, ?_⟩; have n0_ := Zb.mk (Kd.Zz (by (with_reducible repeat first | apply Kd.Zm | apply Kd.Zo); exact HO132.out) hb); have n1_ := Zb.mk (Zn (g := gb125) (o := .cells #[.bool a0_0, .slice A0_1 l0_1.length c0_1, .int .i64 a0_2] 48 (0, 0)) (by (with_reducible repeat first | refine Ze ?_ _ | refine Zg ?_ | refine Zf ?_ _); exact BK125.out) hb); have n2_ := Zb.mk (Zn (g := gb126) (o := .cells #[.bool a1_0, .slice A1_1 l1_1.length c1_1, .int .i64 a1_2] 48 (0, 0)) (by (with_reducible repeat first | refine Ze ?_ _ | refine Zg ?_ | refine Zf ?_ _); exact BK126.out) hb); have n3_ := Zb.mk (Zn (g := gb127) (o := .cells #[.bool false, .slice none 0 0, .int .i64 0] 48 (0, 0)) (by (with_reducible repeat first | refine Ze ?_ _ | refine Zg ?_ | refine Zf ?_ _); exact BK127.out) hb); have n4_ := Zb.mk (Zl (by repeat (with_reducible first | exact HB.out | apply Zc | apply Za | apply Zd | refine Zh ?_ GE125.out | refine Zh ?_ GE126.out | refine Zh ?_ GE127.out)) hb); clear HO132; clear BK125; clear BK126; clear BK127; clear HB; have HO132 := n0_; have BK125 := n1_; have BK126 := n2_; have BK127 := n3_; have HB := n4_; clear n0_ n1_ n2_ n3_ n4_; (try clear hb); (try clear hb2); (try clear hk); (try clear hi)))
      have n0_ := Zb.mk (Kd.Zo HO132.out)
      have n1_ := Zb.mk (Zg BK125.out)
      have n2_ := Zb.mk (Zg BK126.out)
      have n3_ := Zb.mk (Zg BK127.out)
      have n4_ := Zb.mk (Zd HB.out)
      clear HO132
      clear BK125
      clear BK126
      clear BK127
      clear HB
      have HO132 := n0_
      have BK125 := n1_
      have BK126 := n2_
      have BK127 := n3_
      have HB := n4_
      clear n0_ n1_ n2_ n3_ n4_
      refine start_ (n := 9) (S := fun w' => w'.cell? ⟨gb126, 0, none⟩ = some (.bool a1_0) ∧ w'.cell? ⟨gb126, 1, none⟩ = some (.slice A1_1 l1_1.length c1_1) ∧ w'.cell? ⟨gb126, 2, none⟩ = some (.int .i64 a1_2) ∧ w'.cell? ⟨gb125, 0, none⟩ = some (.bool a0_0) ∧ w'.cell? ⟨gb125, 1, none⟩ = some (.slice A0_1 l0_1.length c0_1) ∧ w'.cell? ⟨gb125, 2, none⟩ = some (.int .i64 a0_2)) (ds := []) #[false, false, false, false, false, false, false, false, false] (by kernel_rfl) rfl rfl ⟨(Zk BK126.out 0).trans rfl, (Zk BK126.out 1).trans rfl, (Zk BK126.out 2).trans rfl, (Zk BK125.out 0).trans rfl, (Zk BK125.out 1).trans rfl, (Zk BK125.out 2).trans rfl⟩ (fun hHeld => ?_); refine with_tabW r00Plus.tab12 r00Plus.bits12 (fun HT_ HW_ => ?_)
      generalize w55.drew = w56 at HO132 BK125 BK126 BK127 HB hHeld ⊢
      refine ZM (i := 0) (N := some 56) (v := ?_) (a' := ?_) #[true, false, false, false, false, false, false, false, false] rfl rfl (ZD HT_.out (by kernel_rfl)) (fun _ _ _ h => h) (Or.inl ⟨by rfl, ?_⟩) ?_ ?_
      rotate_left
      ·intro w'
       go_simp
       with_reducible rfl
      rotate_left
      ·simp only [Act.put, List.setIfInBounds_toArray, List.set_cons_zero, List.set_cons_succ, Zx, ZA]
       rfl
      refine ZM (i := 2) (N := some 58) (v := ?_) (a' := ?_) #[true, false, true, false, false, false, false, false, false] rfl rfl (ZD HT_.out (by kernel_rfl)) (fun _ _ _ h => h) (Or.inl ⟨by rfl, ?_⟩) ?_ ?_
      rotate_left
      ·intro w'
       go_simp
       with_reducible rfl
      rotate_left
      ·simp only [Act.put, List.setIfInBounds_toArray, List.set_cons_zero, List.set_cons_succ, Zx, ZA]
       rfl
      refine ZM (i := 3) (N := some 59) (v := ?_) (a' := ?_) #[true, false, true, true, false, false, false, false, false] rfl rfl (ZD HT_.out (by kernel_rfl)) (fun _ _ _ h => h) (Or.inl ⟨by rfl, ?_⟩) ?_ ?_
      rotate_left
      ·intro w'
       go_simp
       with_reducible rfl
      rotate_left
      ·simp only [Act.put, List.setIfInBounds_toArray, List.set_cons_zero, List.set_cons_succ, Zx, ZA]
       rfl
      refine ZM (i := 5) (N := some 61) (v := ?_) (a' := ?_) #[true, false, true, true, false, true, false, false, false] rfl rfl (ZD HT_.out (by kernel_rfl)) (fun _ _ _ h => h) (Or.inl ⟨by rfl, ?_⟩) ?_ ?_
      rotate_left
      ·intro w'
       go_simp
       with_reducible rfl
      rotate_left
      ·simp only [Act.put, List.setIfInBounds_toArray, List.set_cons_zero, List.set_cons_succ, Zx, ZA]
       rfl
      refine take_ (i := 1) (N := some 57) (v := ?_) (a' := ?_) #[true, true, true, true, false, true, false, false, false] rfl rfl (take_ofW HT_.out HW_.out (by kernel_rfl)) (fun _ _ _ h => h) (Or.inl ⟨by rfl, ?_⟩) hHeld ?_ ?_
      rotate_left
      ·rintro w' ⟨s0, s1, s2, s3, s4, s5⟩
       go_simp
       with_reducible rfl
      rotate_left
      ·simp only [Act.put, List.setIfInBounds_toArray, List.set_cons_zero, List.set_cons_succ, Zx, ZA]
       rfl
      refine take_ (i := 6) (N := some 62) (v := ?_) (a' := ?_) #[true, true, true, true, false, true, true, false, false] rfl rfl (take_ofW HT_.out HW_.out (by kernel_rfl)) (fun _ _ _ h => h) (Or.inl ⟨by rfl, ?_⟩) hHeld ?_ ?_
      rotate_left
      ·rintro w' ⟨s0, s1, s2, s3, s4, s5⟩
       go_simp
       with_reducible rfl
      rotate_left
      ·simp only [Act.put, List.setIfInBounds_toArray, List.set_cons_zero, List.set_cons_succ, Zx, ZA]
       rfl
      refine one_ (i := 4) (N := some 60) #[true, true, true, true, true, true, true, false, false] rfl rfl (one_of HT_.out (by kernel_rfl)) (by decide) (fun K hK => ?_)
      refine goes_ Try.func58 (by kernel_rfl) rfl #[.slice Ao54 t130.length co54, .slice A0_1 l0_1.length c0_1] (by rfl) rfl rfl (by (try simp only [List.map_toArray, List.map_cons, List.map_nil]); first | done | rfl | (simp only [List.length_drop, List.length_take]; rfl)) ?_
      with_reducible refine (r00NatSub.calls k _ _ t130 _ _ l0_1 t137 _ ?side1 ?side2 ?side3 ?side4 A37.out).mono ?_
      (case side1 => repeat (first | exact (Kd.Zv HO132.out).2.2 | (with_reducible refine Kd.ZC ?_ _) | (with_reducible refine Kd.ZF ?_ _) | (with_reducible refine Kd.ZN ?_)))
      (case side2 => exact (Kd.Zv HO132.out).2.1)
      (case side3 => repeat (first | exact (Kd.C_below HR0_1.out HB.out) | (with_reducible refine Kd.ZC ?_ _) | (with_reducible refine Kd.ZF ?_ _) | (with_reducible refine Kd.ZN ?_)))
      (case side4 => exact HC0_1.out)
      rintro e w57 ⟨v138, rfl, ho0, hb⟩
      refine ⟨_, rfl, ?_⟩
      have n0_ := Zb.mk (Kd.ZJ (by (with_reducible repeat first | apply Kd.Zm | apply Kd.Zo); exact HO132.out) (Kd.ZV ho0) hb)
      have n1_ := Zb.mk (Kd.ZG (Kd.R_new' ho0 (Kd.R_lt (by (with_reducible repeat first | apply Kd.Zm | apply Kd.Zo); exact HO132.out))) (Zi (by repeat (with_reducible first | exact HB.out | apply Zc | apply Za | apply Zd | refine Zh ?_ GE125.out | refine Zh ?_ GE126.out | refine Zh ?_ GE127.out))))
      have n2_ := Zb.mk (Zn (g := gb125) (o := .cells #[.bool a0_0, .slice A0_1 l0_1.length c0_1, .int .i64 a0_2] 48 (0, 0)) (by (with_reducible repeat first | refine Ze ?_ _ | refine Zg ?_ | refine Zf ?_ _); exact BK125.out) hb)
      have n3_ := Zb.mk (Zn (g := gb126) (o := .cells #[.bool a1_0, .slice A1_1 l1_1.length c1_1, .int .i64 a1_2] 48 (0, 0)) (by (with_reducible repeat first | refine Ze ?_ _ | refine Zg ?_ | refine Zf ?_ _); exact BK126.out) hb)
      have n4_ := Zb.mk (Zn (g := gb127) (o := .cells #[.bool false, .slice none 0 0, .int .i64 0] 48 (0, 0)) (by (with_reducible repeat first | refine Ze ?_ _ | refine Zg ?_ | refine Zf ?_ _); exact BK127.out) hb)
      have n5_ := Zb.mk (Zl (by repeat (with_reducible first | exact HB.out | apply Zc | apply Za | apply Zd | refine Zh ?_ GE125.out | refine Zh ?_ GE126.out | refine Zh ?_ GE127.out)) hb)
      clear HO132
      clear BK125
      clear BK126
      clear BK127
      clear HB
      have HO132 := n0_
      have HO139 := n1_
      have BK125 := n2_
      have BK126 := n3_
      have BK127 := n4_
      have HB := n5_
      clear n0_ n1_ n2_ n3_ n4_ n5_
      (try clear hb)
      (try clear hb2)
      (try clear hk)
      (try clear hi)
      (try clear ho0)
      obtain ⟨Ao58, co58, eo58⟩ := Kd.Zy HO139.out
      (first | subst eo58 | (injection eo58 with f1_ f2_ f3_; have f4_ := f1_.symm; have f5_ := f3_.symm; clear f1_ f2_ f3_; subst f4_; subst f5_))
      refine hK.out _ _ ⟨(Zk BK126.out 0).trans rfl, (Zk BK126.out 1).trans rfl, (Zk BK126.out 2).trans rfl, (Zk BK125.out 0).trans rfl, (Zk BK125.out 1).trans rfl, (Zk BK125.out 2).trans rfl⟩ (fun hHeld => ?_)
      clear hK K
      refine norm_ (a' := ?_) ?_ ?_
      rotate_left
      ·show Act.put _ (some 60) _ = _
       simp only [Act.put, List.setIfInBounds_toArray, List.set_cons_zero, List.set_cons_succ, Zx, ZA]
       rfl
      refine ZM (i := 7) (N := some 63) (v := ?_) (a' := ?_) #[true, true, true, true, true, true, true, true, false] rfl rfl (ZD HT_.out (by kernel_rfl)) (fun _ _ _ h => h) (Or.inl ⟨by rfl, ?_⟩) ?_ ?_
      rotate_left
      ·intro w'
       go_simp
       with_reducible rfl
      rotate_left
      ·simp only [Act.put, List.setIfInBounds_toArray, List.set_cons_zero, List.set_cons_succ, Zx, ZA]
       rfl
      refine one_ (i := 8) (N := none) #[true, true, true, true, true, true, true, true, true] rfl rfl (one_of HT_.out (by kernel_rfl)) (by decide) (fun K hK => ?_)
      have hs59 : w57.cell? ⟨gb127, 0, none⟩ = some (.bool false) := (Zk BK127.out 0).trans rfl
      have hfs59 := Zj BK127.out 0
      have hns59_0 := NB125_127.out
      have hns59_1 := NB126_127.out
      have hms59_0 := NB127_125.out
      have hms59_1 := NB127_126.out
      have hs60 : w57.cell? ⟨gb127, 1, none⟩ = some (.slice none 0 0) := (Zk BK127.out 1).trans rfl
      have hfs60 := Zj BK127.out 1
      have hns60_0 := NB125_127.out
      have hns60_1 := NB126_127.out
      have hms60_0 := NB127_125.out
      have hms60_1 := NB127_126.out
      have hs61 : w57.cell? ⟨gb127, 2, none⟩ = some (.int .i64 0) := (Zk BK127.out 2).trans rfl
      have hfs61 := Zj BK127.out 2
      have hns61_0 := NB125_127.out
      have hns61_1 := NB126_127.out
      have hms61_0 := NB127_125.out
      have hms61_1 := NB127_126.out
      refine skip_ (w1 := ?_) (by rfl) rfl ?_ ?_
      rotate_left
      ·go_simp
       rfl
      refine hK.out _ _ ⟨((cell_far (p := ⟨gb127, _, none⟩) NB126_127.out _).trans (((cell_far (p := ⟨gb127, _, none⟩) NB126_127.out _).trans (((cell_far (p := ⟨gb127, _, none⟩) NB126_127.out _).trans (hHeld.1)))))), ((cell_far (p := ⟨gb127, _, none⟩) NB126_127.out _).trans (((cell_far (p := ⟨gb127, _, none⟩) NB126_127.out _).trans (((cell_far (p := ⟨gb127, _, none⟩) NB126_127.out _).trans (hHeld.2.1)))))), ((cell_far (p := ⟨gb127, _, none⟩) NB126_127.out _).trans (((cell_far (p := ⟨gb127, _, none⟩) NB126_127.out _).trans (((cell_far (p := ⟨gb127, _, none⟩) NB126_127.out _).trans (hHeld.2.2.1)))))), ((cell_far (p := ⟨gb127, _, none⟩) NB125_127.out _).trans (((cell_far (p := ⟨gb127, _, none⟩) NB125_127.out _).trans (((cell_far (p := ⟨gb127, _, none⟩) NB125_127.out _).trans (hHeld.2.2.2.1)))))), ((cell_far (p := ⟨gb127, _, none⟩) NB125_127.out _).trans (((cell_far (p := ⟨gb127, _, none⟩) NB125_127.out _).trans (((cell_far (p := ⟨gb127, _, none⟩) NB125_127.out _).trans (hHeld.2.2.2.2.1)))))), ((cell_far (p := ⟨gb127, _, none⟩) NB125_127.out _).trans (((cell_far (p := ⟨gb127, _, none⟩) NB125_127.out _).trans (((cell_far (p := ⟨gb127, _, none⟩) NB125_127.out _).trans (hHeld.2.2.2.2.2))))))⟩ (fun hHeld => ?_)
      clear hK K
      refine done_ (done_of HT_.out (by kernel_rfl)) ?_
      try go_wp2
      refine bodyPost_ret (results_cell_row rfl _ _ gb127 48 #[.bool a1_0, .slice Ao58 t137.length co58, .int .i64 a0_2] (0, 0) _ rfl (by (with_reducible repeat first | refine Ze ?_ _ | refine Zg ?_ | refine Zf ?_ _); refine Zu (cs := #[.bool a1_0, .slice Ao58 t137.length co58, .int .i64 0]) ?_ 2 _ rfl; (with_reducible repeat first | refine Ze ?_ _ | refine Zg ?_ | refine Zf ?_ _); refine Zu (cs := #[.bool a1_0, .slice none 0 0, .int .i64 0]) ?_ 1 _ rfl; (with_reducible repeat first | refine Ze ?_ _ | refine Zg ?_ | refine Zf ?_ _); refine Zu (cs := #[.bool false, .slice none 0 0, .int .i64 0]) ?_ 0 _ rfl; (with_reducible repeat first | refine Ze ?_ _ | refine Zg ?_ | refine Zf ?_ _); exact BK127.out) Try.underlying48 rfl (by kernel_rfl)) rfl ?_
      exact ⟨_, by first | rfl | (simp [errW_none, errW_some] <;> rfl) | (simp [*, errW_none, errW_some] <;> rfl), by (with_reducible repeat first | apply Kd.Zm | apply Kd.Zo); exact Kd.ZE (Kd.ZH (p := ⟨gb127, 2, none⟩) (Kd.ZH (p := ⟨gb127, 1, none⟩) (Kd.ZH (p := ⟨gb127, 0, none⟩) (Kd.ZI HO139.out BK127.out (by decide)) (fun _ hk => hk.2) (.bool a1_0)) (fun _ hk => hk.2) (.slice Ao58 t137.length co58)) (fun _ hk => hk.2) (.int .i64 a0_2)) (fun _ hk => trivial), by repeat (with_reducible first | exact HB.out | apply Zc | apply Za | apply Zd | refine Zh ?_ GE125.out | refine Zh ?_ GE126.out | refine Zh ?_ GE127.out)⟩
def r00Num_Sign.f (k : Nat) (a0_0 : Bool) (l0_1 : List Int) (a0_2 : Int) : Option (Int) := (r00Num_Zero.f k a0_0 l0_1 a0_2).bind fun t141 => (if t141 = true then (some 0) else (if a0_0 = true then (some (-1)) else (some 1)))
set_option maxHeartbeats 8000000 in
set_option maxRecDepth 100000 in
theorem r00Num_Sign.calls (k : Nat) (a0_0 : Bool) (A0_1 : Option Addr) (c0_1 : Nat) (l0_1 : List Int) (a0_2 : Int) (r : Int) (w : World) (hr0_1 : Kd.C (Kd.int .u64) w A0_1 l0_1.length l0_1) (hc0_1 : l0_1.length ≤ c0_1) (h : r00Num_Sign.f k a0_0 l0_1 a0_2 = some r) :
  Calls Try.prog 60 #[.agg #[.bool a0_0, .slice A0_1 l0_1.length c0_1, .int .i64 a0_2]] w fun e w' => e = .returned (.int .i64 r) ∧ Below w.heap.size w w' := by
 have hu48 := Try.underlying48
 have HR0_1 := Zb.mk hr0_1
 have HC0_1 := Zb.mk hc0_1
 clear hr0_1 hc0_1
 have HB := Zb.mk (Below.refl w.heap.size w)
 have H : ((r00Num_Zero.f k a0_0 l0_1 a0_2).bind fun t141 => (if t141 = true then (some 0) else (if a0_0 = true then (some (-1)) else (some 1)))) = some r := h
 clear h
 replace H := Option.bind_eq_some_iff.mp H
 obtain ⟨t141, A20, H⟩ := H
 replace H : (if t141 = true then (some 0) else (if a0_0 = true then (some (-1)) else (some 1))) = some r := H
 have A2 := Zb.mk A20
 clear A20
 by_cases c3 : t141 = true
 ·subst c3
  have H1 : (some 0) = some r := by rw [if_pos rfl] at H; exact H
  clear H
  have H := H1
  clear H1
  obtain rfl := Option.some.inj H
  go_enter Try.func60, Try.ntmps60
  go_wp2_with (first | ((with_reducible refine Zt (N := 1) rfl ?_); refine Zs ?hg (N := 1) ?hd (cs := #[.bool a0_0, .slice A0_1 l0_1.length c0_1, .int .i64 a0_2]) (t := 48) ?hr ?_; (case hd => rfl); (case hg => rfl); (case hr => first | (go_simp; done) | (go_simp; rfl)); intro gb140 hg w4 hbox hb; have n0_ := Zb.mk (Zl (by repeat (with_reducible first | exact HB.out | apply Zc | apply Za | apply Zd)) hb); have n1_ := Zb.mk (hbox); have n2_ := Zb.mk ((by rw [hg]; exact (Zi (by repeat (with_reducible first | exact HB.out | apply Zc | apply Za | apply Zd))) : w.heap.size ≤ gb140)); have n3_ := Zb.mk ((by rw [hg]; exact (Zi (by repeat (with_reducible first | exact HB.out | apply Zc | apply Za | apply Zd))) : w.heap.size ≤ gb140)); clear HB; have HB := n0_; have BK140 := n1_; have GW140 := n2_; have GE140 := n3_; clear n0_ n1_ n2_ n3_; clear hb hbox hg; have hcz5_0 : w4.cell? ⟨gb140, 0, none⟩ = some (.bool a0_0) := (Zk BK140.out 0).trans rfl; have hcz5_1 : w4.cell? ⟨gb140, 1, none⟩ = some (.slice A0_1 l0_1.length c0_1) := (Zk BK140.out 1).trans rfl; have hcz5_2 : w4.cell? ⟨gb140, 2, none⟩ = some (.int .i64 a0_2) := (Zk BK140.out 2).trans rfl; have hfz5_0 := Zj BK140.out 0; have hfz5_1 := Zj BK140.out 1; have hfz5_2 := Zj BK140.out 2) | ((with_reducible refine Zp (f := 54) rfl ?_); refine ZB (some 4) rfl rfl Try.func54 (by kernel_rfl) rfl #[.agg #[.bool a0_0, .slice A0_1 l0_1.length c0_1, .int .i64 a0_2]] rfl (by (try simp only [List.map_toArray, List.map_cons, List.map_nil]); first | done | rfl | (simp only [List.length_drop, List.length_take]; rfl)) ?_; (with_reducible refine (r00Num_Zero.calls k a0_0 _ _ l0_1 a0_2 true _ ?side1 ?side2 A2.out).mono ?_); (case side1 => repeat (first | exact (Kd.C_below HR0_1.out HB.out) | (with_reducible refine Kd.ZC ?_ _) | (with_reducible refine Kd.ZF ?_ _) | (with_reducible refine Kd.ZN ?_))); (case side2 => exact HC0_1.out); rintro e w6 ⟨rfl, hb⟩; refine ⟨_, rfl, ?_⟩; have n0_ := Zb.mk (Zn (g := gb140) (o := .cells #[.bool a0_0, .slice A0_1 l0_1.length c0_1, .int .i64 a0_2] 48 (0, 0)) (by (with_reducible repeat first | refine Ze ?_ _ | refine Zg ?_ | refine Zf ?_ _); exact BK140.out) hb); have n1_ := Zb.mk (Zl (by repeat (with_reducible first | exact HB.out | apply Zc | apply Za | apply Zd | refine Zh ?_ GE140.out)) hb); clear BK140; clear HB; have BK140 := n0_; have HB := n1_; clear n0_ n1_; (try clear hb); (try clear hb2); (try clear hk); (try clear hi)))
  go_ret
  exact ⟨by first | rfl | (simp [errW_none, errW_some] <;> rfl) | (simp [*, errW_none, errW_some] <;> rfl), by repeat (with_reducible first | exact HB.out | apply Zc | apply Za | apply Zd | refine Zh ?_ GE140.out)⟩
 ·replace c3 := Bool.eq_false_iff.mpr c3
  subst c3
  have H1 : (if a0_0 = true then (some (-1)) else (some 1)) = some r := by rw [if_neg (show ¬ (false = true) by decide)] at H; exact H
  clear H
  have H := H1
  clear H1
  by_cases c7 : a0_0 = true
  ·subst c7
   have H1 : (some (-1)) = some r := by rw [if_pos rfl] at H; exact H
   clear H
   have H := H1
   clear H1
   obtain rfl := Option.some.inj H
   go_enter Try.func60, Try.ntmps60
   go_wp2_with (first | ((with_reducible refine Zt (N := 1) rfl ?_); refine Zs ?hg (N := 1) ?hd (cs := #[.bool true, .slice A0_1 l0_1.length c0_1, .int .i64 a0_2]) (t := 48) ?hr ?_; (case hd => rfl); (case hg => rfl); (case hr => first | (go_simp; done) | (go_simp; rfl)); intro gb140 hg w8 hbox hb; have n0_ := Zb.mk (Zl (by repeat (with_reducible first | exact HB.out | apply Zc | apply Za | apply Zd)) hb); have n1_ := Zb.mk (hbox); have n2_ := Zb.mk ((by rw [hg]; exact (Zi (by repeat (with_reducible first | exact HB.out | apply Zc | apply Za | apply Zd))) : w.heap.size ≤ gb140)); have n3_ := Zb.mk ((by rw [hg]; exact (Zi (by repeat (with_reducible first | exact HB.out | apply Zc | apply Za | apply Zd))) : w.heap.size ≤ gb140)); clear HB; have HB := n0_; have BK140 := n1_; have GW140 := n2_; have GE140 := n3_; clear n0_ n1_ n2_ n3_; clear hb hbox hg; have hcz9_0 : w8.cell? ⟨gb140, 0, none⟩ = some (.bool true) := (Zk BK140.out 0).trans rfl; have hcz9_1 : w8.cell? ⟨gb140, 1, none⟩ = some (.slice A0_1 l0_1.length c0_1) := (Zk BK140.out 1).trans rfl; have hcz9_2 : w8.cell? ⟨gb140, 2, none⟩ = some (.int .i64 a0_2) := (Zk BK140.out 2).trans rfl; have hfz9_0 := Zj BK140.out 0; have hfz9_1 := Zj BK140.out 1; have hfz9_2 := Zj BK140.out 2) | ((with_reducible refine Zp (f := 54) rfl ?_); refine ZB (some 4) rfl rfl Try.func54 (by kernel_rfl) rfl #[.agg #[.bool true, .slice A0_1 l0_1.length c0_1, .int .i64 a0_2]] rfl (by (try simp only [List.map_toArray, List.map_cons, List.map_nil]); first | done | rfl | (simp only [List.length_drop, List.length_take]; rfl)) ?_; (with_reducible refine (r00Num_Zero.calls k true _ _ l0_1 a0_2 false _ ?side1 ?side2 A2.out).mono ?_); (case side1 => repeat (first | exact (Kd.C_below HR0_1.out HB.out) | (with_reducible refine Kd.ZC ?_ _) | (with_reducible refine Kd.ZF ?_ _) | (with_reducible refine Kd.ZN ?_))); (case side2 => exact HC0_1.out); rintro e w10 ⟨rfl, hb⟩; refine ⟨_, rfl, ?_⟩; have n0_ := Zb.mk (Zn (g := gb140) (o := .cells #[.bool true, .slice A0_1 l0_1.length c0_1, .int .i64 a0_2] 48 (0, 0)) (by (with_reducible repeat first | refine Ze ?_ _ | refine Zg ?_ | refine Zf ?_ _); exact BK140.out) hb); have n1_ := Zb.mk (Zl (by repeat (with_reducible first | exact HB.out | apply Zc | apply Za | apply Zd | refine Zh ?_ GE140.out)) hb); clear BK140; clear HB; have BK140 := n0_; have HB := n1_; clear n0_ n1_; (try clear hb); (try clear hb2); (try clear hk); (try clear hi); have hcz11_0 : w10.cell? ⟨gb140, 0, none⟩ = some (.bool true) := (Zk BK140.out 0).trans rfl; have hcz11_1 : w10.cell? ⟨gb140, 1, none⟩ = some (.slice A0_1 l0_1.length c0_1) := (Zk BK140.out 1).trans rfl; have hcz11_2 : w10.cell? ⟨gb140, 2, none⟩ = some (.int .i64 a0_2) := (Zk BK140.out 2).trans rfl; have hfz11_0 := Zj BK140.out 0; have hfz11_1 := Zj BK140.out 1; have hfz11_2 := Zj BK140.out 2))
   go_ret
   exact ⟨by first | rfl | (simp [errW_none, errW_some] <;> rfl) | (simp [*, errW_none, errW_some] <;> rfl), by repeat (with_reducible first | exact HB.out | apply Zc | apply Za | apply Zd | refine Zh ?_ GE140.out)⟩
  ·replace c7 := Bool.eq_false_iff.mpr c7
   subst c7
   have H1 : (some 1) = some r := by rw [if_neg (show ¬ (false = true) by decide)] at H; exact H
   clear H
   have H := H1
   clear H1
   obtain rfl := Option.some.inj H
   go_enter Try.func60, Try.ntmps60
   go_wp2_with (first | ((with_reducible refine Zt (N := 1) rfl ?_); refine Zs ?hg (N := 1) ?hd (cs := #[.bool false, .slice A0_1 l0_1.length c0_1, .int .i64 a0_2]) (t := 48) ?hr ?_; (case hd => rfl); (case hg => rfl); (case hr => first | (go_simp; done) | (go_simp; rfl)); intro gb140 hg w12 hbox hb; have n0_ := Zb.mk (Zl (by repeat (with_reducible first | exact HB.out | apply Zc | apply Za | apply Zd)) hb); have n1_ := Zb.mk (hbox); have n2_ := Zb.mk ((by rw [hg]; exact (Zi (by repeat (with_reducible first | exact HB.out | apply Zc | apply Za | apply Zd))) : w.heap.size ≤ gb140)); have n3_ := Zb.mk ((by rw [hg]; exact (Zi (by repeat (with_reducible first | exact HB.out | apply Zc | apply Za | apply Zd))) : w.heap.size ≤ gb140)); clear HB; have HB := n0_; have BK140 := n1_; have GW140 := n2_; have GE140 := n3_; clear n0_ n1_ n2_ n3_; clear hb hbox hg; have hcz13_0 : w12.cell? ⟨gb140, 0, none⟩ = some (.bool false) := (Zk BK140.out 0).trans rfl; have hcz13_1 : w12.cell? ⟨gb140, 1, none⟩ = some (.slice A0_1 l0_1.length c0_1) := (Zk BK140.out 1).trans rfl; have hcz13_2 : w12.cell? ⟨gb140, 2, none⟩ = some (.int .i64 a0_2) := (Zk BK140.out 2).trans rfl; have hfz13_0 := Zj BK140.out 0; have hfz13_1 := Zj BK140.out 1; have hfz13_2 := Zj BK140.out 2) | ((with_reducible refine Zp (f := 54) rfl ?_); refine ZB (some 4) rfl rfl Try.func54 (by kernel_rfl) rfl #[.agg #[.bool false, .slice A0_1 l0_1.length c0_1, .int .i64 a0_2]] rfl (by (try simp only [List.map_toArray, List.map_cons, List.map_nil]); first | done | rfl | (simp only [List.length_drop, List.length_take]; rfl)) ?_; (with_reducible refine (r00Num_Zero.calls k false _ _ l0_1 a0_2 false _ ?side1 ?side2 A2.out).mono ?_); (case side1 => repeat (first | exact (Kd.C_below HR0_1.out HB.out) | (with_reducible refine Kd.ZC ?_ _) | (with_reducible refine Kd.ZF ?_ _) | (with_reducible refine Kd.ZN ?_))); (case side2 => exact HC0_1.out); rintro e w14 ⟨rfl, hb⟩; refine ⟨_, rfl, ?_⟩; have n0_ := Zb.mk (Zn (g := gb140) (o := .cells #[.bool false, .slice A0_1 l0_1.length c0_1, .int .i64 a0_2] 48 (0, 0)) (by (with_reducible repeat first | refine Ze ?_ _ | refine Zg ?_ | refine Zf ?_ _); exact BK140.out) hb); have n1_ := Zb.mk (Zl (by repeat (with_reducible first | exact HB.out | apply Zc | apply Za | apply Zd | refine Zh ?_ GE140.out)) hb); clear BK140; clear HB; have BK140 := n0_; have HB := n1_; clear n0_ n1_; (try clear hb); (try clear hb2); (try clear hk); (try clear hi); have hcz15_0 : w14.cell? ⟨gb140, 0, none⟩ = some (.bool false) := (Zk BK140.out 0).trans rfl; have hcz15_1 : w14.cell? ⟨gb140, 1, none⟩ = some (.slice A0_1 l0_1.length c0_1) := (Zk BK140.out 1).trans rfl; have hcz15_2 : w14.cell? ⟨gb140, 2, none⟩ = some (.int .i64 a0_2) := (Zk BK140.out 2).trans rfl; have hfz15_0 := Zj BK140.out 0; have hfz15_1 := Zj BK140.out 1; have hfz15_2 := Zj BK140.out 2))
   go_ret
   exact ⟨by first | rfl | (simp [errW_none, errW_some] <;> rfl) | (simp [*, errW_none, errW_some] <;> rfl), by repeat (with_reducible first | exact HB.out | apply Zc | apply Za | apply Zd | refine Zh ?_ GE140.out)⟩
end Go.Proofs.Ytbmddlldadbfnaa.BE
end
section
namespace Go.Proofs.Ytbmddlldadbfnaa.BE
open Go.RowKit Go.Proofs.Ytbmddlldadbfnaa.BA Go.Proofs.Ytbmddlldadbfnaa.BB Go.Proofs.YtbmddlldadbfnaaW.PrintWords Go.Proofs.YtbmddlldadbfnaaW.PrintLast Go.Proofs.YtbmddlldadbfnaaW.PrintMore
attribute [local go_sem] ZU ZS max_two min_two ZP ZO ZT ZR
set_option linter.unusedVariables false
set_option linter.unusedSimpArgs false
set_option maxHeartbeats 4000000 in
set_option maxRecDepth 100000 in
theorem minus_calls (n : Bool) (A : Option Addr) (c : Nat) (l : List Int) (e : Int) (w : World) :
  Calls Try.prog 50 #[.agg #[.bool n, .slice A l.length c, .int .i64 e]] w fun ev w' => ev = .returned (.agg #[.bool (!n), .slice A l.length c, .int .i64 e]) ∧ Below w.heap.size w w' := by
 have hu48 := Try.underlying48
 go_enter Try.func50, Try.ntmps50
 go_wp2_with fail
 have BR := blk_new (w.alloc (Obj.cells #[Value.bool n, Value.slice A l.length c, Value.int IntKind.i64 e] 48)) (Obj.cells #[Value.bool !n, Value.slice A l.length c, Value.int IntKind.i64 e] 48)
 rw [show (w.alloc (Obj.cells #[Value.bool n, Value.slice A l.length c, Value.int IntKind.i64 e] 48)).heap.size = w.heap.size + 1 by simp] at BR
 refine bodyPost_ret (results_cell_row rfl _ _ (w.heap.size + 1) 48 #[.bool !n, .slice A l.length c, .int .i64 e] (0, 0) _ rfl BR Try.underlying48 rfl (by kernel_rfl)) rfl ?_
 exact ⟨rfl, Zc (Zc (Below.refl _ _) _) _⟩
def r00Less.f (k : Nat) (n0 : Bool) (l0 : List Int) (e0 : Int) (n1 : Bool) (l1 : List Int) (e1 : Int) : Option (Bool × List Int × Int) := r00Plus.f k n0 l0 e0 (!n1) l1 e1
set_option maxHeartbeats 4000000 in
set_option maxRecDepth 100000 in
theorem r00Less.calls (k : Nat) (n0 : Bool) (A0 : Option Addr) (c0 : Nat) (l0 : List Int) (e0 : Int) (n1 : Bool) (A1 : Option Addr) (c1 : Nat) (l1 : List Int) (e1 : Int) (r1 : Bool) (r2 : List Int) (r3 : Int) (w : World)
  (hr0 : Kd.C (Kd.int .u64) w A0 l0.length l0) (hc0 : l0.length ≤ c0) (hr1 : Kd.C (Kd.int .u64) w A1 l1.length l1) (hc1 : l1.length ≤ c1) (h : r00Less.f k n0 l0 e0 n1 l1 e1 = some (r1, r2, r3)) :
  Calls Try.prog 62 #[.agg #[.bool n0, .slice A0 l0.length c0, .int .i64 e0], .agg #[.bool n1, .slice A1 l1.length c1, .int .i64 e1]] w fun e w' => ∃ v1_ : Value, e = .returned (.agg #[.bool r1, v1_, .int .i64 r3]) ∧ Kd.R (Kd.int .u64) 46 w' w.heap.size (fun _ => True) v1_ r2 ∧ Below w.heap.size w w' := by
 have HR0 := Zb.mk hr0
 have HC0 := Zb.mk hc0
 have HR1 := Zb.mk hr1
 have HC1 := Zb.mk hc1
 have HF := Zb.mk h
 clear hr0 hc0 hr1 hc1 h
 have hu48 := Try.underlying48
 have z1 : w.heap.size < w.heap.size + 1 := Nat.lt_succ_self _
 have hnx : w.heap.size + 1 + 1 ≠ w.heap.size := by omega
 have hny : w.heap.size + 1 + 1 ≠ w.heap.size + 1 := by omega
 go_enter Try.func62, Try.ntmps62
 go_wp2_with fail
 have ex : ∃ X : World, X = (((w.alloc (Obj.cells #[Value.bool n0, Value.slice A0 l0.length c0, Value.int IntKind.i64 e0] 48)).alloc
     (Obj.cells #[Value.bool n1, Value.slice A1 l1.length c1, Value.int IntKind.i64 e1] 48)).alloc
   (Obj.cells #[Value.bool false, Value.slice none 0 0, Value.int IntKind.i64 0] 48)) := ⟨_, rfl⟩
 obtain ⟨X, hX⟩ := ex
 have BX : X.drew.heap[w.heap.size]? = some (.cells #[Value.bool n0, Value.slice A0 l0.length c0, Value.int IntKind.i64 e0] 48 (0, 0)) := by rw [hX]; exact Zg (Zf (Zf (blk_new w _) _) _)
 have BY : X.drew.heap[w.heap.size + 1]? = some (.cells #[Value.bool n1, Value.slice A1 l1.length c1, Value.int IntKind.i64 e1] 48 (0, 0)) := by
  rw [hX]
  have := blk_new (w.alloc (Obj.cells #[Value.bool n0, Value.slice A0 l0.length c0, Value.int IntKind.i64 e0] 48)) (Obj.cells #[Value.bool n1, Value.slice A1 l1.length c1, Value.int IntKind.i64 e1] 48)
  rw [show (w.alloc (Obj.cells #[Value.bool n0, Value.slice A0 l0.length c0, Value.int IntKind.i64 e0] 48)).heap.size = w.heap.size + 1 by simp] at this
  exact Zg (Zf this _)
 have BR : X.drew.heap[w.heap.size + 1 + 1]? = some (.cells #[Value.bool false, Value.slice none 0 0, Value.int IntKind.i64 0] 48 (0, 0)) := by
  rw [hX]
  have := blk_new ((w.alloc (Obj.cells #[Value.bool n0, Value.slice A0 l0.length c0, Value.int IntKind.i64 e0] 48)).alloc (Obj.cells #[Value.bool n1, Value.slice A1 l1.length c1, Value.int IntKind.i64 e1] 48)) (Obj.cells #[Value.bool false, Value.slice none 0 0, Value.int IntKind.i64 0] 48)
  rw [show ((w.alloc (Obj.cells #[Value.bool n0, Value.slice A0 l0.length c0, Value.int IntKind.i64 e0] 48)).alloc (Obj.cells #[Value.bool n1, Value.slice A1 l1.length c1, Value.int IntKind.i64 e1] 48)).heap.size = w.heap.size + 1 + 1 by simp] at this
  exact Zg this
 have HB : Below w.heap.size w X.drew := by rw [hX]; exact Zd (Zc (Zc (Zc (Below.refl _ _) _) _) _)
 rw [← hX]
 clear hX
 refine start_ (n := 5) (S := fun w' => w'.cell? ⟨w.heap.size, 0, none⟩ = some (.bool n0) ∧ w'.cell? ⟨w.heap.size, 1, none⟩ = some (.slice A0 l0.length c0) ∧ w'.cell? ⟨w.heap.size, 2, none⟩ = some (.int .i64 e0) ∧ w'.cell? ⟨w.heap.size + 1, 0, none⟩ = some (.bool n1) ∧ w'.cell? ⟨w.heap.size + 1, 1, none⟩ = some (.slice A1 l1.length c1) ∧ w'.cell? ⟨w.heap.size + 1, 2, none⟩ = some (.int .i64 e1)) (ds := []) #[false, false, false, false, false] (by kernel_rfl) rfl rfl ⟨(Zk BX 0).trans rfl, (Zk BX 1).trans rfl, (Zk BX 2).trans rfl, (Zk BY 0).trans rfl, (Zk BY 1).trans rfl, (Zk BY 2).trans rfl⟩ (fun hHeld => ?_)
 generalize X.drew = w9 at BX BY BR HB hHeld ⊢
 refine take_ (i := 0) (N := some 5) (v := ?_) (a' := ?_) #[true, false, false, false, false] rfl rfl (by kernel_rfl) (fun _ _ _ h => h) (Or.inl ⟨by rfl, ?_⟩) hHeld ?_ ?_
 rotate_left
 ·rintro w' ⟨s0, s1, s2, s3, s4, s5⟩
  go_simp
  with_reducible rfl
 rotate_left
 ·simp only [Act.put, List.setIfInBounds_toArray, List.set_cons_zero, List.set_cons_succ, Zx, ZA]
  rfl
 refine take_ (i := 1) (N := some 6) (v := ?_) (a' := ?_) #[true, true, false, false, false] rfl rfl (by kernel_rfl) (fun _ _ _ h => h) (Or.inl ⟨by rfl, ?_⟩) hHeld ?_ ?_
 rotate_left
 ·rintro w' ⟨s0, s1, s2, s3, s4, s5⟩
  go_simp
  with_reducible rfl
 rotate_left
 ·simp only [Act.put, List.setIfInBounds_toArray, List.set_cons_zero, List.set_cons_succ, Zx, ZA]
  rfl
 refine one_ (i := 2) (N := some 7) #[true, true, true, false, false] rfl rfl (by kernel_rfl) (by decide) (fun K hK => ?_)
 refine goes_ Try.func50 (by kernel_rfl) rfl #[.agg #[.bool n1, .slice A1 l1.length c1, .int .i64 e1]] (by rfl) rfl rfl (by (try simp only [List.map_toArray, List.map_cons, List.map_nil]); first | done | rfl) ?_
 refine (minus_calls n1 A1 c1 l1 e1 _).mono ?_
 rintro e w10 ⟨rfl, hb⟩
 refine ⟨_, rfl, ?_⟩
 replace BX := Zn BX hb
 replace BY := Zn BY hb
 replace BR := Zn BR hb
 replace HB := HB.trans (hb.mono HB.size)
 clear hb hHeld
 refine hK.out _ _ ⟨(Zk BX 0).trans rfl, (Zk BX 1).trans rfl, (Zk BX 2).trans rfl, (Zk BY 0).trans rfl, (Zk BY 1).trans rfl, (Zk BY 2).trans rfl⟩ (fun hHeld => ?_)
 clear hK K
 refine norm_ (a' := ?_) ?_ ?_
 rotate_left
 ·show Act.put _ (some 7) _ = _
  simp only [Act.put, List.setIfInBounds_toArray, List.set_cons_zero, List.set_cons_succ, Zx, ZA]
  rfl
 refine one_ (i := 3) (N := some 8) #[true, true, true, true, false] rfl rfl (by kernel_rfl) (by decide) (fun K hK => ?_)
 refine goes_ Try.func24 (by kernel_rfl) rfl #[.agg #[.bool n0, .slice A0 l0.length c0, .int .i64 e0], .agg #[.bool (!n1), .slice A1 l1.length c1, .int .i64 e1]] (by rfl) rfl rfl (by (try simp only [List.map_toArray, List.map_cons, List.map_nil]); first | done | rfl) ?_
 refine (r00Plus.calls k n0 A0 c0 l0 e0 (!n1) A1 c1 l1 e1 r1 r2 r3 _ (Kd.C_below HR0.out HB) HC0.out (Kd.C_below HR1.out HB) HC1.out HF.out).mono ?_
 rintro e w12 ⟨v, rfl, ho, hb⟩
 obtain ⟨Av, cv, rfl⟩ := Kd.Zy ho
 refine ⟨_, rfl, ?_⟩
 replace BX := Zn BX hb
 replace BY := Zn BY hb
 have HO := Kd.ZG ho HB.size
 have NE := Kd.R_ne ho (Zn BR hb) (by decide)
 replace BR := Zn BR hb
 replace HB := HB.trans (hb.mono HB.size)
 clear hb hHeld ho
 refine hK.out _ _ ⟨(Zk BX 0).trans rfl, (Zk BX 1).trans rfl, (Zk BX 2).trans rfl, (Zk BY 0).trans rfl, (Zk BY 1).trans rfl, (Zk BY 2).trans rfl⟩ (fun hHeld => ?_)
 clear hK K
 refine norm_ (a' := ?_) ?_ ?_
 rotate_left
 ·show Act.put _ (some 8) _ = _
  simp only [Act.put, List.setIfInBounds_toArray, List.set_cons_zero, List.set_cons_succ, Zx, ZA]
  rfl
 refine one_ (i := 4) (N := none) #[true, true, true, true, true] rfl rfl (by kernel_rfl) (by decide) (fun K hK => ?_)
 have hs0 : w12.cell? ⟨w.heap.size + 1 + 1, 0, none⟩ = some (.bool false) := (Zk BR 0).trans rfl
 have hs1 : w12.cell? ⟨w.heap.size + 1 + 1, 1, none⟩ = some (.slice none 0 0) := (Zk BR 1).trans rfl
 have hs2 : w12.cell? ⟨w.heap.size + 1 + 1, 2, none⟩ = some (.int .i64 0) := (Zk BR 2).trans rfl
 have hf0 := Zj BR 0
 have hf1 := Zj BR 1
 have hf2 := Zj BR 2
 refine skip_ (w1 := ?_) (by rfl) rfl ?_ ?_
 rotate_left
 ·go_simp
  rfl
 have FX : ∀ (i : Nat) (u0 u1 u2 : Value), (((w12.setCell ⟨w.heap.size + 1 + 1, 0, none⟩ u0).setCell ⟨w.heap.size + 1 + 1, 1, none⟩ u1).setCell ⟨w.heap.size + 1 + 1, 2, none⟩ u2).cell? ⟨w.heap.size, i, none⟩ = w12.cell? ⟨w.heap.size, i, none⟩ := fun i u0 u1 u2 =>
  (cell_far (p := ⟨w.heap.size + 1 + 1, _, none⟩) hnx.symm _).trans ((cell_far (p := ⟨w.heap.size + 1 + 1, _, none⟩) hnx.symm _).trans (cell_far (p := ⟨w.heap.size + 1 + 1, _, none⟩) hnx.symm _))
 have FY : ∀ (i : Nat) (u0 u1 u2 : Value), (((w12.setCell ⟨w.heap.size + 1 + 1, 0, none⟩ u0).setCell ⟨w.heap.size + 1 + 1, 1, none⟩ u1).setCell ⟨w.heap.size + 1 + 1, 2, none⟩ u2).cell? ⟨w.heap.size + 1, i, none⟩ = w12.cell? ⟨w.heap.size + 1, i, none⟩ := fun i u0 u1 u2 =>
  (cell_far (p := ⟨w.heap.size + 1 + 1, _, none⟩) hny.symm _).trans ((cell_far (p := ⟨w.heap.size + 1 + 1, _, none⟩) hny.symm _).trans (cell_far (p := ⟨w.heap.size + 1 + 1, _, none⟩) hny.symm _))
 refine hK.out _ _ ⟨(FX _ _ _ _).trans hHeld.1, (FX _ _ _ _).trans hHeld.2.1, (FX _ _ _ _).trans hHeld.2.2.1, (FY _ _ _ _).trans hHeld.2.2.2.1, (FY _ _ _ _).trans hHeld.2.2.2.2.1, (FY _ _ _ _).trans hHeld.2.2.2.2.2⟩ (fun hHeld => ?_)
 clear hK K
 refine done_ (by kernel_rfl) ?_
 try go_wp2
 refine bodyPost_ret (results_cell_row rfl _ _ (w.heap.size + 1 + 1) 48 #[.bool r1, .slice Av r2.length cv, .int .i64 r3] (0, 0) _ rfl (by
  refine Zu (cs := #[.bool r1, .slice Av r2.length cv, .int .i64 0]) ?_ 2 _ rfl
  refine Zu (cs := #[.bool r1, .slice none 0 0, .int .i64 0]) ?_ 1 _ rfl
  refine Zu (cs := #[.bool false, .slice none 0 0, .int .i64 0]) ?_ 0 _ rfl
  exact BR) Try.underlying48 rfl (by kernel_rfl)) rfl ?_
 exact ⟨_, rfl, Kd.ZE (Kd.ZH (p := ⟨w.heap.size + 1 + 1, 2, none⟩) (Kd.ZH (p := ⟨w.heap.size + 1 + 1, 1, none⟩) (Kd.ZH (p := ⟨w.heap.size + 1 + 1, 0, none⟩) (Kd.ZI HO BR (by decide)) (fun _ hk => hk.2) (.bool r1)) (fun _ hk => hk.2) (.slice Av r2.length cv)) (fun _ hk => hk.2) (.int .i64 r3)) (fun _ _ => trivial), Zh (Zh (Zh HB (by omega)) (by omega)) (by omega)⟩
end Go.Proofs.Ytbmddlldadbfnaa.BE
end
section
namespace Go.Proofs.Ytbmddlldadbfnaa.BD
open Go.RowKit Go.Proofs.Ytbmddlldadbfnaa.BA Go.Proofs.Ytbmddlldadbfnaa.BB Go.Proofs.YtbmddlldadbfnaaW.PrintWords Go.Proofs.YtbmddlldadbfnaaW.PrintLast Go.Proofs.YtbmddlldadbfnaaW.PrintMore
attribute [local go_sem] ZU ZS max_two min_two ZP ZO ZT ZR
set_option linter.unusedVariables false
set_option linter.unusedSimpArgs false
def errW : Option Int → Value
 | none => .nilIface
 | some c => .iface 0 (.int .i64 c)
theorem errW_none : errW none = .nilIface := rfl
theorem errW_some (c : Int) : errW (some c) = .iface 0 (.int .i64 c) := rfl
theorem info46 : (Try.prog.info? 46).map (fun i => (i.zero, i.size, i.bytes)) = some (some (.int .u64 0), 1, 8) := by kernel_rfl
end Go.Proofs.Ytbmddlldadbfnaa.BD
end
section
namespace Go.Proofs.Ytbmddlldadbfnaa.BD
open Go.RowKit Go.Proofs.Ytbmddlldadbfnaa.BA Go.Proofs.Ytbmddlldadbfnaa.BB Go.Proofs.YtbmddlldadbfnaaW.PrintWords Go.Proofs.YtbmddlldadbfnaaW.PrintLast Go.Proofs.YtbmddlldadbfnaaW.PrintMore
attribute [local go_sem] ZU ZS max_two min_two ZP ZO ZT ZR
set_option linter.unusedVariables false
set_option linter.unusedSimpArgs false
theorem eqA35 (d : Nat) (w : World) (x0 y0 : Int) (x1 y1 : Int) :
  (Op.equalIn (d + 2) 35 (.agg #[.int .i64 x0, .int .i64 x1]) (.agg #[.int .i64 y0, .int .i64 y1])).run Try.prog w = .ok (x0 == y0 && (x1 == y1)) w := by
 refine eqA_of Try.underlying35 (by kernel_rfl) ?_
 refine eqf_cons (by rfl) (by go_simp; rfl) (by go_simp; rfl) (by go_simp) ?_
 exact eqf_last (by rfl) (by go_simp; rfl) (by go_simp; rfl) (by go_simp)
end Go.Proofs.Ytbmddlldadbfnaa.BD
end
section
namespace Go.Proofs.Ytbmddlldadbfnaa.BD
open Go.RowKit Go.Proofs.Ytbmddlldadbfnaa.BA Go.Proofs.Ytbmddlldadbfnaa.BB Go.Proofs.YtbmddlldadbfnaaW.PrintWords Go.Proofs.YtbmddlldadbfnaaW.PrintLast Go.Proofs.YtbmddlldadbfnaaW.PrintMore
attribute [local go_sem] ZU ZS max_two min_two ZP ZO ZT ZR
set_option linter.unusedVariables false
set_option linter.unusedSimpArgs false
attribute [local go_sem high] eqA35
def rkPick.f (a0 : Int) (a1 : Int) : Option (Int) := if a1 < 1 then (some 0) else (if a1 = 0 then (none) else (if (Int.tmod a0 a1) < 0 then (some (wrap64 ((Int.tmod a0 a1) + a1))) else (some (Int.tmod a0 a1))))
set_option maxHeartbeats 8000000 in
set_option maxRecDepth 100000 in
theorem rkPick.calls (a0 : Int) (a1 : Int) (r : Int) (w : World) (h : rkPick.f a0 a1 = some r) :
  Calls Try.prog 22 #[.int .i64 a0, .int .i64 a1] w fun e w' => e = .returned (.int .i64 r) ∧ Zq w w' := by
 have H : (if a1 < 1 then (some 0) else (if a1 = 0 then (none) else (if (Int.tmod a0 a1) < 0 then (some (wrap64 ((Int.tmod a0 a1) + a1))) else (some (Int.tmod a0 a1))))) = some r := h
 clear h
 by_cases c3 : a1 < 1
 ·rw [if_pos c3] at H
  have c3b0 : decide (a1 < 1) = true := decide_eq_true c3
  clear c3
  obtain rfl := Option.some.inj H
  go_enter Try.func22, Try.ntmps22
  go_wp2
  go_ret
  exact ⟨by first | rfl | (simp; done) | (simp [*]; done), by repeat (first | exact Zq.refl _ | apply Zq.step)⟩
 ·rw [if_neg c3] at H
  have c3b0 : decide (a1 < 1) = false := decide_eq_false c3
  clear c3
  by_cases c4 : a1 = 0
  ·rw [if_pos c4] at H
   exact absurd H (by simp)
  ·rw [if_neg c4] at H
   have c4b0 : (a1 == 0) = false := beq_eq_false_iff_ne.mpr c4
   have c4b1 : (a1 != 0) = true := bne_iff_ne.mpr c4
   by_cases c5 : (Int.tmod a0 a1) < 0
   ·rw [if_pos c5] at H
    have c5b0 : decide ((Int.tmod a0 a1) < 0) = true := decide_eq_true c5
    clear c5
    obtain rfl := Option.some.inj H
    go_enter Try.func22, Try.ntmps22
    go_wp2
    go_ret
    exact ⟨by first | rfl | (simp; done) | (simp [*]; done), by repeat (first | exact Zq.refl _ | apply Zq.step)⟩
   ·rw [if_neg c5] at H
    have c5b0 : decide ((Int.tmod a0 a1) < 0) = false := decide_eq_false c5
    clear c5
    obtain rfl := Option.some.inj H
    go_enter Try.func22, Try.ntmps22
    go_wp2
    go_ret
    exact ⟨by first | rfl | (simp; done) | (simp [*]; done), by repeat (first | exact Zq.refl _ | apply Zq.step)⟩
def w19of.f (a0 : Int) : Option (Int) := (rkPick.f a0 35).bind fun t101 => (some (wrap64 (2 + t101)))
set_option maxHeartbeats 8000000 in
set_option maxRecDepth 100000 in
theorem w19of.calls (a0 : Int) (r : Int) (w : World) (h : w19of.f a0 = some r) :
  Calls Try.prog 20 #[.int .i64 a0] w fun e w' => e = .returned (.int .i64 r) ∧ Zq w w' := by
 have H : ((rkPick.f a0 35).bind fun t101 => (some (wrap64 (2 + t101)))) = some r := h
 clear h
 replace H := Option.bind_eq_some_iff.mp H
 obtain ⟨t101, A20, H⟩ := H
 replace H : (some (wrap64 (2 + t101))) = some r := H
 have A2 := Zb.mk A20
 clear A20
 obtain rfl := Option.some.inj H
 go_enter Try.func20, Try.ntmps20
 go_wp2_with (first | ((with_reducible refine Zp (f := 22) rfl ?_); refine ZB (some 4) rfl rfl Try.func22 (by kernel_rfl) rfl #[.int .i64 a0, .int .i64 35] rfl (by (try simp only [List.map_toArray, List.map_cons, List.map_nil]); first | done | rfl | (simp only [List.length_drop, List.length_take]; rfl)) ?_; (with_reducible refine (rkPick.calls a0 35 t101 _ A2.out).mono ?_); rintro e w' ⟨rfl, ⟨nd, rfl⟩⟩; refine ⟨_, rfl, ?_⟩))
 go_ret
 exact ⟨by first | rfl | (simp; done) | (simp [*]; done), by repeat (first | exact Zq.refl _ | apply Zq.step)⟩
def rmWhole_Int.f (k : Nat) (a0_0 : Bool) (l0_1 : List Int) (a1 : Int) : Option (Bool × List Int) := if (l0_1.length : Int) > a1 then (if 0 ≤ a1 then (if a1 ≤ (l0_1.length : Int) then ((r00NatTrim.f k (l0_1.take (a1 : Int).toNat)).bind fun t105 => (if a0_0 = true then (some (decide (0 < t105.length), t105)) else (some (false, t105)))) else (none)) else (none)) else ((r00NatTrim.f k l0_1).bind fun t108 => (if a0_0 = true then (some (decide (0 < t108.length), t108)) else (some (false, t108))))
set_option maxHeartbeats 8000000 in
set_option maxRecDepth 100000 in
theorem rmWhole_Int.calls (k : Nat) (a0_0 : Bool) (A0_1 : Option Addr) (c0_1 : Nat) (l0_1 : List Int) (a1 : Int) (r1 : Bool) (r2 : List Int) (w : World) (hr0_1 : Kd.C (Kd.int .u64) w A0_1 l0_1.length l0_1) (hc0_1 : l0_1.length ≤ c0_1) (h : rmWhole_Int.f k a0_0 l0_1 a1 = some (r1, r2)) :
  Calls Try.prog 21 #[.agg #[.bool a0_0, .slice A0_1 l0_1.length c0_1], .int .i64 a1] w fun e w' => ∃ v1_ : Value, e = .returned (.agg #[.bool r1, v1_]) ∧ Kd.R (Kd.int .u64) 46 w' w.heap.size (fun _ => True) v1_ r2 ∧ Below w.heap.size w w' := by
 have hu40 := Try.underlying40
 have hu24 := Try.underlying24
 have HR0_1 := Zb.mk hr0_1
 have HC0_1 := Zb.mk hc0_1
 clear hr0_1 hc0_1
 have HB := Zb.mk (Below.refl w.heap.size w)
 have H : (if (l0_1.length : Int) > a1 then (if 0 ≤ a1 then (if a1 ≤ (l0_1.length : Int) then ((r00NatTrim.f k (l0_1.take (a1 : Int).toNat)).bind fun t105 => (if a0_0 = true then (some (decide (0 < t105.length), t105)) else (some (false, t105)))) else (none)) else (none)) else ((r00NatTrim.f k l0_1).bind fun t108 => (if a0_0 = true then (some (decide (0 < t108.length), t108)) else (some (false, t108))))) = some (r1, r2) := h
 clear h
 by_cases c3 : (l0_1.length : Int) > a1
 ·rw [if_pos c3] at H
  have c3b0 : decide (a1 < (l0_1.length : Int)) = true := decide_eq_true c3
  clear c3
  by_cases c4 : 0 ≤ a1
  ·rw [if_pos c4] at H
   have c4b0 := eq_true c4
   have c4b1 : decide (0 ≤ a1) = true := decide_eq_true c4
   clear c4
   by_cases c5 : a1 ≤ (l0_1.length : Int)
   ·rw [if_pos c5] at H
    have c5b0 := eq_true c5
    have c5b1 : decide (a1 ≤ (l0_1.length : Int)) = true := decide_eq_true c5
    clear c5
    replace H := Option.bind_eq_some_iff.mp H
    obtain ⟨t105, A60, H⟩ := H
    replace H : (if a0_0 = true then (some (decide (0 < t105.length), t105)) else (some (false, t105))) = some (r1, r2) := H
    have A6 := Zb.mk A60
    clear A60
    by_cases c7 : a0_0 = true
    ·subst c7
     have H1 : (some (decide (0 < t105.length), t105)) = some (r1, r2) := by rw [if_pos rfl] at H; exact H
     clear H
     have H := H1
     clear H1
     simp only [Option.some.injEq, Prod.mk.injEq] at H
     obtain ⟨rfl, rfl⟩ := H
     go_enter Try.func21, Try.ntmps21
     go_wp2_with (first | ((with_reducible refine Zt (N := 2) rfl ?_); (try (refine gate_guard (by rfl) ?_; dsimp only)); refine Zs ?hg (N := 2) ?hd (cs := #[.bool true, .slice A0_1 l0_1.length c0_1]) (t := 40) ?hr ?_; (case hd => rfl); (case hg => rfl); (case hr => first | (go_simp; done) | (go_simp; rfl)); intro gb102 hg w8 hbox hb; have n0_ := Zb.mk (Zl (by repeat (with_reducible first | exact HB.out | apply Zc | apply Za | apply Zd)) hb); have n1_ := Zb.mk (hbox); have n2_ := Zb.mk ((by rw [hg]; exact (Zi (by repeat (with_reducible first | exact HB.out | apply Zc | apply Za | apply Zd))) : w.heap.size ≤ gb102)); have n3_ := Zb.mk ((by rw [hg]; exact (Zi (by repeat (with_reducible first | exact HB.out | apply Zc | apply Za | apply Zd))) : w.heap.size ≤ gb102)); clear HB; have HB := n0_; have BK102 := n1_; have GW102 := n2_; have GE102 := n3_; clear n0_ n1_ n2_ n3_; clear hb hbox hg) | ((with_reducible refine Zt (N := 4) rfl ?_); (try (refine gate_guard (by rfl) ?_; dsimp only)); refine Zs ?hg (N := 4) ?hd (cs := #[.bool false, .slice none 0 0]) (t := 24) ?hr ?_; (case hd => rfl); (case hg => rfl); (case hr => first | (go_simp; done) | (go_simp; rfl)); intro gb103 hg w9 hbox hb; have n0_ := Zb.mk (Zn (g := gb102) (o := .cells #[.bool true, .slice A0_1 l0_1.length c0_1] 40 (0, 0)) (by (with_reducible repeat first | refine Ze ?_ _ | refine Zg ?_ | refine Zf ?_ _); exact BK102.out) hb); have n1_ := Zb.mk (Zl (by repeat (with_reducible first | exact HB.out | apply Zc | apply Za | apply Zd | refine Zh ?_ GE102.out)) hb); have n2_ := Zb.mk (hbox); have n3_ := Zb.mk ((by rw [hg]; exact (Zi (by repeat (with_reducible first | exact HB.out | apply Zc | apply Za | apply Zd | refine Zh ?_ GE102.out))) : w.heap.size ≤ gb103)); have n4_ := Zb.mk ((by rw [hg]; exact (Zi (by repeat (with_reducible first | exact HB.out | apply Zc | apply Za | apply Zd | refine Zh ?_ GE102.out))) : w.heap.size ≤ gb103)); have n5_ := Zb.mk ((by rw [hg]; exact Nat.ne_of_lt (Zw (g := gb102) (o := .cells #[.bool true, .slice A0_1 l0_1.length c0_1] 40 (0, 0)) (by (with_reducible repeat first | refine Ze ?_ _ | refine Zg ?_ | refine Zf ?_ _); exact BK102.out)) : gb102 ≠ gb103)); have n6_ := Zb.mk ((by rw [hg]; exact Nat.ne_of_gt (Zw (g := gb102) (o := .cells #[.bool true, .slice A0_1 l0_1.length c0_1] 40 (0, 0)) (by (with_reducible repeat first | refine Ze ?_ _ | refine Zg ?_ | refine Zf ?_ _); exact BK102.out)) : gb103 ≠ gb102)); clear BK102; clear HB; have BK102 := n0_; have HB := n1_; have BK103 := n2_; have GW103 := n3_; have GE103 := n4_; have NB102_103 := n5_; have NB103_102 := n6_; clear n0_ n1_ n2_ n3_ n4_ n5_ n6_; clear hb hbox hg; have hnb10 := NB102_103.out; have hnc10 := NB103_102.out; have hcz11_0 : w9.cell? ⟨gb102, 0, none⟩ = some (.bool true) := (Zk BK102.out 0).trans rfl; have hcz11_1 : w9.cell? ⟨gb102, 1, none⟩ = some (.slice A0_1 l0_1.length c0_1) := (Zk BK102.out 1).trans rfl; have hfz11_0 := Zj BK102.out 0; have hfz11_1 := Zj BK102.out 1; obtain ⟨i012, hi012, _, hsz12, _⟩ := info_parts info46; obtain ⟨hcut12, hA12, hC12⟩ := print_take_of (P := Try.prog) (Value.int .u64) 0 22 46 .i64 Try.underlying22 hi012 hsz12 A0_1 c0_1 l0_1 a1 (of_decide_eq_true (by first | (with_reducible assumption) | assumption)) (of_decide_eq_true (by first | (with_reducible assumption) | assumption)) HC0_1.out; have HR104 := Zb.mk (Kd.C_of_reads (h1 := fun _ => rfl) (hA12 _ (Kd.reads_of_C HR0_1.out))); have HC104 := Zb.mk hC12; clear hA12 hC12 hi012 hsz12) | ((with_reducible refine Zp (f := 53) rfl ?_); refine ZB (some 17) rfl rfl Try.func53 (by kernel_rfl) rfl #[.slice A0_1 (l0_1.take (a1 : Int).toNat).length c0_1] rfl (by (try simp only [List.map_toArray, List.map_cons, List.map_nil]); first | done | (rw [show (l0_1.take (a1 : Int).toNat).length = a1.toNat from (by rw [List.length_take]; have h_ : (a1 : Int) ≤ (l0_1.length : Int) := of_decide_eq_true (by first | (with_reducible assumption) | assumption); omega)] <;> rfl) | rfl | (simp only [List.length_drop, List.length_take]; rfl)) ?_; (with_reducible refine (r00NatTrim.calls k _ _ (l0_1.take (a1 : Int).toNat) t105 _ ?side1 ?side2 A6.out).mono ?_); (case side1 => repeat (first | exact (Kd.C_below HR104.out HB.out) | (with_reducible refine Kd.ZC ?_ _) | (with_reducible refine Kd.ZF ?_ _) | (with_reducible refine Kd.ZN ?_))); (case side2 => exact HC104.out); rintro e w13 ⟨v106, rfl, ho0, hb⟩; refine ⟨_, rfl, ?_⟩; have n0_ := Zb.mk (Kd.ZG ho0 (Zi (by repeat (with_reducible first | exact HB.out | apply Zc | apply Za | apply Zd | refine Zh ?_ GE102.out | refine Zh ?_ GE103.out)))); have n1_ := Zb.mk (Zn (g := gb102) (o := .cells #[.bool true, .slice A0_1 l0_1.length c0_1] 40 (0, 0)) (by (with_reducible repeat first | refine Ze ?_ _ | refine Zg ?_ | refine Zf ?_ _); exact BK102.out) hb); have n2_ := Zb.mk (Zn (g := gb103) (o := .cells #[.bool false, .slice none 0 0] 24 (0, 0)) (by (with_reducible repeat first | refine Ze ?_ _ | refine Zg ?_ | refine Zf ?_ _); exact BK103.out) hb); have n3_ := Zb.mk (Zl (by repeat (with_reducible first | exact HB.out | apply Zc | apply Za | apply Zd | refine Zh ?_ GE102.out | refine Zh ?_ GE103.out)) hb); clear BK102; clear BK103; clear HB; have HO107 := n0_; have BK102 := n1_; have BK103 := n2_; have HB := n3_; clear n0_ n1_ n2_ n3_; (try clear hb); (try clear hb2); (try clear hk); (try clear hi); (try clear ho0); have hcz14_0 : w13.cell? ⟨gb102, 0, none⟩ = some (.bool true) := (Zk BK102.out 0).trans rfl; have hcz14_1 : w13.cell? ⟨gb102, 1, none⟩ = some (.slice A0_1 l0_1.length c0_1) := (Zk BK102.out 1).trans rfl; have hfz14_0 := Zj BK102.out 0; have hfz14_1 := Zj BK102.out 1; obtain ⟨Ao15, co15, eo15⟩ := Kd.Zy HO107.out; subst eo15; have hcz16_0 : w13.cell? ⟨gb103, 0, none⟩ = some (.bool false) := (Zk BK103.out 0).trans rfl; have hcz16_1 : w13.cell? ⟨gb103, 1, none⟩ = some (.slice none 0 0) := (Zk BK103.out 1).trans rfl; have hfz16_0 := Zj BK103.out 0; have hfz16_1 := Zj BK103.out 1))
     refine bodyPost_ret (results_cell_row rfl _ _ gb103 24 #[.bool (decide (0 < t105.length)), .slice Ao15 t105.length co15] (0, 0) _ rfl (by (with_reducible repeat first | refine Ze ?_ _ | refine Zg ?_ | refine Zf ?_ _); refine Zu (cs := #[.bool (decide (0 < t105.length)), .slice none 0 0]) ?_ 1 _ rfl; (with_reducible repeat first | refine Ze ?_ _ | refine Zg ?_ | refine Zf ?_ _); refine Zu (cs := #[.bool false, .slice none 0 0]) ?_ 0 _ rfl; (with_reducible repeat first | refine Ze ?_ _ | refine Zg ?_ | refine Zf ?_ _); exact BK103.out) Try.underlying24 rfl (by kernel_rfl)) rfl ?_
     exact ⟨_, by first | rfl | (simp [errW_none, errW_some] <;> rfl) | (simp [*, errW_none, errW_some] <;> rfl), by (with_reducible repeat first | apply Kd.Zm | apply Kd.Zo); exact Kd.ZE (Kd.ZH (p := ⟨gb103, 1, none⟩) (Kd.ZH (p := ⟨gb103, 0, none⟩) (Kd.ZI HO107.out BK103.out (by decide)) (fun _ hk => hk.2) (.bool (decide (0 < t105.length)))) (fun _ hk => hk.2) (.slice Ao15 t105.length co15)) (fun _ hk => trivial), by repeat (with_reducible first | exact HB.out | apply Zc | apply Za | apply Zd | refine Zh ?_ GE102.out | refine Zh ?_ GE103.out)⟩
    ·replace c7 := Bool.eq_false_iff.mpr c7
     subst c7
     have H1 : (some (false, t105)) = some (r1, r2) := by rw [if_neg (show ¬ (false = true) by decide)] at H; exact H
     clear H
     have H := H1
     clear H1
     simp only [Option.some.injEq, Prod.mk.injEq] at H
     obtain ⟨rfl, rfl⟩ := H
     go_enter Try.func21, Try.ntmps21
     go_wp2_with (first | ((with_reducible refine Zt (N := 2) rfl ?_); (try (refine gate_guard (by rfl) ?_; dsimp only)); refine Zs ?hg (N := 2) ?hd (cs := #[.bool false, .slice A0_1 l0_1.length c0_1]) (t := 40) ?hr ?_; (case hd => rfl); (case hg => rfl); (case hr => first | (go_simp; done) | (go_simp; rfl)); intro gb102 hg w17 hbox hb; have n0_ := Zb.mk (Zl (by repeat (with_reducible first | exact HB.out | apply Zc | apply Za | apply Zd)) hb); have n1_ := Zb.mk (hbox); have n2_ := Zb.mk ((by rw [hg]; exact (Zi (by repeat (with_reducible first | exact HB.out | apply Zc | apply Za | apply Zd))) : w.heap.size ≤ gb102)); have n3_ := Zb.mk ((by rw [hg]; exact (Zi (by repeat (with_reducible first | exact HB.out | apply Zc | apply Za | apply Zd))) : w.heap.size ≤ gb102)); clear HB; have HB := n0_; have BK102 := n1_; have GW102 := n2_; have GE102 := n3_; clear n0_ n1_ n2_ n3_; clear hb hbox hg) | ((with_reducible refine Zt (N := 4) rfl ?_); (try (refine gate_guard (by rfl) ?_; dsimp only)); refine Zs ?hg (N := 4) ?hd (cs := #[.bool false, .slice none 0 0]) (t := 24) ?hr ?_; (case hd => rfl); (case hg => rfl); (case hr => first | (go_simp; done) | (go_simp; rfl)); intro gb103 hg w18 hbox hb; have n0_ := Zb.mk (Zn (g := gb102) (o := .cells #[.bool false, .slice A0_1 l0_1.length c0_1] 40 (0, 0)) (by (with_reducible repeat first | refine Ze ?_ _ | refine Zg ?_ | refine Zf ?_ _); exact BK102.out) hb); have n1_ := Zb.mk (Zl (by repeat (with_reducible first | exact HB.out | apply Zc | apply Za | apply Zd | refine Zh ?_ GE102.out)) hb); have n2_ := Zb.mk (hbox); have n3_ := Zb.mk ((by rw [hg]; exact (Zi (by repeat (with_reducible first | exact HB.out | apply Zc | apply Za | apply Zd | refine Zh ?_ GE102.out))) : w.heap.size ≤ gb103)); have n4_ := Zb.mk ((by rw [hg]; exact (Zi (by repeat (with_reducible first | exact HB.out | apply Zc | apply Za | apply Zd | refine Zh ?_ GE102.out))) : w.heap.size ≤ gb103)); have n5_ := Zb.mk ((by rw [hg]; exact Nat.ne_of_lt (Zw (g := gb102) (o := .cells #[.bool false, .slice A0_1 l0_1.length c0_1] 40 (0, 0)) (by (with_reducible repeat first | refine Ze ?_ _ | refine Zg ?_ | refine Zf ?_ _); exact BK102.out)) : gb102 ≠ gb103)); have n6_ := Zb.mk ((by rw [hg]; exact Nat.ne_of_gt (Zw (g := gb102) (o := .cells #[.bool false, .slice A0_1 l0_1.length c0_1] 40 (0, 0)) (by (with_reducible repeat first | refine Ze ?_ _ | refine Zg ?_ | refine Zf ?_ _); exact BK102.out)) : gb103 ≠ gb102)); clear BK102; clear HB; have BK102 := n0_; have HB := n1_; have BK103 := n2_; have GW103 := n3_; have GE103 := n4_; have NB102_103 := n5_; have NB103_102 := n6_; clear n0_ n1_ n2_ n3_ n4_ n5_ n6_; clear hb hbox hg; have hnb19 := NB102_103.out; have hnc19 := NB103_102.out; have hcz20_0 : w18.cell? ⟨gb102, 0, none⟩ = some (.bool false) := (Zk BK102.out 0).trans rfl; have hcz20_1 : w18.cell? ⟨gb102, 1, none⟩ = some (.slice A0_1 l0_1.length c0_1) := (Zk BK102.out 1).trans rfl; have hfz20_0 := Zj BK102.out 0; have hfz20_1 := Zj BK102.out 1; obtain ⟨i021, hi021, _, hsz21, _⟩ := info_parts info46; obtain ⟨hcut21, hA21, hC21⟩ := print_take_of (P := Try.prog) (Value.int .u64) 0 22 46 .i64 Try.underlying22 hi021 hsz21 A0_1 c0_1 l0_1 a1 (of_decide_eq_true (by first | (with_reducible assumption) | assumption)) (of_decide_eq_true (by first | (with_reducible assumption) | assumption)) HC0_1.out; have HR104 := Zb.mk (Kd.C_of_reads (h1 := fun _ => rfl) (hA21 _ (Kd.reads_of_C HR0_1.out))); have HC104 := Zb.mk hC21; clear hA21 hC21 hi021 hsz21) | ((with_reducible refine Zp (f := 53) rfl ?_); refine ZB (some 17) rfl rfl Try.func53 (by kernel_rfl) rfl #[.slice A0_1 (l0_1.take (a1 : Int).toNat).length c0_1] rfl (by (try simp only [List.map_toArray, List.map_cons, List.map_nil]); first | done | (rw [show (l0_1.take (a1 : Int).toNat).length = a1.toNat from (by rw [List.length_take]; have h_ : (a1 : Int) ≤ (l0_1.length : Int) := of_decide_eq_true (by first | (with_reducible assumption) | assumption); omega)] <;> rfl) | rfl | (simp only [List.length_drop, List.length_take]; rfl)) ?_; (with_reducible refine (r00NatTrim.calls k _ _ (l0_1.take (a1 : Int).toNat) t105 _ ?side1 ?side2 A6.out).mono ?_); (case side1 => repeat (first | exact (Kd.C_below HR104.out HB.out) | (with_reducible refine Kd.ZC ?_ _) | (with_reducible refine Kd.ZF ?_ _) | (with_reducible refine Kd.ZN ?_))); (case side2 => exact HC104.out); rintro e w22 ⟨v106, rfl, ho0, hb⟩; refine ⟨_, rfl, ?_⟩; have n0_ := Zb.mk (Kd.ZG ho0 (Zi (by repeat (with_reducible first | exact HB.out | apply Zc | apply Za | apply Zd | refine Zh ?_ GE102.out | refine Zh ?_ GE103.out)))); have n1_ := Zb.mk (Zn (g := gb102) (o := .cells #[.bool false, .slice A0_1 l0_1.length c0_1] 40 (0, 0)) (by (with_reducible repeat first | refine Ze ?_ _ | refine Zg ?_ | refine Zf ?_ _); exact BK102.out) hb); have n2_ := Zb.mk (Zn (g := gb103) (o := .cells #[.bool false, .slice none 0 0] 24 (0, 0)) (by (with_reducible repeat first | refine Ze ?_ _ | refine Zg ?_ | refine Zf ?_ _); exact BK103.out) hb); have n3_ := Zb.mk (Zl (by repeat (with_reducible first | exact HB.out | apply Zc | apply Za | apply Zd | refine Zh ?_ GE102.out | refine Zh ?_ GE103.out)) hb); clear BK102; clear BK103; clear HB; have HO107 := n0_; have BK102 := n1_; have BK103 := n2_; have HB := n3_; clear n0_ n1_ n2_ n3_; (try clear hb); (try clear hb2); (try clear hk); (try clear hi); (try clear ho0); have hcz23_0 : w22.cell? ⟨gb102, 0, none⟩ = some (.bool false) := (Zk BK102.out 0).trans rfl; have hcz23_1 : w22.cell? ⟨gb102, 1, none⟩ = some (.slice A0_1 l0_1.length c0_1) := (Zk BK102.out 1).trans rfl; have hfz23_0 := Zj BK102.out 0; have hfz23_1 := Zj BK102.out 1; obtain ⟨Ao24, co24, eo24⟩ := Kd.Zy HO107.out; subst eo24; have hcz25_0 : w22.cell? ⟨gb103, 0, none⟩ = some (.bool false) := (Zk BK103.out 0).trans rfl; have hcz25_1 : w22.cell? ⟨gb103, 1, none⟩ = some (.slice none 0 0) := (Zk BK103.out 1).trans rfl; have hfz25_0 := Zj BK103.out 0; have hfz25_1 := Zj BK103.out 1))
     refine bodyPost_ret (results_cell_row rfl _ _ gb103 24 #[.bool false, .slice Ao24 t105.length co24] (0, 0) _ rfl (by (with_reducible repeat first | refine Ze ?_ _ | refine Zg ?_ | refine Zf ?_ _); refine Zu (cs := #[.bool false, .slice none 0 0]) ?_ 1 _ rfl; (with_reducible repeat first | refine Ze ?_ _ | refine Zg ?_ | refine Zf ?_ _); refine Zu (cs := #[.bool false, .slice none 0 0]) ?_ 0 _ rfl; (with_reducible repeat first | refine Ze ?_ _ | refine Zg ?_ | refine Zf ?_ _); exact BK103.out) Try.underlying24 rfl (by kernel_rfl)) rfl ?_
     exact ⟨_, by first | rfl | (simp [errW_none, errW_some] <;> rfl) | (simp [*, errW_none, errW_some] <;> rfl), by (with_reducible repeat first | apply Kd.Zm | apply Kd.Zo); exact Kd.ZE (Kd.ZH (p := ⟨gb103, 1, none⟩) (Kd.ZH (p := ⟨gb103, 0, none⟩) (Kd.ZI HO107.out BK103.out (by decide)) (fun _ hk => hk.2) (.bool false)) (fun _ hk => hk.2) (.slice Ao24 t105.length co24)) (fun _ hk => trivial), by repeat (with_reducible first | exact HB.out | apply Zc | apply Za | apply Zd | refine Zh ?_ GE102.out | refine Zh ?_ GE103.out)⟩
   ·rw [if_neg c5] at H
    exact absurd H (by simp)
  ·rw [if_neg c4] at H
   exact absurd H (by simp)
 ·rw [if_neg c3] at H
  have c3b0 : decide (a1 < (l0_1.length : Int)) = false := decide_eq_false c3
  clear c3
  replace H := Option.bind_eq_some_iff.mp H
  obtain ⟨t108, A260, H⟩ := H
  replace H : (if a0_0 = true then (some (decide (0 < t108.length), t108)) else (some (false, t108))) = some (r1, r2) := H
  have A26 := Zb.mk A260
  clear A260
  by_cases c27 : a0_0 = true
  ·subst c27
   have H1 : (some (decide (0 < t108.length), t108)) = some (r1, r2) := by rw [if_pos rfl] at H; exact H
   clear H
   have H := H1
   clear H1
   simp only [Option.some.injEq, Prod.mk.injEq] at H
   obtain ⟨rfl, rfl⟩ := H
   go_enter Try.func21, Try.ntmps21
   go_wp2_with (first | ((with_reducible refine Zt (N := 2) rfl ?_); (try (refine gate_guard (by rfl) ?_; dsimp only)); refine Zs ?hg (N := 2) ?hd (cs := #[.bool true, .slice A0_1 l0_1.length c0_1]) (t := 40) ?hr ?_; (case hd => rfl); (case hg => rfl); (case hr => first | (go_simp; done) | (go_simp; rfl)); intro gb102 hg w28 hbox hb; have n0_ := Zb.mk (Zl (by repeat (with_reducible first | exact HB.out | apply Zc | apply Za | apply Zd)) hb); have n1_ := Zb.mk (hbox); have n2_ := Zb.mk ((by rw [hg]; exact (Zi (by repeat (with_reducible first | exact HB.out | apply Zc | apply Za | apply Zd))) : w.heap.size ≤ gb102)); have n3_ := Zb.mk ((by rw [hg]; exact (Zi (by repeat (with_reducible first | exact HB.out | apply Zc | apply Za | apply Zd))) : w.heap.size ≤ gb102)); clear HB; have HB := n0_; have BK102 := n1_; have GW102 := n2_; have GE102 := n3_; clear n0_ n1_ n2_ n3_; clear hb hbox hg) | ((with_reducible refine Zt (N := 4) rfl ?_); (try (refine gate_guard (by rfl) ?_; dsimp only)); refine Zs ?hg (N := 4) ?hd (cs := #[.bool false, .slice none 0 0]) (t := 24) ?hr ?_; (case hd => rfl); (case hg => rfl); (case hr => first | (go_simp; done) | (go_simp; rfl)); intro gb103 hg w29 hbox hb; have n0_ := Zb.mk (Zn (g := gb102) (o := .cells #[.bool true, .slice A0_1 l0_1.length c0_1] 40 (0, 0)) (by (with_reducible repeat first | refine Ze ?_ _ | refine Zg ?_ | refine Zf ?_ _); exact BK102.out) hb); have n1_ := Zb.mk (Zl (by repeat (with_reducible first | exact HB.out | apply Zc | apply Za | apply Zd | refine Zh ?_ GE102.out)) hb); have n2_ := Zb.mk (hbox); have n3_ := Zb.mk ((by rw [hg]; exact (Zi (by repeat (with_reducible first | exact HB.out | apply Zc | apply Za | apply Zd | refine Zh ?_ GE102.out))) : w.heap.size ≤ gb103)); have n4_ := Zb.mk ((by rw [hg]; exact (Zi (by repeat (with_reducible first | exact HB.out | apply Zc | apply Za | apply Zd | refine Zh ?_ GE102.out))) : w.heap.size ≤ gb103)); have n5_ := Zb.mk ((by rw [hg]; exact Nat.ne_of_lt (Zw (g := gb102) (o := .cells #[.bool true, .slice A0_1 l0_1.length c0_1] 40 (0, 0)) (by (with_reducible repeat first | refine Ze ?_ _ | refine Zg ?_ | refine Zf ?_ _); exact BK102.out)) : gb102 ≠ gb103)); have n6_ := Zb.mk ((by rw [hg]; exact Nat.ne_of_gt (Zw (g := gb102) (o := .cells #[.bool true, .slice A0_1 l0_1.length c0_1] 40 (0, 0)) (by (with_reducible repeat first | refine Ze ?_ _ | refine Zg ?_ | refine Zf ?_ _); exact BK102.out)) : gb103 ≠ gb102)); clear BK102; clear HB; have BK102 := n0_; have HB := n1_; have BK103 := n2_; have GW103 := n3_; have GE103 := n4_; have NB102_103 := n5_; have NB103_102 := n6_; clear n0_ n1_ n2_ n3_ n4_ n5_ n6_; clear hb hbox hg; have hnb30 := NB102_103.out; have hnc30 := NB103_102.out; have hcz31_0 : w29.cell? ⟨gb102, 0, none⟩ = some (.bool true) := (Zk BK102.out 0).trans rfl; have hcz31_1 : w29.cell? ⟨gb102, 1, none⟩ = some (.slice A0_1 l0_1.length c0_1) := (Zk BK102.out 1).trans rfl; have hfz31_0 := Zj BK102.out 0; have hfz31_1 := Zj BK102.out 1) | ((with_reducible refine Zp (f := 53) rfl ?_); refine ZB (some 17) rfl rfl Try.func53 (by kernel_rfl) rfl #[.slice A0_1 l0_1.length c0_1] rfl (by (try simp only [List.map_toArray, List.map_cons, List.map_nil]); first | done | rfl | (simp only [List.length_drop, List.length_take]; rfl)) ?_; (with_reducible refine (r00NatTrim.calls k _ _ l0_1 t108 _ ?side1 ?side2 A26.out).mono ?_); (case side1 => repeat (first | exact (Kd.C_below HR0_1.out HB.out) | (with_reducible refine Kd.ZC ?_ _) | (with_reducible refine Kd.ZF ?_ _) | (with_reducible refine Kd.ZN ?_))); (case side2 => exact HC0_1.out); rintro e w32 ⟨v109, rfl, ho0, hb⟩; refine ⟨_, rfl, ?_⟩; have n0_ := Zb.mk (Kd.ZG ho0 (Zi (by repeat (with_reducible first | exact HB.out | apply Zc | apply Za | apply Zd | refine Zh ?_ GE102.out | refine Zh ?_ GE103.out)))); have n1_ := Zb.mk (Zn (g := gb102) (o := .cells #[.bool true, .slice A0_1 l0_1.length c0_1] 40 (0, 0)) (by (with_reducible repeat first | refine Ze ?_ _ | refine Zg ?_ | refine Zf ?_ _); exact BK102.out) hb); have n2_ := Zb.mk (Zn (g := gb103) (o := .cells #[.bool false, .slice none 0 0] 24 (0, 0)) (by (with_reducible repeat first | refine Ze ?_ _ | refine Zg ?_ | refine Zf ?_ _); exact BK103.out) hb); have n3_ := Zb.mk (Zl (by repeat (with_reducible first | exact HB.out | apply Zc | apply Za | apply Zd | refine Zh ?_ GE102.out | refine Zh ?_ GE103.out)) hb); clear BK102; clear BK103; clear HB; have HO110 := n0_; have BK102 := n1_; have BK103 := n2_; have HB := n3_; clear n0_ n1_ n2_ n3_; (try clear hb); (try clear hb2); (try clear hk); (try clear hi); (try clear ho0); have hcz33_0 : w32.cell? ⟨gb102, 0, none⟩ = some (.bool true) := (Zk BK102.out 0).trans rfl; have hcz33_1 : w32.cell? ⟨gb102, 1, none⟩ = some (.slice A0_1 l0_1.length c0_1) := (Zk BK102.out 1).trans rfl; have hfz33_0 := Zj BK102.out 0; have hfz33_1 := Zj BK102.out 1; obtain ⟨Ao34, co34, eo34⟩ := Kd.Zy HO110.out; subst eo34; have hcz35_0 : w32.cell? ⟨gb103, 0, none⟩ = some (.bool false) := (Zk BK103.out 0).trans rfl; have hcz35_1 : w32.cell? ⟨gb103, 1, none⟩ = some (.slice none 0 0) := (Zk BK103.out 1).trans rfl; have hfz35_0 := Zj BK103.out 0; have hfz35_1 := Zj BK103.out 1))
   refine bodyPost_ret (results_cell_row rfl _ _ gb103 24 #[.bool (decide (0 < t108.length)), .slice Ao34 t108.length co34] (0, 0) _ rfl (by (with_reducible repeat first | refine Ze ?_ _ | refine Zg ?_ | refine Zf ?_ _); refine Zu (cs := #[.bool (decide (0 < t108.length)), .slice none 0 0]) ?_ 1 _ rfl; (with_reducible repeat first | refine Ze ?_ _ | refine Zg ?_ | refine Zf ?_ _); refine Zu (cs := #[.bool false, .slice none 0 0]) ?_ 0 _ rfl; (with_reducible repeat first | refine Ze ?_ _ | refine Zg ?_ | refine Zf ?_ _); exact BK103.out) Try.underlying24 rfl (by kernel_rfl)) rfl ?_
   exact ⟨_, by first | rfl | (simp [errW_none, errW_some] <;> rfl) | (simp [*, errW_none, errW_some] <;> rfl), by (with_reducible repeat first | apply Kd.Zm | apply Kd.Zo); exact Kd.ZE (Kd.ZH (p := ⟨gb103, 1, none⟩) (Kd.ZH (p := ⟨gb103, 0, none⟩) (Kd.ZI HO110.out BK103.out (by decide)) (fun _ hk => hk.2) (.bool (decide (0 < t108.length)))) (fun _ hk => hk.2) (.slice Ao34 t108.length co34)) (fun _ hk => trivial), by repeat (with_reducible first | exact HB.out | apply Zc | apply Za | apply Zd | refine Zh ?_ GE102.out | refine Zh ?_ GE103.out)⟩
  ·replace c27 := Bool.eq_false_iff.mpr c27
   subst c27
   have H1 : (some (false, t108)) = some (r1, r2) := by rw [if_neg (show ¬ (false = true) by decide)] at H; exact H
   clear H
   have H := H1
   clear H1
   simp only [Option.some.injEq, Prod.mk.injEq] at H
   obtain ⟨rfl, rfl⟩ := H
   go_enter Try.func21, Try.ntmps21
   go_wp2_with (first | ((with_reducible refine Zt (N := 2) rfl ?_); (try (refine gate_guard (by rfl) ?_; dsimp only)); refine Zs ?hg (N := 2) ?hd (cs := #[.bool false, .slice A0_1 l0_1.length c0_1]) (t := 40) ?hr ?_; (case hd => rfl); (case hg => rfl); (case hr => first | (go_simp; done) | (go_simp; rfl)); intro gb102 hg w36 hbox hb; have n0_ := Zb.mk (Zl (by repeat (with_reducible first | exact HB.out | apply Zc | apply Za | apply Zd)) hb); have n1_ := Zb.mk (hbox); have n2_ := Zb.mk ((by rw [hg]; exact (Zi (by repeat (with_reducible first | exact HB.out | apply Zc | apply Za | apply Zd))) : w.heap.size ≤ gb102)); have n3_ := Zb.mk ((by rw [hg]; exact (Zi (by repeat (with_reducible first | exact HB.out | apply Zc | apply Za | apply Zd))) : w.heap.size ≤ gb102)); clear HB; have HB := n0_; have BK102 := n1_; have GW102 := n2_; have GE102 := n3_; clear n0_ n1_ n2_ n3_; clear hb hbox hg) | ((with_reducible refine Zt (N := 4) rfl ?_); (try (refine gate_guard (by rfl) ?_; dsimp only)); refine Zs ?hg (N := 4) ?hd (cs := #[.bool false, .slice none 0 0]) (t := 24) ?hr ?_; (case hd => rfl); (case hg => rfl); (case hr => first | (go_simp; done) | (go_simp; rfl)); intro gb103 hg w37 hbox hb; have n0_ := Zb.mk (Zn (g := gb102) (o := .cells #[.bool false, .slice A0_1 l0_1.length c0_1] 40 (0, 0)) (by (with_reducible repeat first | refine Ze ?_ _ | refine Zg ?_ | refine Zf ?_ _); exact BK102.out) hb); have n1_ := Zb.mk (Zl (by repeat (with_reducible first | exact HB.out | apply Zc | apply Za | apply Zd | refine Zh ?_ GE102.out)) hb); have n2_ := Zb.mk (hbox); have n3_ := Zb.mk ((by rw [hg]; exact (Zi (by repeat (with_reducible first | exact HB.out | apply Zc | apply Za | apply Zd | refine Zh ?_ GE102.out))) : w.heap.size ≤ gb103)); have n4_ := Zb.mk ((by rw [hg]; exact (Zi (by repeat (with_reducible first | exact HB.out | apply Zc | apply Za | apply Zd | refine Zh ?_ GE102.out))) : w.heap.size ≤ gb103)); have n5_ := Zb.mk ((by rw [hg]; exact Nat.ne_of_lt (Zw (g := gb102) (o := .cells #[.bool false, .slice A0_1 l0_1.length c0_1] 40 (0, 0)) (by (with_reducible repeat first | refine Ze ?_ _ | refine Zg ?_ | refine Zf ?_ _); exact BK102.out)) : gb102 ≠ gb103)); have n6_ := Zb.mk ((by rw [hg]; exact Nat.ne_of_gt (Zw (g := gb102) (o := .cells #[.bool false, .slice A0_1 l0_1.length c0_1] 40 (0, 0)) (by (with_reducible repeat first | refine Ze ?_ _ | refine Zg ?_ | refine Zf ?_ _); exact BK102.out)) : gb103 ≠ gb102)); clear BK102; clear HB; have BK102 := n0_; have HB := n1_; have BK103 := n2_; have GW103 := n3_; have GE103 := n4_; have NB102_103 := n5_; have NB103_102 := n6_; clear n0_ n1_ n2_ n3_ n4_ n5_ n6_; clear hb hbox hg; have hnb38 := NB102_103.out; have hnc38 := NB103_102.out; have hcz39_0 : w37.cell? ⟨gb102, 0, none⟩ = some (.bool false) := (Zk BK102.out 0).trans rfl; have hcz39_1 : w37.cell? ⟨gb102, 1, none⟩ = some (.slice A0_1 l0_1.length c0_1) := (Zk BK102.out 1).trans rfl; have hfz39_0 := Zj BK102.out 0; have hfz39_1 := Zj BK102.out 1) | ((with_reducible refine Zp (f := 53) rfl ?_); refine ZB (some 17) rfl rfl Try.func53 (by kernel_rfl) rfl #[.slice A0_1 l0_1.length c0_1] rfl (by (try simp only [List.map_toArray, List.map_cons, List.map_nil]); first | done | rfl | (simp only [List.length_drop, List.length_take]; rfl)) ?_; (with_reducible refine (r00NatTrim.calls k _ _ l0_1 t108 _ ?side1 ?side2 A26.out).mono ?_); (case side1 => repeat (first | exact (Kd.C_below HR0_1.out HB.out) | (with_reducible refine Kd.ZC ?_ _) | (with_reducible refine Kd.ZF ?_ _) | (with_reducible refine Kd.ZN ?_))); (case side2 => exact HC0_1.out); rintro e w40 ⟨v109, rfl, ho0, hb⟩; refine ⟨_, rfl, ?_⟩; have n0_ := Zb.mk (Kd.ZG ho0 (Zi (by repeat (with_reducible first | exact HB.out | apply Zc | apply Za | apply Zd | refine Zh ?_ GE102.out | refine Zh ?_ GE103.out)))); have n1_ := Zb.mk (Zn (g := gb102) (o := .cells #[.bool false, .slice A0_1 l0_1.length c0_1] 40 (0, 0)) (by (with_reducible repeat first | refine Ze ?_ _ | refine Zg ?_ | refine Zf ?_ _); exact BK102.out) hb); have n2_ := Zb.mk (Zn (g := gb103) (o := .cells #[.bool false, .slice none 0 0] 24 (0, 0)) (by (with_reducible repeat first | refine Ze ?_ _ | refine Zg ?_ | refine Zf ?_ _); exact BK103.out) hb); have n3_ := Zb.mk (Zl (by repeat (with_reducible first | exact HB.out | apply Zc | apply Za | apply Zd | refine Zh ?_ GE102.out | refine Zh ?_ GE103.out)) hb); clear BK102; clear BK103; clear HB; have HO110 := n0_; have BK102 := n1_; have BK103 := n2_; have HB := n3_; clear n0_ n1_ n2_ n3_; (try clear hb); (try clear hb2); (try clear hk); (try clear hi); (try clear ho0); have hcz41_0 : w40.cell? ⟨gb102, 0, none⟩ = some (.bool false) := (Zk BK102.out 0).trans rfl; have hcz41_1 : w40.cell? ⟨gb102, 1, none⟩ = some (.slice A0_1 l0_1.length c0_1) := (Zk BK102.out 1).trans rfl; have hfz41_0 := Zj BK102.out 0; have hfz41_1 := Zj BK102.out 1; obtain ⟨Ao42, co42, eo42⟩ := Kd.Zy HO110.out; subst eo42; have hcz43_0 : w40.cell? ⟨gb103, 0, none⟩ = some (.bool false) := (Zk BK103.out 0).trans rfl; have hcz43_1 : w40.cell? ⟨gb103, 1, none⟩ = some (.slice none 0 0) := (Zk BK103.out 1).trans rfl; have hfz43_0 := Zj BK103.out 0; have hfz43_1 := Zj BK103.out 1))
   refine bodyPost_ret (results_cell_row rfl _ _ gb103 24 #[.bool false, .slice Ao42 t108.length co42] (0, 0) _ rfl (by (with_reducible repeat first | refine Ze ?_ _ | refine Zg ?_ | refine Zf ?_ _); refine Zu (cs := #[.bool false, .slice none 0 0]) ?_ 1 _ rfl; (with_reducible repeat first | refine Ze ?_ _ | refine Zg ?_ | refine Zf ?_ _); refine Zu (cs := #[.bool false, .slice none 0 0]) ?_ 0 _ rfl; (with_reducible repeat first | refine Ze ?_ _ | refine Zg ?_ | refine Zf ?_ _); exact BK103.out) Try.underlying24 rfl (by kernel_rfl)) rfl ?_
   exact ⟨_, by first | rfl | (simp [errW_none, errW_some] <;> rfl) | (simp [*, errW_none, errW_some] <;> rfl), by (with_reducible repeat first | apply Kd.Zm | apply Kd.Zo); exact Kd.ZE (Kd.ZH (p := ⟨gb103, 1, none⟩) (Kd.ZH (p := ⟨gb103, 0, none⟩) (Kd.ZI HO110.out BK103.out (by decide)) (fun _ hk => hk.2) (.bool false)) (fun _ hk => hk.2) (.slice Ao42 t108.length co42)) (fun _ hk => trivial), by repeat (with_reducible first | exact HB.out | apply Zc | apply Za | apply Zd | refine Zh ?_ GE102.out | refine Zh ?_ GE103.out)⟩
end Go.Proofs.Ytbmddlldadbfnaa.BD
end
section
namespace Go.Proofs.Ytbmddlldadbfnaa.BC
open Go.RowKit Go.Proofs.Ytbmddlldadbfnaa.BA Go.Proofs.Ytbmddlldadbfnaa.BB Go.Proofs.Ytbmddlldadbfnaa.BD Go.Proofs.Ytbmddlldadbfnaa.BE Go.Proofs.YtbmddlldadbfnaaW.PrintWords Go.Proofs.YtbmddlldadbfnaaW.PrintLast Go.Proofs.YtbmddlldadbfnaaW.PrintMore
attribute [local go_sem] ZU ZS max_two min_two ZP ZO ZT ZR
set_option linter.unusedVariables false
set_option linter.unusedSimpArgs false
def errW : Option Int → Value
 | none => .nilIface
 | some c => .iface 0 (.int .i64 c)
theorem errW_none : errW none = .nilIface := rfl
theorem errW_some (c : Int) : errW (some c) = .iface 0 (.int .i64 c) := rfl
end Go.Proofs.Ytbmddlldadbfnaa.BC
end

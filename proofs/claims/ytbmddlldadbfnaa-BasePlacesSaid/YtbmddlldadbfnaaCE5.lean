/- Part of the proof that what package base refuses at a byte is refused there whatever stands behind; a text that is read, with a digit more, is read as so many times the base and the digit, but for 0; texts of more than 2999 bytes together are not looked at. -/
import Derived.Test.YtbmddlldadbfnaaProg
import Derived.Below
import Derived.Deep.Draws
import Derived.Deep.AppendLies
import Derived.Maps.AppendAt
import Derived.OwnWalk
import Derived.Laws.BytesArg
import Derived.Laws.MakeOwn
import Derived.Laws.OwnMore
import Derived.Deep.OwnRows
import Derived.Tactics
import Derived.Lib.ConvBytes
import Derived.Laws.Slices
import Derived.WalkKit
import Derived.KernelRfl
import Derived.RowKit3
import Derived.Deep.LoopGhost
import Derived.Deep.QuietTactic
import Derived.BigQuiet
import Derived.WideLaws
import Derived.Deep.DeepCutAuto
import Derived.Deep.CutBlock
import Derived.Deep.RegionHeld3
import Derived.Laws.Rows
import Derived.Lib.AppendStr
import Derived.ArgAppend
import Derived.Laws.IdiomCopy
import Derived.OrdersHeld
import Derived.Laws.BitsLemmas
import Derived.RowKit
import Derived.Test.YtbmddlldadbfnaaCE4
section
namespace Go.Proofs.Ytbmddlldadbfnaa.BE
open Go.RowKit Go.Proofs.Ytbmddlldadbfnaa.BA Go.Proofs.Ytbmddlldadbfnaa.BB Go.Proofs.YtbmddlldadbfnaaW.PrintWords Go.Proofs.YtbmddlldadbfnaaW.PrintLast Go.Proofs.YtbmddlldadbfnaaW.PrintMore
attribute [local go_sem] ZU ZS max_two min_two ZP ZO ZT ZR
set_option linter.unusedVariables false
set_option linter.unusedSimpArgs false
def r00Plus.f : Nat → Bool → List Int → Int → Bool → List Int → Int → Option (Bool × List Int × Int)
 | 0, _, _, _, _, _, _ => none
 | k + 1, a0_0, l0_1, a0_2, a1_0, l1_1, a1_2 => (r00Num_Zero.f k a0_0 l0_1 a0_2).bind fun t128 => (if t128 = true then (none) else ((r00Num_Zero.f k a1_0 l1_1 a1_2).bind fun t129 => (if t129 = true then (none) else (if a0_2 > a1_2 then (none) else ((r00NatUp.f k l1_1 (wrap64 (a1_2 - a0_2))).bind fun t130 => (if (a0_0 == a1_0) = true then (none) else ((r00NatCmp.f k l0_1 t130).bind fun t133 => (if t133 ≥ 0 then ((r00NatSub.f k l0_1 t130).bind fun t134 => (some (a0_0, t134, a0_2))) else ((r00NatSub.f k t130 l0_1).bind fun t137 => (some (a1_0, t137, a0_2)))))))))))
def r00Plus.T7 : Bool × List (List Nat × List Nat) := (true, [([], []), ([0], [0]), ([], []), ([2], [2]), ([], []), ([4], [4]), ([], []), ([6], [6]), ([5, 7], [5, 7]), ([3, 8], [3, 8]), ([1, 9, 0, 1], [1]), ([9, 10, 0, 1, 2, 3, 4, 5, 6, 7, 8, 9, 10], [9])])
def r00Plus.B7 : List Nat := [0, 1, 0, 4, 0, 16, 0, 64, 240, 508, 1023, 2047]
theorem r00Plus.tab7 : rtab .any (opsOf Try.f24 7) = r00Plus.T7 := by kernel_rfl
theorem r00Plus.bits7 : waitsOk r00Plus.T7.2 r00Plus.B7 = true := by kernel_rfl
def r00Plus.T11 : Bool × List (List Nat × List Nat) := (true, [([], []), ([0], [0]), ([], []), ([], []), ([2, 3], [2, 3]), ([], []), ([5], [5]), ([1, 4, 6], [1, 4, 6]), ([7, 4, 0, 1, 2, 3, 4, 5, 6, 7], [7])])
def r00Plus.B11 : List Nat := [0, 1, 0, 0, 12, 0, 32, 127, 255]
theorem r00Plus.tab11 : rtab .any (opsOf Try.f24 11) = r00Plus.T11 := by kernel_rfl
theorem r00Plus.bits11 : waitsOk r00Plus.T11.2 r00Plus.B11 = true := by kernel_rfl
def r00Plus.T12 : Bool × List (List Nat × List Nat) := (true, [([], []), ([0], [0]), ([], []), ([], []), ([2, 3], [2, 3]), ([], []), ([5], [5]), ([1, 4, 6], [1, 4, 6]), ([7, 4, 0, 1, 2, 3, 4, 5, 6, 7], [7])])
def r00Plus.B12 : List Nat := [0, 1, 0, 0, 12, 0, 32, 127, 255]
theorem r00Plus.tab12 : rtab .any (opsOf Try.f24 12) = r00Plus.T12 := by kernel_rfl
theorem r00Plus.bits12 : waitsOk r00Plus.T12.2 r00Plus.B12 = true := by kernel_rfl
set_option maxHeartbeats 8000000 in
set_option maxRecDepth 100000 in
theorem r00Plus.calls (k : Nat) : ∀ (a0_0 : Bool) (A0_1 : Option Addr) (c0_1 : Nat) (l0_1 : List Int) (a0_2 : Int) (a1_0 : Bool) (A1_1 : Option Addr) (c1_1 : Nat) (l1_1 : List Int) (a1_2 : Int) (r1 : Bool) (r2 : List Int) (r3 : Int) (w : World) (hr0_1 : Kd.C (Kd.int .u64) w A0_1 l0_1.length l0_1) (hc0_1 : l0_1.length ≤ c0_1) (hr1_1 : Kd.C (Kd.int .u64) w A1_1 l1_1.length l1_1) (hc1_1 : l1_1.length ≤ c1_1) (h : r00Plus.f k a0_0 l0_1 a0_2 a1_0 l1_1 a1_2 = some (r1, r2, r3)),
  Calls Try.prog 24 #[.agg #[.bool a0_0, .slice A0_1 l0_1.length c0_1, .int .i64 a0_2], .agg #[.bool a1_0, .slice A1_1 l1_1.length c1_1, .int .i64 a1_2]] w fun e w' => ∃ v1_ : Value, e = .returned (.agg #[.bool r1, v1_, .int .i64 r3]) ∧ Kd.R (Kd.int .u64) 46 w' w.heap.size (fun _ => True) v1_ r2 ∧ Below w.heap.size w w' := by
 induction k using Nat.strongRecOn with
 | _ k ih =>
 intro a0_0 A0_1 c0_1 l0_1 a0_2 a1_0 A1_1 c1_1 l1_1 a1_2 r1 r2 r3 w hr0_1 hc0_1 hr1_1 hc1_1 h
 cases k with
 | zero => exact absurd h (by simp [r00Plus.f])
 | succ k =>
 simp only [r00Plus.f] at h
 have hu48 := Try.underlying48
 have HR0_1 := Zb.mk hr0_1
 have HC0_1 := Zb.mk hc0_1
 clear hr0_1 hc0_1
 have HR1_1 := Zb.mk hr1_1
 have HC1_1 := Zb.mk hc1_1
 clear hr1_1 hc1_1
 have HB := Zb.mk (Below.refl w.heap.size w)
 have H : ((r00Num_Zero.f k a0_0 l0_1 a0_2).bind fun t128 => (if t128 = true then (none) else ((r00Num_Zero.f k a1_0 l1_1 a1_2).bind fun t129 => (if t129 = true then (none) else (if a0_2 > a1_2 then (none) else ((r00NatUp.f k l1_1 (wrap64 (a1_2 - a0_2))).bind fun t130 => (if (a0_0 == a1_0) = true then (none) else ((r00NatCmp.f k l0_1 t130).bind fun t133 => (if t133 ≥ 0 then ((r00NatSub.f k l0_1 t130).bind fun t134 => (some (a0_0, t134, a0_2))) else ((r00NatSub.f k t130 l0_1).bind fun t137 => (some (a1_0, t137, a0_2)))))))))))) = some (r1, r2, r3) := h
 clear h
 replace H := Option.bind_eq_some_iff.mp H
 obtain ⟨t128, A30, H⟩ := H
 replace H : (if t128 = true then (none) else ((r00Num_Zero.f k a1_0 l1_1 a1_2).bind fun t129 => (if t129 = true then (none) else (if a0_2 > a1_2 then (none) else ((r00NatUp.f k l1_1 (wrap64 (a1_2 - a0_2))).bind fun t130 => (if (a0_0 == a1_0) = true then (none) else ((r00NatCmp.f k l0_1 t130).bind fun t133 => (if t133 ≥ 0 then ((r00NatSub.f k l0_1 t130).bind fun t134 => (some (a0_0, t134, a0_2))) else ((r00NatSub.f k t130 l0_1).bind fun t137 => (some (a1_0, t137, a0_2))))))))))) = some (r1, r2, r3) := H
 have A3 := Zb.mk A30
 clear A30
 by_cases c4 : t128 = true
 ·subst c4
  have H1 : (none) = some (r1, r2, r3) := by rw [if_pos rfl] at H; exact H
  clear H
  have H := H1
  clear H1
  exact absurd H (by simp)
 ·replace c4 := Bool.eq_false_iff.mpr c4
  subst c4
  have H1 : ((r00Num_Zero.f k a1_0 l1_1 a1_2).bind fun t129 => (if t129 = true then (none) else (if a0_2 > a1_2 then (none) else ((r00NatUp.f k l1_1 (wrap64 (a1_2 - a0_2))).bind fun t130 => (if (a0_0 == a1_0) = true then (none) else ((r00NatCmp.f k l0_1 t130).bind fun t133 => (if t133 ≥ 0 then ((r00NatSub.f k l0_1 t130).bind fun t134 => (some (a0_0, t134, a0_2))) else ((r00NatSub.f k t130 l0_1).bind fun t137 => (some (a1_0, t137, a0_2)))))))))) = some (r1, r2, r3) := by rw [if_neg (show ¬ (false = true) by decide)] at H; exact H
  clear H
  have H := H1
  clear H1
  replace H := Option.bind_eq_some_iff.mp H
  obtain ⟨t129, A50, H⟩ := H
  replace H : (if t129 = true then (none) else (if a0_2 > a1_2 then (none) else ((r00NatUp.f k l1_1 (wrap64 (a1_2 - a0_2))).bind fun t130 => (if (a0_0 == a1_0) = true then (none) else ((r00NatCmp.f k l0_1 t130).bind fun t133 => (if t133 ≥ 0 then ((r00NatSub.f k l0_1 t130).bind fun t134 => (some (a0_0, t134, a0_2))) else ((r00NatSub.f k t130 l0_1).bind fun t137 => (some (a1_0, t137, a0_2))))))))) = some (r1, r2, r3) := H
  have A5 := Zb.mk A50
  clear A50
  by_cases c6 : t129 = true
  ·subst c6
   have H1 : (none) = some (r1, r2, r3) := by rw [if_pos rfl] at H; exact H
   clear H
   have H := H1
   clear H1
   exact absurd H (by simp)
  ·replace c6 := Bool.eq_false_iff.mpr c6
   subst c6
   have H1 : (if a0_2 > a1_2 then (none) else ((r00NatUp.f k l1_1 (wrap64 (a1_2 - a0_2))).bind fun t130 => (if (a0_0 == a1_0) = true then (none) else ((r00NatCmp.f k l0_1 t130).bind fun t133 => (if t133 ≥ 0 then ((r00NatSub.f k l0_1 t130).bind fun t134 => (some (a0_0, t134, a0_2))) else ((r00NatSub.f k t130 l0_1).bind fun t137 => (some (a1_0, t137, a0_2)))))))) = some (r1, r2, r3) := by rw [if_neg (show ¬ (false = true) by decide)] at H; exact H
   clear H
   have H := H1
   clear H1
   by_cases c7 : a0_2 > a1_2
   ·rw [if_pos c7] at H
    exact absurd H (by simp)
   ·rw [if_neg c7] at H
    have c7b0 : decide (a1_2 < a0_2) = false := decide_eq_false c7
    clear c7
    replace H := Option.bind_eq_some_iff.mp H
    obtain ⟨t130, A80, H⟩ := H
    replace H : (if (a0_0 == a1_0) = true then (none) else ((r00NatCmp.f k l0_1 t130).bind fun t133 => (if t133 ≥ 0 then ((r00NatSub.f k l0_1 t130).bind fun t134 => (some (a0_0, t134, a0_2))) else ((r00NatSub.f k t130 l0_1).bind fun t137 => (some (a1_0, t137, a0_2)))))) = some (r1, r2, r3) := H
    have A8 := Zb.mk A80
    clear A80
    by_cases c9 : (a0_0 == a1_0) = true
    ·rw [if_pos c9] at H
     exact absurd H (by simp)
    ·rw [if_neg c9] at H
     have c9b0 : (a0_0 == a1_0) = false := by simpa using c9
     (try (have c9b1 : decide (a0_0 = a1_0) = false := by simpa using c9))
     (try (have c9b2 : (a0_0 == a1_0) = false := by simpa using c9))
     (try (have c9b3 : ¬ (a0_0 = a1_0) := by simpa using c9))
     clear c9
     replace H := Option.bind_eq_some_iff.mp H
     obtain ⟨t133, A100, H⟩ := H
     replace H : (if t133 ≥ 0 then ((r00NatSub.f k l0_1 t130).bind fun t134 => (some (a0_0, t134, a0_2))) else ((r00NatSub.f k t130 l0_1).bind fun t137 => (some (a1_0, t137, a0_2)))) = some (r1, r2, r3) := H
     have A10 := Zb.mk A100
     clear A100
     by_cases c11 : t133 ≥ 0
     ·rw [if_pos c11] at H
      have c11b0 : decide (0 ≤ t133) = true := decide_eq_true c11
      clear c11
      replace H := Option.bind_eq_some_iff.mp H
      obtain ⟨t134, A120, H⟩ := H
      replace H : (some (a0_0, t134, a0_2)) = some (r1, r2, r3) := H
      have A12 := Zb.mk A120
      clear A120
      simp only [Option.some.injEq, Prod.mk.injEq] at H
      obtain ⟨rfl, rfl, rfl⟩ := H
      go_enter Try.func24, Try.ntmps24
      try go_wp2_with (first | ((with_reducible refine Zt (N := 2) rfl ?_); refine Zs ?hg (N := 2) ?hd (cs := #[.bool a0_0, .slice A0_1 l0_1.length c0_1, .int .i64 a0_2]) (t := 48) ?hr ?_; (case hd => rfl); (case hg => rfl); (case hr => first | (go_simp; done) | (go_simp; rfl)); intro gb125 hg w13 hbox hb; have n0_ := Zb.mk (Zl (by repeat (with_reducible first | exact HB.out | apply Zc | apply Za | apply Zd)) hb); have n1_ := Zb.mk (hbox); have n2_ := Zb.mk ((by rw [hg]; exact (Zi (by repeat (with_reducible first | exact HB.out | apply Zc | apply Za | apply Zd))) : w.heap.size ≤ gb125)); have n3_ := Zb.mk ((by rw [hg]; exact (Zi (by repeat (with_reducible first | exact HB.out | apply Zc | apply Za | apply Zd))) : w.heap.size ≤ gb125)); clear HB; have HB := n0_; have BK125 := n1_; have GW125 := n2_; have GE125 := n3_; clear n0_ n1_ n2_ n3_; clear hb hbox hg) | ((with_reducible refine Zt (N := 3) rfl ?_); refine Zs ?hg (N := 3) ?hd (cs := #[.bool a1_0, .slice A1_1 l1_1.length c1_1, .int .i64 a1_2]) (t := 48) ?hr ?_; (case hd => rfl); (case hg => rfl); (case hr => first | (go_simp; done) | (go_simp; rfl)); intro gb126 hg w14 hbox hb; have n0_ := Zb.mk (Zn (g := gb125) (o := .cells #[.bool a0_0, .slice A0_1 l0_1.length c0_1, .int .i64 a0_2] 48 (0, 0)) (by (with_reducible repeat first | refine Ze ?_ _ | refine Zg ?_ | refine Zf ?_ _); exact BK125.out) hb); have n1_ := Zb.mk (Zl (by repeat (with_reducible first | exact HB.out | apply Zc | apply Za | apply Zd | refine Zh ?_ GE125.out)) hb); have n2_ := Zb.mk (hbox); have n3_ := Zb.mk ((by rw [hg]; exact (Zi (by repeat (with_reducible first | exact HB.out | apply Zc | apply Za | apply Zd | refine Zh ?_ GE125.out))) : w.heap.size ≤ gb126)); have n4_ := Zb.mk ((by rw [hg]; exact (Zi (by repeat (with_reducible first | exact HB.out | apply Zc | apply Za | apply Zd | refine Zh ?_ GE125.out))) : w.heap.size ≤ gb126)); have n5_ := Zb.mk ((by rw [hg]; exact Nat.ne_of_lt (Zw (g := gb125) (o := .cells #[.bool a0_0, .slice A0_1 l0_1.length c0_1, .int .i64 a0_2] 48 (0, 0)) (by (with_reducible repeat first | refine Ze ?_ _ | refine Zg ?_ | refine Zf ?_ _); exact BK125.out)) : gb125 ≠ gb126)); have n6_ := Zb.mk ((by rw [hg]; exact Nat.ne_of_gt (Zw (g := gb125) (o := .cells #[.bool a0_0, .slice A0_1 l0_1.length c0_1, .int .i64 a0_2] 48 (0, 0)) (by (with_reducible repeat first | refine Ze ?_ _ | refine Zg ?_ | refine Zf ?_ _); exact BK125.out)) : gb126 ≠ gb125)); clear BK125; clear HB; have BK125 := n0_; have HB := n1_; have BK126 := n2_; have GW126 := n3_; have GE126 := n4_; have NB125_126 := n5_; have NB126_125 := n6_; clear n0_ n1_ n2_ n3_ n4_ n5_ n6_; clear hb hbox hg) | ((with_reducible refine Zt (N := 4) rfl ?_); refine Zs ?hg (N := 4) ?hd (cs := #[.bool false, .slice none 0 0, .int .i64 0]) (t := 48) ?hr ?_; (case hd => rfl); (case hg => rfl); (case hr => first | (go_simp; done) | (go_simp; rfl)); intro gb127 hg w15 hbox hb; have n0_ := Zb.mk (Zn (g := gb125) (o := .cells #[.bool a0_0, .slice A0_1 l0_1.length c0_1, .int .i64 a0_2] 48 (0, 0)) (by (with_reducible repeat first | refine Ze ?_ _ | refine Zg ?_ | refine Zf ?_ _); exact BK125.out) hb); have n1_ := Zb.mk (Zn (g := gb126) (o := .cells #[.bool a1_0, .slice A1_1 l1_1.length c1_1, .int .i64 a1_2] 48 (0, 0)) (by (with_reducible repeat first | refine Ze ?_ _ | refine Zg ?_ | refine Zf ?_ _); exact BK126.out) hb); have n2_ := Zb.mk (Zl (by repeat (with_reducible first | exact HB.out | apply Zc | apply Za | apply Zd | refine Zh ?_ GE125.out | refine Zh ?_ GE126.out)) hb); have n3_ := Zb.mk (hbox); have n4_ := Zb.mk ((by rw [hg]; exact (Zi (by repeat (with_reducible first | exact HB.out | apply Zc | apply Za | apply Zd | refine Zh ?_ GE125.out | refine Zh ?_ GE126.out))) : w.heap.size ≤ gb127)); have n5_ := Zb.mk ((by rw [hg]; exact (Zi (by repeat (with_reducible first | exact HB.out | apply Zc | apply Za | apply Zd | refine Zh ?_ GE125.out | refine Zh ?_ GE126.out))) : w.heap.size ≤ gb127)); have n6_ := Zb.mk ((by rw [hg]; exact Nat.ne_of_lt (Zw (g := gb125) (o := .cells #[.bool a0_0, .slice A0_1 l0_1.length c0_1, .int .i64 a0_2] 48 (0, 0)) (by (with_reducible repeat first | refine Ze ?_ _ | refine Zg ?_ | refine Zf ?_ _); exact BK125.out)) : gb125 ≠ gb127)); have n7_ := Zb.mk ((by rw [hg]; exact Nat.ne_of_gt (Zw (g := gb125) (o := .cells #[.bool a0_0, .slice A0_1 l0_1.length c0_1, .int .i64 a0_2] 48 (0, 0)) (by (with_reducible repeat first | refine Ze ?_ _ | refine Zg ?_ | refine Zf ?_ _); exact BK125.out)) : gb127 ≠ gb125)); have n8_ := Zb.mk ((by rw [hg]; exact Nat.ne_of_lt (Zw (g := gb126) (o := .cells #[.bool a1_0, .slice A1_1 l1_1.length c1_1, .int .i64 a1_2] 48 (0, 0)) (by (with_reducible repeat first | refine Ze ?_ _ | refine Zg ?_ | refine Zf ?_ _); exact BK126.out)) : gb126 ≠ gb127)); have n9_ := Zb.mk ((by rw [hg]; exact Nat.ne_of_gt (Zw (g := gb126) (o := .cells #[.bool a1_0, .slice A1_1 l1_1.length c1_1, .int .i64 a1_2] 48 (0, 0)) (by (with_reducible repeat first | refine Ze ?_ _ | refine Zg ?_ | refine Zf ?_ _); exact BK126.out)) : gb127 ≠ gb126)); clear BK125; clear BK126; clear HB; have BK125 := n0_; have BK126 := n1_; have HB := n2_; have BK127 := n3_; have GW127 := n4_; have GE127 := n5_; have NB125_127 := n6_; have NB127_125 := n7_; have NB126_127 := n8_; have NB127_126 := n9_; clear n0_ n1_ n2_ n3_ n4_ n5_ n6_ n7_ n8_ n9_; clear hb hbox hg; have hnb16 := NB125_126.out; have hnc16 := NB126_125.out; have hnb17 := NB125_127.out; have hnc17 := NB127_125.out; have hcz18_0 : w15.cell? ⟨gb125, 0, none⟩ = some (.bool a0_0) := (Zk BK125.out 0).trans rfl; have hcz18_1 : w15.cell? ⟨gb125, 1, none⟩ = some (.slice A0_1 l0_1.length c0_1) := (Zk BK125.out 1).trans rfl; have hcz18_2 : w15.cell? ⟨gb125, 2, none⟩ = some (.int .i64 a0_2) := (Zk BK125.out 2).trans rfl; have hfz18_0 := Zj BK125.out 0; have hfz18_1 := Zj BK125.out 1; have hfz18_2 := Zj BK125.out 2) | ((with_reducible refine Zp (f := 54) rfl ?_); refine ZB (some 8) rfl rfl Try.func54 (by kernel_rfl) rfl #[.agg #[.bool a0_0, .slice A0_1 l0_1.length c0_1, .int .i64 a0_2]] rfl (by (try simp only [List.map_toArray, List.map_cons, List.map_nil]); first | done | rfl | (simp only [List.length_drop, List.length_take]; rfl)) ?_; (with_reducible refine (r00Num_Zero.calls k a0_0 _ _ l0_1 a0_2 false _ ?side1 ?side2 A3.out).mono ?_); (case side1 => repeat (first | exact (Kd.C_below HR0_1.out HB.out) | (with_reducible refine Kd.ZC ?_ _) | (with_reducible refine Kd.ZF ?_ _) | (with_reducible refine Kd.ZN ?_))); (case side2 => exact HC0_1.out); rintro e w19 ⟨rfl, hb⟩; refine ⟨_, rfl, ?_⟩; have n0_ := Zb.mk (Zn (g := gb125) (o := .cells #[.bool a0_0, .slice A0_1 l0_1.length c0_1, .int .i64 a0_2] 48 (0, 0)) (by (with_reducible repeat first | refine Ze ?_ _ | refine Zg ?_ | refine Zf ?_ _); exact BK125.out) hb); have n1_ := Zb.mk (Zn (g := gb126) (o := .cells #[.bool a1_0, .slice A1_1 l1_1.length c1_1, .int .i64 a1_2] 48 (0, 0)) (by (with_reducible repeat first | refine Ze ?_ _ | refine Zg ?_ | refine Zf ?_ _); exact BK126.out) hb); have n2_ := Zb.mk (Zn (g := gb127) (o := .cells #[.bool false, .slice none 0 0, .int .i64 0] 48 (0, 0)) (by (with_reducible repeat first | refine Ze ?_ _ | refine Zg ?_ | refine Zf ?_ _); exact BK127.out) hb); have n3_ := Zb.mk (Zl (by repeat (with_reducible first | exact HB.out | apply Zc | apply Za | apply Zd | refine Zh ?_ GE125.out | refine Zh ?_ GE126.out | refine Zh ?_ GE127.out)) hb); clear BK125; clear BK126; clear BK127; clear HB; have BK125 := n0_; have BK126 := n1_; have BK127 := n2_; have HB := n3_; clear n0_ n1_ n2_ n3_; (try clear hb); (try clear hb2); (try clear hk); (try clear hi); have hnb20 := NB126_127.out; have hnc20 := NB127_126.out; have hcz21_0 : w19.cell? ⟨gb126, 0, none⟩ = some (.bool a1_0) := (Zk BK126.out 0).trans rfl; have hcz21_1 : w19.cell? ⟨gb126, 1, none⟩ = some (.slice A1_1 l1_1.length c1_1) := (Zk BK126.out 1).trans rfl; have hcz21_2 : w19.cell? ⟨gb126, 2, none⟩ = some (.int .i64 a1_2) := (Zk BK126.out 2).trans rfl; have hfz21_0 := Zj BK126.out 0; have hfz21_1 := Zj BK126.out 1; have hfz21_2 := Zj BK126.out 2) | ((with_reducible refine Zp (f := 54) rfl ?_); refine ZB (some 11) rfl rfl Try.func54 (by kernel_rfl) rfl #[.agg #[.bool a1_0, .slice A1_1 l1_1.length c1_1, .int .i64 a1_2]] rfl (by (try simp only [List.map_toArray, List.map_cons, List.map_nil]); first | done | rfl | (simp only [List.length_drop, List.length_take]; rfl)) ?_; (with_reducible refine (r00Num_Zero.calls k a1_0 _ _ l1_1 a1_2 false _ ?side1 ?side2 A5.out).mono ?_); (case side1 => repeat (first | exact (Kd.C_below HR1_1.out HB.out) | (with_reducible refine Kd.ZC ?_ _) | (with_reducible refine Kd.ZF ?_ _) | (with_reducible refine Kd.ZN ?_))); (case side2 => exact HC1_1.out); rintro e w22 ⟨rfl, hb⟩; refine ⟨_, rfl, ?_⟩; have n0_ := Zb.mk (Zn (g := gb125) (o := .cells #[.bool a0_0, .slice A0_1 l0_1.length c0_1, .int .i64 a0_2] 48 (0, 0)) (by (with_reducible repeat first | refine Ze ?_ _ | refine Zg ?_ | refine Zf ?_ _); exact BK125.out) hb); have n1_ := Zb.mk (Zn (g := gb126) (o := .cells #[.bool a1_0, .slice A1_1 l1_1.length c1_1, .int .i64 a1_2] 48 (0, 0)) (by (with_reducible repeat first | refine Ze ?_ _ | refine Zg ?_ | refine Zf ?_ _); exact BK126.out) hb); have n2_ := Zb.mk (Zn (g := gb127) (o := .cells #[.bool false, .slice none 0 0, .int .i64 0] 48 (0, 0)) (by (with_reducible repeat first | refine Ze ?_ _ | refine Zg ?_ | refine Zf ?_ _); exact BK127.out) hb); have n3_ := Zb.mk (Zl (by repeat (with_reducible first | exact HB.out | apply Zc | apply Za | apply Zd | refine Zh ?_ GE125.out | refine Zh ?_ GE126.out | refine Zh ?_ GE127.out)) hb); clear BK125; clear BK126; clear BK127; clear HB; have BK125 := n0_; have BK126 := n1_; have BK127 := n2_; have HB := n3_; clear n0_ n1_ n2_ n3_; (try clear hb); (try clear hb2); (try clear hk); (try clear hi); have hcz23_0 : w22.cell? ⟨gb125, 0, none⟩ = some (.bool a0_0) := (Zk BK125.out 0).trans rfl; have hcz23_1 : w22.cell? ⟨gb125, 1, none⟩ = some (.slice A0_1 l0_1.length c0_1) := (Zk BK125.out 1).trans rfl; have hcz23_2 : w22.cell? ⟨gb125, 2, none⟩ = some (.int .i64 a0_2) := (Zk BK125.out 2).trans rfl; have hfz23_0 := Zj BK125.out 0; have hfz23_1 := Zj BK125.out 1; have hfz23_2 := Zj BK125.out 2; have hcz24_0 : w22.cell? ⟨gb126, 0, none⟩ = some (.bool a1_0) := (Zk BK126.out 0).trans rfl; have hcz24_1 : w22.cell? ⟨gb126, 1, none⟩ = some (.slice A1_1 l1_1.length c1_1) := (Zk BK126.out 1).trans rfl; have hcz24_2 : w22.cell? ⟨gb126, 2, none⟩ = some (.int .i64 a1_2) := (Zk BK126.out 2).trans rfl; have hfz24_0 := Zj BK126.out 0; have hfz24_1 := Zj BK126.out 1; have hfz24_2 := Zj BK126.out 2))
      have n0_ := Zb.mk (Zg BK125.out)
      have n1_ := Zb.mk (Zg BK126.out)
      have n2_ := Zb.mk (Zg BK127.out)
      have n3_ := Zb.mk (Zd HB.out)
      clear BK125
      clear BK126
      clear BK127
      clear HB
      have BK125 := n0_
      have BK126 := n1_
      have BK127 := n2_
      have HB := n3_
      clear n0_ n1_ n2_ n3_
      refine start_ (n := 12) (S := fun w' => w'.cell? ⟨gb125, 0, none⟩ = some (.bool a0_0) ∧ w'.cell? ⟨gb125, 1, none⟩ = some (.slice A0_1 l0_1.length c0_1) ∧ w'.cell? ⟨gb125, 2, none⟩ = some (.int .i64 a0_2) ∧ w'.cell? ⟨gb126, 0, none⟩ = some (.bool a1_0) ∧ w'.cell? ⟨gb126, 1, none⟩ = some (.slice A1_1 l1_1.length c1_1) ∧ w'.cell? ⟨gb126, 2, none⟩ = some (.int .i64 a1_2)) (ds := []) #[false, false, false, false, false, false, false, false, false, false, false, false] (by kernel_rfl) rfl rfl ⟨(Zk BK125.out 0).trans rfl, (Zk BK125.out 1).trans rfl, (Zk BK125.out 2).trans rfl, (Zk BK126.out 0).trans rfl, (Zk BK126.out 1).trans rfl, (Zk BK126.out 2).trans rfl⟩ (fun hHeld => ?_); refine with_tabW r00Plus.tab7 r00Plus.bits7 (fun HT_ HW_ => ?_)
      generalize w22.drew = w25 at BK125 BK126 BK127 HB hHeld ⊢
      refine ZM (i := 0) (N := some 21) (v := ?_) (a' := ?_) #[true, false, false, false, false, false, false, false, false, false, false, false] rfl rfl (ZD HT_.out (by kernel_rfl)) (fun _ _ _ h => h) (Or.inl ⟨by rfl, ?_⟩) ?_ ?_
      rotate_left
      ·intro w'
       go_simp
       with_reducible rfl
      rotate_left
      ·simp only [Act.put, List.setIfInBounds_toArray, List.set_cons_zero, List.set_cons_succ, Zx, ZA]
       rfl
      refine ZM (i := 2) (N := some 23) (v := ?_) (a' := ?_) #[true, false, true, false, false, false, false, false, false, false, false, false] rfl rfl (ZD HT_.out (by kernel_rfl)) (fun _ _ _ h => h) (Or.inl ⟨by rfl, ?_⟩) ?_ ?_
      rotate_left
      ·intro w'
       go_simp
       with_reducible rfl
      rotate_left
      ·simp only [Act.put, List.setIfInBounds_toArray, List.set_cons_zero, List.set_cons_succ, Zx, ZA]
       rfl
      refine ZM (i := 4) (N := some 25) (v := ?_) (a' := ?_) #[true, false, true, false, true, false, false, false, false, false, false, false] rfl rfl (ZD HT_.out (by kernel_rfl)) (fun _ _ _ h => h) (Or.inl ⟨by rfl, ?_⟩) ?_ ?_
      rotate_left
      ·intro w'
       go_simp
       with_reducible rfl
      rotate_left
      ·simp only [Act.put, List.setIfInBounds_toArray, List.set_cons_zero, List.set_cons_succ, Zx, ZA]
       rfl
      refine ZM (i := 6) (N := some 27) (v := ?_) (a' := ?_) #[true, false, true, false, true, false, true, false, false, false, false, false] rfl rfl (ZD HT_.out (by kernel_rfl)) (fun _ _ _ h => h) (Or.inl ⟨by rfl, ?_⟩) ?_ ?_
      rotate_left
      ·intro w'
       go_simp
       with_reducible rfl
      rotate_left
      ·simp only [Act.put, List.setIfInBounds_toArray, List.set_cons_zero, List.set_cons_succ, Zx, ZA]
       rfl
      refine take_ (i := 1) (N := some 22) (v := ?_) (a' := ?_) #[true, true, true, false, true, false, true, false, false, false, false, false] rfl rfl (take_ofW HT_.out HW_.out (by kernel_rfl)) (fun _ _ _ h => h) (Or.inl ⟨by rfl, ?_⟩) hHeld ?_ ?_
      rotate_left
      ·rintro w' ⟨s0, s1, s2, s3, s4, s5⟩
       go_simp
       with_reducible rfl
      rotate_left
      ·simp only [Act.put, List.setIfInBounds_toArray, List.set_cons_zero, List.set_cons_succ, Zx, ZA]
       rfl
      refine take_ (i := 3) (N := some 24) (v := ?_) (a' := ?_) #[true, true, true, true, true, false, true, false, false, false, false, false] rfl rfl (take_ofW HT_.out HW_.out (by kernel_rfl)) (fun _ _ _ h => h) (Or.inl ⟨by rfl, ?_⟩) hHeld ?_ ?_
      rotate_left
      ·rintro w' ⟨s0, s1, s2, s3, s4, s5⟩
       go_simp
       with_reducible rfl
      rotate_left
      ·simp only [Act.put, List.setIfInBounds_toArray, List.set_cons_zero, List.set_cons_succ, Zx, ZA]
       rfl
      refine take_ (i := 5) (N := some 26) (v := ?_) (a' := ?_) #[true, true, true, true, true, true, true, false, false, false, false, false] rfl rfl (take_ofW HT_.out HW_.out (by kernel_rfl)) (fun _ _ _ h => h) (Or.inl ⟨by rfl, ?_⟩) hHeld ?_ ?_
      rotate_left
      ·rintro w' ⟨s0, s1, s2, s3, s4, s5⟩
       go_simp
       with_reducible rfl
      rotate_left
      ·simp only [Act.put, List.setIfInBounds_toArray, List.set_cons_zero, List.set_cons_succ, Zx, ZA]
       rfl
      refine take_ (i := 7) (N := some 28) (v := ?_) (a' := ?_) #[true, true, true, true, true, true, true, true, false, false, false, false] rfl rfl (take_ofW HT_.out HW_.out (by kernel_rfl)) (fun _ _ _ h => h) (Or.inl ⟨by rfl, ?_⟩) hHeld ?_ ?_
      rotate_left
      ·rintro w' ⟨s0, s1, s2, s3, s4, s5⟩
       go_simp
       with_reducible rfl
      rotate_left
      ·simp only [Act.put, List.setIfInBounds_toArray, List.set_cons_zero, List.set_cons_succ, Zx, ZA]
       rfl
      refine ZM (i := 8) (N := some 29) (v := ?_) (a' := ?_) #[true, true, true, true, true, true, true, true, true, false, false, false] rfl rfl (ZD HT_.out (by kernel_rfl)) (fun _ _ _ h => h) (Or.inl ⟨by rfl, ?_⟩) ?_ ?_
      rotate_left
      ·intro w'
       go_simp
       with_reducible rfl
      rotate_left
      ·simp only [Act.put, List.setIfInBounds_toArray, List.set_cons_zero, List.set_cons_succ, Zx, ZA]
       rfl
      refine one_ (i := 9) (N := some 30) #[true, true, true, true, true, true, true, true, true, true, false, false] rfl rfl (one_of HT_.out (by kernel_rfl)) (by decide) (fun K hK => ?_)
      refine goes_ Try.func55 (by kernel_rfl) rfl #[.slice A1_1 l1_1.length c1_1, .int .i64 (wrap64 (a1_2 - a0_2))] (by rfl) rfl rfl (by (try simp only [List.map_toArray, List.map_cons, List.map_nil]); first | done | rfl | (simp only [List.length_drop, List.length_take]; rfl)) ?_
      with_reducible refine (r00NatUp.calls k _ _ l1_1 (wrap64 (a1_2 - a0_2)) t130 _ ?side1 ?side2 A8.out).mono ?_
      (case side1 => repeat (first | exact (Kd.C_below HR1_1.out HB.out) | (with_reducible refine Kd.ZC ?_ _) | (with_reducible refine Kd.ZF ?_ _) | (with_reducible refine Kd.ZN ?_)))
      (case side2 => exact HC1_1.out)
      rintro e w26 ⟨v131, rfl, ho0, hb⟩
      refine ⟨_, rfl, ?_⟩
      have n0_ := Zb.mk (Kd.ZG ho0 (Zi (by repeat (with_reducible first | exact HB.out | apply Zc | apply Za | apply Zd | refine Zh ?_ GE125.out | refine Zh ?_ GE126.out | refine Zh ?_ GE127.out))))
      have n1_ := Zb.mk (Zn (g := gb125) (o := .cells #[.bool a0_0, .slice A0_1 l0_1.length c0_1, .int .i64 a0_2] 48 (0, 0)) (by (with_reducible repeat first | refine Ze ?_ _ | refine Zg ?_ | refine Zf ?_ _); exact BK125.out) hb)
      have n2_ := Zb.mk (Zn (g := gb126) (o := .cells #[.bool a1_0, .slice A1_1 l1_1.length c1_1, .int .i64 a1_2] 48 (0, 0)) (by (with_reducible repeat first | refine Ze ?_ _ | refine Zg ?_ | refine Zf ?_ _); exact BK126.out) hb)
      have n3_ := Zb.mk (Zn (g := gb127) (o := .cells #[.bool false, .slice none 0 0, .int .i64 0] 48 (0, 0)) (by (with_reducible repeat first | refine Ze ?_ _ | refine Zg ?_ | refine Zf ?_ _); exact BK127.out) hb)
      have n4_ := Zb.mk (Zl (by repeat (with_reducible first | exact HB.out | apply Zc | apply Za | apply Zd | refine Zh ?_ GE125.out | refine Zh ?_ GE126.out | refine Zh ?_ GE127.out)) hb)
      clear BK125
      clear BK126
      clear BK127
      clear HB
      have HO132 := n0_
      have BK125 := n1_
      have BK126 := n2_
      have BK127 := n3_
      have HB := n4_
      clear n0_ n1_ n2_ n3_ n4_
      (try clear hb)
      (try clear hb2)
      (try clear hk)
      (try clear hi)
      (try clear ho0)
      refine hK.out _ _ ⟨(Zk BK125.out 0).trans rfl, (Zk BK125.out 1).trans rfl, (Zk BK125.out 2).trans rfl, (Zk BK126.out 0).trans rfl, (Zk BK126.out 1).trans rfl, (Zk BK126.out 2).trans rfl⟩ (fun hHeld => ?_)
      clear hK K
      refine norm_ (a' := ?_) ?_ ?_
      rotate_left
      ·show Act.put _ (some 30) _ = _
       simp only [Act.put, List.setIfInBounds_toArray, List.set_cons_zero, List.set_cons_succ, Zx, ZA]
       rfl
      refine ZM (i := 10) (N := some 5) (v := ?_) (a' := ?_) #[true, true, true, true, true, true, true, true, true, true, true, false] rfl rfl (ZD HT_.out (by kernel_rfl)) (fun _ _ _ h => h) (Or.inl ⟨by rfl, ?_⟩) ?_ ?_
      rotate_left
      ·intro w'
       go_simp
       with_reducible rfl
      rotate_left
      ·simp only [Act.put, List.setIfInBounds_toArray, List.set_cons_zero, List.set_cons_succ, Zx, ZA]
       rfl
      refine ZM (i := 11) (N := some 6) (v := ?_) (a' := ?_) #[true, true, true, true, true, true, true, true, true, true, true, true] rfl rfl (ZD HT_.out (by kernel_rfl)) (fun _ _ _ h => h) (Or.inl ⟨by rfl, ?_⟩) ?_ ?_
      rotate_left
      ·intro w'
       go_simp
       with_reducible rfl
      rotate_left
      ·simp only [Act.put, List.setIfInBounds_toArray, List.set_cons_zero, List.set_cons_succ, Zx, ZA]
       rfl
      refine done_ (done_of HT_.out (by kernel_rfl)) ?_
      have hcz27_0 : w26.cell? ⟨gb125, 0, none⟩ = some (.bool a0_0) := (Zk BK125.out 0).trans rfl
      have hcz27_1 : w26.cell? ⟨gb125, 1, none⟩ = some (.slice A0_1 l0_1.length c0_1) := (Zk BK125.out 1).trans rfl
      have hcz27_2 : w26.cell? ⟨gb125, 2, none⟩ = some (.int .i64 a0_2) := (Zk BK125.out 2).trans rfl
      have hfz27_0 := Zj BK125.out 0
      have hfz27_1 := Zj BK125.out 1
      have hfz27_2 := Zj BK125.out 2
      have hcz28_0 : w26.cell? ⟨gb126, 0, none⟩ = some (.bool a1_0) := (Zk BK126.out 0).trans rfl
      have hcz28_1 : w26.cell? ⟨gb126, 1, none⟩ = some (.slice A1_1 l1_1.length c1_1) := (Zk BK126.out 1).trans rfl
      have hcz28_2 : w26.cell? ⟨gb126, 2, none⟩ = some (.int .i64 a1_2) := (Zk BK126.out 2).trans rfl
      have hfz28_0 := Zj BK126.out 0
      have hfz28_1 := Zj BK126.out 1
      have hfz28_2 := Zj BK126.out 2
      obtain ⟨Ao29, co29, eo29⟩ := Kd.Zy HO132.out
      subst eo29
      try go_wp2_with (first | ((with_reducible refine Zp (f := 57) rfl ?_); refine ZB (some 46) rfl rfl Try.func57 (by kernel_rfl) rfl #[.slice A0_1 l0_1.length c0_1, .slice Ao29 t130.length co29] rfl (by (try simp only [List.map_toArray, List.map_cons, List.map_nil]); first | done | rfl | (simp only [List.length_drop, List.length_take]; rfl)) ?_; (with_reducible refine (r00NatCmp.calls k _ _ l0_1 _ _ t130 t133 _ ?side1 ?side2 ?side3 ?side4 A10.out).mono ?_); (case side1 => repeat (first | exact (Kd.C_below HR0_1.out HB.out) | (with_reducible refine Kd.ZC ?_ _) | (with_reducible refine Kd.ZF ?_ _) | (with_reducible refine Kd.ZN ?_))); (case side2 => exact HC0_1.out); (case side3 => repeat (first | exact (Kd.Zv HO132.out).2.2 | (with_reducible refine Kd.ZC ?_ _) | (with_reducible refine Kd.ZF ?_ _) | (with_reducible refine Kd.ZN ?_))); (case side4 => exact (Kd.Zv HO132.out).2.1); rintro e w30 ⟨rfl, hb⟩; refine ⟨_, rfl, ?_⟩; have n0_ := Zb.mk (Kd.Zz (by (with_reducible repeat first | apply Kd.Zm | apply Kd.Zo); exact HO132.out) hb); have n1_ := Zb.mk (Zn (g := gb125) (o := .cells #[.bool a0_0, .slice A0_1 l0_1.length c0_1, .int .i64 a0_2] 48 (0, 0)) (by (with_reducible repeat first | refine Ze ?_ _ | refine Zg ?_ | refine Zf ?_ _); exact BK125.out) hb); have n2_ := Zb.mk (Zn (g := gb126) (o := .cells #[.bool a1_0, .slice A1_1 l1_1.length c1_1, .int .i64 a1_2] 48 (0, 0)) (by (with_reducible repeat first | refine Ze ?_ _ | refine Zg ?_ | refine Zf ?_ _); exact BK126.out) hb); have n3_ := Zb.mk (Zn (g := gb127) (o := .cells #[.bool false, .slice none 0 0, .int .i64 0] 48 (0, 0)) (by (with_reducible repeat first | refine Ze ?_ _ | refine Zg ?_ | refine Zf ?_ _); exact BK127.out) hb); have n4_ := Zb.mk (Zl (by repeat (with_reducible first | exact HB.out | apply Zc | apply Za | apply Zd | refine Zh ?_ GE125.out | refine Zh ?_ GE126.out | refine Zh ?_ GE127.out)) hb); clear HO132; clear BK125; clear BK126; clear BK127; clear HB; have HO132 := n0_; have BK125 := n1_; have BK126 := n2_; have BK127 := n3_; have HB := n4_; clear n0_ n1_ n2_ n3_ n4_; (try clear hb); (try clear hb2); (try clear hk); (try clear hi)))
      have n0_ := Zb.mk (Kd.Zo HO132.out)
      have n1_ := Zb.mk (Zg BK125.out)
      have n2_ := Zb.mk (Zg BK126.out)
      have n3_ := Zb.mk (Zg BK127.out)
      have n4_ := Zb.mk (Zd HB.out)
      clear HO132
      clear BK125
      clear BK126
      clear BK127
      clear HB
      have HO132 := n0_
      have BK125 := n1_
      have BK126 := n2_
      have BK127 := n3_
      have HB := n4_
      clear n0_ n1_ n2_ n3_ n4_
      refine start_ (n := 9) (S := fun w' => w'.cell? ⟨gb125, 0, none⟩ = some (.bool a0_0) ∧ w'.cell? ⟨gb125, 1, none⟩ = some (.slice A0_1 l0_1.length c0_1) ∧ w'.cell? ⟨gb125, 2, none⟩ = some (.int .i64 a0_2)) (ds := []) #[false, false, false, false, false, false, false, false, false] (by kernel_rfl) rfl rfl ⟨(Zk BK125.out 0).trans rfl, (Zk BK125.out 1).trans rfl, (Zk BK125.out 2).trans rfl⟩ (fun hHeld => ?_); refine with_tabW r00Plus.tab11 r00Plus.bits11 (fun HT_ HW_ => ?_)
      generalize w30.drew = w31 at HO132 BK125 BK126 BK127 HB hHeld ⊢
      refine ZM (i := 0) (N := some 48) (v := ?_) (a' := ?_) #[true, false, false, false, false, false, false, false, false] rfl rfl (ZD HT_.out (by kernel_rfl)) (fun _ _ _ h => h) (Or.inl ⟨by rfl, ?_⟩) ?_ ?_
      rotate_left
      ·intro w'
       go_simp
       with_reducible rfl
      rotate_left
      ·simp only [Act.put, List.setIfInBounds_toArray, List.set_cons_zero, List.set_cons_succ, Zx, ZA]
       rfl
      refine ZM (i := 2) (N := some 50) (v := ?_) (a' := ?_) #[true, false, true, false, false, false, false, false, false] rfl rfl (ZD HT_.out (by kernel_rfl)) (fun _ _ _ h => h) (Or.inl ⟨by rfl, ?_⟩) ?_ ?_
      rotate_left
      ·intro w'
       go_simp
       with_reducible rfl
      rotate_left
      ·simp only [Act.put, List.setIfInBounds_toArray, List.set_cons_zero, List.set_cons_succ, Zx, ZA]
       rfl
      refine ZM (i := 3) (N := some 51) (v := ?_) (a' := ?_) #[true, false, true, true, false, false, false, false, false] rfl rfl (ZD HT_.out (by kernel_rfl)) (fun _ _ _ h => h) (Or.inl ⟨by rfl, ?_⟩) ?_ ?_
      rotate_left
      ·intro w'
       go_simp
       with_reducible rfl
      rotate_left
      ·simp only [Act.put, List.setIfInBounds_toArray, List.set_cons_zero, List.set_cons_succ, Zx, ZA]
       rfl
      refine ZM (i := 5) (N := some 53) (v := ?_) (a' := ?_) #[true, false, true, true, false, true, false, false, false] rfl rfl (ZD HT_.out (by kernel_rfl)) (fun _ _ _ h => h) (Or.inl ⟨by rfl, ?_⟩) ?_ ?_
      rotate_left
      ·intro w'
       go_simp
       with_reducible rfl
      rotate_left
      ·simp only [Act.put, List.setIfInBounds_toArray, List.set_cons_zero, List.set_cons_succ, Zx, ZA]
       rfl
      refine take_ (i := 1) (N := some 49) (v := ?_) (a' := ?_) #[true, true, true, true, false, true, false, false, false] rfl rfl (take_ofW HT_.out HW_.out (by kernel_rfl)) (fun _ _ _ h => h) (Or.inl ⟨by rfl, ?_⟩) hHeld ?_ ?_
      rotate_left
      ·rintro w' ⟨s0, s1, s2⟩
       go_simp
       with_reducible rfl
      rotate_left
      ·simp only [Act.put, List.setIfInBounds_toArray, List.set_cons_zero, List.set_cons_succ, Zx, ZA]
       rfl
      refine take_ (i := 6) (N := some 54) (v := ?_) (a' := ?_) #[true, true, true, true, false, true, true, false, false] rfl rfl (take_ofW HT_.out HW_.out (by kernel_rfl)) (fun _ _ _ h => h) (Or.inl ⟨by rfl, ?_⟩) hHeld ?_ ?_
      rotate_left
      ·rintro w' ⟨s0, s1, s2⟩
       go_simp
       with_reducible rfl
      rotate_left
      ·simp only [Act.put, List.setIfInBounds_toArray, List.set_cons_zero, List.set_cons_succ, Zx, ZA]
       rfl
      refine one_ (i := 4) (N := some 52) #[true, true, true, true, true, true, true, false, false] rfl rfl (one_of HT_.out (by kernel_rfl)) (by decide) (fun K hK => ?_)
      refine goes_ Try.func58 (by kernel_rfl) rfl #[.slice A0_1 l0_1.length c0_1, .slice Ao29 t130.length co29] (by rfl) rfl rfl (by (try simp only [List.map_toArray, List.map_cons, List.map_nil]); first | done | rfl | (simp only [List.length_drop, List.length_take]; rfl)) ?_
      with_reducible refine (r00NatSub.calls k _ _ l0_1 _ _ t130 t134 _ ?side1 ?side2 ?side3 ?side4 A12.out).mono ?_
      (case side1 => repeat (first | exact (Kd.C_below HR0_1.out HB.out) | (with_reducible refine Kd.ZC ?_ _) | (with_reducible refine Kd.ZF ?_ _) | (with_reducible refine Kd.ZN ?_)))
      (case side2 => exact HC0_1.out)
      (case side3 => repeat (first | exact (Kd.Zv HO132.out).2.2 | (with_reducible refine Kd.ZC ?_ _) | (with_reducible refine Kd.ZF ?_ _) | (with_reducible refine Kd.ZN ?_)))
      (case side4 => exact (Kd.Zv HO132.out).2.1)
      rintro e w32 ⟨v135, rfl, ho0, hb⟩
      refine ⟨_, rfl, ?_⟩
      have n0_ := Zb.mk (Kd.ZJ (by (with_reducible repeat first | apply Kd.Zm | apply Kd.Zo); exact HO132.out) (Kd.ZV ho0) hb)
      have n1_ := Zb.mk (Kd.ZG (Kd.R_new' ho0 (Kd.R_lt (by (with_reducible repeat first | apply Kd.Zm | apply Kd.Zo); exact HO132.out))) (Zi (by repeat (with_reducible first | exact HB.out | apply Zc | apply Za | apply Zd | refine Zh ?_ GE125.out | refine Zh ?_ GE126.out | refine Zh ?_ GE127.out))))
      have n2_ := Zb.mk (Zn (g := gb125) (o := .cells #[.bool a0_0, .slice A0_1 l0_1.length c0_1, .int .i64 a0_2] 48 (0, 0)) (by (with_reducible repeat first | refine Ze ?_ _ | refine Zg ?_ | refine Zf ?_ _); exact BK125.out) hb)
      have n3_ := Zb.mk (Zn (g := gb126) (o := .cells #[.bool a1_0, .slice A1_1 l1_1.length c1_1, .int .i64 a1_2] 48 (0, 0)) (by (with_reducible repeat first | refine Ze ?_ _ | refine Zg ?_ | refine Zf ?_ _); exact BK126.out) hb)
      have n4_ := Zb.mk (Zn (g := gb127) (o := .cells #[.bool false, .slice none 0 0, .int .i64 0] 48 (0, 0)) (by (with_reducible repeat first | refine Ze ?_ _ | refine Zg ?_ | refine Zf ?_ _); exact BK127.out) hb)
      have n5_ := Zb.mk (Zl (by repeat (with_reducible first | exact HB.out | apply Zc | apply Za | apply Zd | refine Zh ?_ GE125.out | refine Zh ?_ GE126.out | refine Zh ?_ GE127.out)) hb)
      clear HO132
      clear BK125
      clear BK126
      clear BK127
      clear HB
      have HO132 := n0_
      have HO136 := n1_
      have BK125 := n2_
      have BK126 := n3_
      have BK127 := n4_
      have HB := n5_
      clear n0_ n1_ n2_ n3_ n4_ n5_
      (try clear hb)
      (try clear hb2)
      (try clear hk)
      (try clear hi)
      (try clear ho0)
      obtain ⟨Ao33, co33, eo33⟩ := Kd.Zy HO136.out
      (first | subst eo33 | (injection eo33 with f1_ f2_ f3_; have f4_ := f1_.symm; have f5_ := f3_.symm; clear f1_ f2_ f3_; subst f4_; subst f5_))
      refine hK.out _ _ ⟨(Zk BK125.out 0).trans rfl, (Zk BK125.out 1).trans rfl, (Zk BK125.out 2).trans rfl⟩ (fun hHeld => ?_)
      clear hK K
      refine norm_ (a' := ?_) ?_ ?_
      rotate_left
      ·show Act.put _ (some 52) _ = _
       simp only [Act.put, List.setIfInBounds_toArray, List.set_cons_zero, List.set_cons_succ, Zx, ZA]
       rfl
      refine ZM (i := 7) (N := some 55) (v := ?_) (a' := ?_) #[true, true, true, true, true, true, true, true, false] rfl rfl (ZD HT_.out (by kernel_rfl)) (fun _ _ _ h => h) (Or.inl ⟨by rfl, ?_⟩) ?_ ?_
      rotate_left
      ·intro w'
       go_simp
       with_reducible rfl
      rotate_left
      ·simp only [Act.put, List.setIfInBounds_toArray, List.set_cons_zero, List.set_cons_succ, Zx, ZA]
       rfl
      refine one_ (i := 8) (N := none) #[true, true, true, true, true, true, true, true, true] rfl rfl (one_of HT_.out (by kernel_rfl)) (by decide) (fun K hK => ?_)
      have hs34 : w32.cell? ⟨gb127, 0, none⟩ = some (.bool false) := (Zk BK127.out 0).trans rfl
      have hfs34 := Zj BK127.out 0
      have hns34_0 := NB125_127.out
      have hns34_1 := NB126_127.out
      have hms34_0 := NB127_125.out
      have hms34_1 := NB127_126.out
      have hs35 : w32.cell? ⟨gb127, 1, none⟩ = some (.slice none 0 0) := (Zk BK127.out 1).trans rfl
      have hfs35 := Zj BK127.out 1
      have hns35_0 := NB125_127.out
      have hns35_1 := NB126_127.out
      have hms35_0 := NB127_125.out
      have hms35_1 := NB127_126.out
      have hs36 : w32.cell? ⟨gb127, 2, none⟩ = some (.int .i64 0) := (Zk BK127.out 2).trans rfl
      have hfs36 := Zj BK127.out 2
      have hns36_0 := NB125_127.out
      have hns36_1 := NB126_127.out
      have hms36_0 := NB127_125.out
      have hms36_1 := NB127_126.out
      refine skip_ (w1 := ?_) (by rfl) rfl ?_ ?_
      rotate_left
      ·go_simp
       rfl
      refine hK.out _ _ ⟨((cell_far (p := ⟨gb127, _, none⟩) NB125_127.out _).trans (((cell_far (p := ⟨gb127, _, none⟩) NB125_127.out _).trans (((cell_far (p := ⟨gb127, _, none⟩) NB125_127.out _).trans (hHeld.1)))))), ((cell_far (p := ⟨gb127, _, none⟩) NB125_127.out _).trans (((cell_far (p := ⟨gb127, _, none⟩) NB125_127.out _).trans (((cell_far (p := ⟨gb127, _, none⟩) NB125_127.out _).trans (hHeld.2.1)))))), ((cell_far (p := ⟨gb127, _, none⟩) NB125_127.out _).trans (((cell_far (p := ⟨gb127, _, none⟩) NB125_127.out _).trans (((cell_far (p := ⟨gb127, _, none⟩) NB125_127.out _).trans (hHeld.2.2))))))⟩ (fun hHeld => ?_)
      clear hK K
      refine done_ (done_of HT_.out (by kernel_rfl)) ?_
      try go_wp2
      refine bodyPost_ret (results_cell_row rfl _ _ gb127 48 #[.bool a0_0, .slice Ao33 t134.length co33, .int .i64 a0_2] (0, 0) _ rfl (by (with_reducible repeat first | refine Ze ?_ _ | refine Zg ?_ | refine Zf ?_ _); refine Zu (cs := #[.bool a0_0, .slice Ao33 t134.length co33, .int .i64 0]) ?_ 2 _ rfl; (with_reducible repeat first | refine Ze ?_ _ | refine Zg ?_ | refine Zf ?_ _); refine Zu (cs := #[.bool a0_0, .slice none 0 0, .int .i64 0]) ?_ 1 _ rfl; (with_reducible repeat first | refine Ze ?_ _ | refine Zg ?_ | refine Zf ?_ _); refine Zu (cs := #[.bool false, .slice none 0 0, .int .i64 0]) ?_ 0 _ rfl; (with_reducible repeat first | refine Ze ?_ _ | refine Zg ?_ | refine Zf ?_ _); exact BK127.out) Try.underlying48 rfl (by kernel_rfl)) rfl ?_
      exact ⟨_, by first | rfl | (simp [errW_none, errW_some] <;> rfl) | (simp [*, errW_none, errW_some] <;> rfl), by (with_reducible repeat first | apply Kd.Zm | apply Kd.Zo); exact Kd.ZE (Kd.ZH (p := ⟨gb127, 2, none⟩) (Kd.ZH (p := ⟨gb127, 1, none⟩) (Kd.ZH (p := ⟨gb127, 0, none⟩) (Kd.ZI HO136.out BK127.out (by decide)) (fun _ hk => hk.2) (.bool a0_0)) (fun _ hk => hk.2) (.slice Ao33 t134.length co33)) (fun _ hk => hk.2) (.int .i64 a0_2)) (fun _ hk => trivial), by repeat (with_reducible first | exact HB.out | apply Zc | apply Za | apply Zd | refine Zh ?_ GE125.out | refine Zh ?_ GE126.out | refine Zh ?_ GE127.out)⟩
     ·rw [if_neg c11] at H
      have c11b0 : decide (0 ≤ t133) = false := decide_eq_false c11
      clear c11
      replace H := Option.bind_eq_some_iff.mp H
      obtain ⟨t137, A370, H⟩ := H
      replace H : (some (a1_0, t137, a0_2)) = some (r1, r2, r3) := H
      have A37 := Zb.mk A370
      clear A370
      simp only [Option.some.injEq, Prod.mk.injEq] at H
      obtain ⟨rfl, rfl, rfl⟩ := H
      go_enter Try.func24, Try.ntmps24
      try go_wp2_with (first | ((with_reducible refine Zt (N := 2) rfl ?_); refine Zs ?hg (N := 2) ?hd (cs := #[.bool a0_0, .slice A0_1 l0_1.length c0_1, .int .i64 a0_2]) (t := 48) ?hr ?_; (case hd => rfl); (case hg => rfl); (case hr => first | (go_simp; done) | (go_simp; rfl)); intro gb125 hg w38 hbox hb; have n0_ := Zb.mk (Zl (by repeat (with_reducible first | exact HB.out | apply Zc | apply Za | apply Zd)) hb); have n1_ := Zb.mk (hbox); have n2_ := Zb.mk ((by rw [hg]; exact (Zi (by repeat (with_reducible first | exact HB.out | apply Zc | apply Za | apply Zd))) : w.heap.size ≤ gb125)); have n3_ := Zb.mk ((by rw [hg]; exact (Zi (by repeat (with_reducible first | exact HB.out | apply Zc | apply Za | apply Zd))) : w.heap.size ≤ gb125)); clear HB; have HB := n0_; have BK125 := n1_; have GW125 := n2_; have GE125 := n3_; clear n0_ n1_ n2_ n3_; clear hb hbox hg) | ((with_reducible refine Zt (N := 3) rfl ?_); refine Zs ?hg (N := 3) ?hd (cs := #[.bool a1_0, .slice A1_1 l1_1.length c1_1, .int .i64 a1_2]) (t := 48) ?hr ?_; (case hd => rfl); (case hg => rfl); (case hr => first | (go_simp; done) | (go_simp; rfl)); intro gb126 hg w39 hbox hb; have n0_ := Zb.mk (Zn (g := gb125) (o := .cells #[.bool a0_0, .slice A0_1 l0_1.length c0_1, .int .i64 a0_2] 48 (0, 0)) (by (with_reducible repeat first | refine Ze ?_ _ | refine Zg ?_ | refine Zf ?_ _); exact BK125.out) hb); have n1_ := Zb.mk (Zl (by repeat (with_reducible first | exact HB.out | apply Zc | apply Za | apply Zd | refine Zh ?_ GE125.out)) hb); have n2_ := Zb.mk (hbox); have n3_ := Zb.mk ((by rw [hg]; exact (Zi (by repeat (with_reducible first | exact HB.out | apply Zc | apply Za | apply Zd | refine Zh ?_ GE125.out))) : w.heap.size ≤ gb126)); have n4_ := Zb.mk ((by rw [hg]; exact (Zi (by repeat (with_reducible first | exact HB.out | apply Zc | apply Za | apply Zd | refine Zh ?_ GE125.out))) : w.heap.size ≤ gb126)); have n5_ := Zb.mk ((by rw [hg]; exact Nat.ne_of_lt (Zw (g := gb125) (o := .cells #[.bool a0_0, .slice A0_1 l0_1.length c0_1, .int .i64 a0_2] 48 (0, 0)) (by (with_reducible repeat first | refine Ze ?_ _ | refine Zg ?_ | refine Zf ?_ _); exact BK125.out)) : gb125 ≠ gb126)); have n6_ := Zb.mk ((by rw [hg]; exact Nat.ne_of_gt (Zw (g := gb125) (o := .cells #[.bool a0_0, .slice A0_1 l0_1.length c0_1, .int .i64 a0_2] 48 (0, 0)) (by (with_reducible repeat first | refine Ze ?_ _ | refine Zg ?_ | refine Zf ?_ _); exact BK125.out)) : gb126 ≠ gb125)); clear BK125; clear HB; have BK125 := n0_; have HB := n1_; have BK126 := n2_; have GW126 := n3_; have GE126 := n4_; have NB125_126 := n5_; have NB126_125 := n6_; clear n0_ n1_ n2_ n3_ n4_ n5_ n6_; clear hb hbox hg) | ((with_reducible refine Zt (N := 4) rfl ?_); refine Zs ?hg (N := 4) ?hd (cs := #[.bool false, .slice none 0 0, .int .i64 0]) (t := 48) ?hr ?_; (case hd => rfl); (case hg => rfl); (case hr => first | (go_simp; done) | (go_simp; rfl)); intro gb127 hg w40 hbox hb; have n0_ := Zb.mk (Zn (g := gb125) (o := .cells #[.bool a0_0, .slice A0_1 l0_1.length c0_1, .int .i64 a0_2] 48 (0, 0)) (by (with_reducible repeat first | refine Ze ?_ _ | refine Zg ?_ | refine Zf ?_ _); exact BK125.out) hb); have n1_ := Zb.mk (Zn (g := gb126) (o := .cells #[.bool a1_0, .slice A1_1 l1_1.length c1_1, .int .i64 a1_2] 48 (0, 0)) (by (with_reducible repeat first | refine Ze ?_ _ | refine Zg ?_ | refine Zf ?_ _); exact BK126.out) hb); have n2_ := Zb.mk (Zl (by repeat (with_reducible first | exact HB.out | apply Zc | apply Za | apply Zd | refine Zh ?_ GE125.out | refine Zh ?_ GE126.out)) hb); have n3_ := Zb.mk (hbox); have n4_ := Zb.mk ((by rw [hg]; exact (Zi (by repeat (with_reducible first | exact HB.out | apply Zc | apply Za | apply Zd | refine Zh ?_ GE125.out | refine Zh ?_ GE126.out))) : w.heap.size ≤ gb127)); have n5_ := Zb.mk ((by rw [hg]; exact (Zi (by repeat (with_reducible first | exact HB.out | apply Zc | apply Za | apply Zd | refine Zh ?_ GE125.out | refine Zh ?_ GE126.out))) : w.heap.size ≤ gb127)); have n6_ := Zb.mk ((by rw [hg]; exact Nat.ne_of_lt (Zw (g := gb125) (o := .cells #[.bool a0_0, .slice A0_1 l0_1.length c0_1, .int .i64 a0_2] 48 (0, 0)) (by (with_reducible repeat first | refine Ze ?_ _ | refine Zg ?_ | refine Zf ?_ _); exact BK125.out)) : gb125 ≠ gb127)); have n7_ := Zb.mk ((by rw [hg]; exact Nat.ne_of_gt (Zw (g := gb125) (o := .cells #[.bool a0_0, .slice A0_1 l0_1.length c0_1, .int .i64 a0_2] 48 (0, 0)) (by (with_reducible repeat first | refine Ze ?_ _ | refine Zg ?_ | refine Zf ?_ _); exact BK125.out)) : gb127 ≠ gb125)); have n8_ := Zb.mk ((by rw [hg]; exact Nat.ne_of_lt (Zw (g := gb126) (o := .cells #[.bool a1_0, .slice A1_1 l1_1.length c1_1, .int .i64 a1_2] 48 (0, 0)) (by (with_reducible repeat first | refine Ze ?_ _ | refine Zg ?_ | refine Zf ?_ _); exact BK126.out)) : gb126 ≠ gb127)); have n9_ := Zb.mk ((by rw [hg]; exact Nat.ne_of_gt (Zw (g := gb126) (o := .cells #[.bool a1_0, .slice A1_1 l1_1.length c1_1, .int .i64 a1_2] 48 (0, 0)) (by (with_reducible repeat first | refine Ze ?_ _ | refine Zg ?_ | refine Zf ?_ _); exact BK126.out)) : gb127 ≠ gb126)); clear BK125; clear BK126; clear HB; have BK125 := n0_; have BK126 := n1_; have HB := n2_; have BK127 := n3_; have GW127 := n4_; have GE127 := n5_; have NB125_127 := n6_; have NB127_125 := n7_; have NB126_127 := n8_; have NB127_126 := n9_; clear n0_ n1_ n2_ n3_ n4_ n5_ n6_ n7_ n8_ n9_; clear hb hbox hg; have hnb41 := NB125_126.out; have hnc41 := NB126_125.out; have hnb42 := NB125_127.out; have hnc42 := NB127_125.out; have hcz43_0 : w40.cell? ⟨gb125, 0, none⟩ = some (.bool a0_0) := (Zk BK125.out 0).trans rfl; have hcz43_1 : w40.cell? ⟨gb125, 1, none⟩ = some (.slice A0_1 l0_1.length c0_1) := (Zk BK125.out 1).trans rfl; have hcz43_2 : w40.cell? ⟨gb125, 2, none⟩ = some (.int .i64 a0_2) := (Zk BK125.out 2).trans rfl; have hfz43_0 := Zj BK125.out 0; have hfz43_1 := Zj BK125.out 1; have hfz43_2 := Zj BK125.out 2) | ((with_reducible refine Zp (f := 54) rfl ?_); refine ZB (some 8) rfl rfl Try.func54 (by kernel_rfl) rfl #[.agg #[.bool a0_0, .slice A0_1 l0_1.length c0_1, .int .i64 a0_2]] rfl (by (try simp only [List.map_toArray, List.map_cons, List.map_nil]); first | done | rfl | (simp only [List.length_drop, List.length_take]; rfl)) ?_; (with_reducible refine (r00Num_Zero.calls k a0_0 _ _ l0_1 a0_2 false _ ?side1 ?side2 A3.out).mono ?_); (case side1 => repeat (first | exact (Kd.C_below HR0_1.out HB.out) | (with_reducible refine Kd.ZC ?_ _) | (with_reducible refine Kd.ZF ?_ _) | (with_reducible refine Kd.ZN ?_))); (case side2 => exact HC0_1.out); rintro e w44 ⟨rfl, hb⟩; refine ⟨_, rfl, ?_⟩; have n0_ := Zb.mk (Zn (g := gb125) (o := .cells #[.bool a0_0, .slice A0_1 l0_1.length c0_1, .int .i64 a0_2] 48 (0, 0)) (by (with_reducible repeat first | refine Ze ?_ _ | refine Zg ?_ | refine Zf ?_ _); exact BK125.out) hb); have n1_ := Zb.mk (Zn (g := gb126) (o := .cells #[.bool a1_0, .slice A1_1 l1_1.length c1_1, .int .i64 a1_2] 48 (0, 0)) (by (with_reducible repeat first | refine Ze ?_ _ | refine Zg ?_ | refine Zf ?_ _); exact BK126.out) hb); have n2_ := Zb.mk (Zn (g := gb127) (o := .cells #[.bool false, .slice none 0 0, .int .i64 0] 48 (0, 0)) (by (with_reducible repeat first | refine Ze ?_ _ | refine Zg ?_ | refine Zf ?_ _); exact BK127.out) hb); have n3_ := Zb.mk (Zl (by repeat (with_reducible first | exact HB.out | apply Zc | apply Za | apply Zd | refine Zh ?_ GE125.out | refine Zh ?_ GE126.out | refine Zh ?_ GE127.out)) hb); clear BK125; clear BK126; clear BK127; clear HB; have BK125 := n0_; have BK126 := n1_; have BK127 := n2_; have HB := n3_; clear n0_ n1_ n2_ n3_; (try clear hb); (try clear hb2); (try clear hk); (try clear hi); have hnb45 := NB126_127.out; have hnc45 := NB127_126.out; have hcz46_0 : w44.cell? ⟨gb126, 0, none⟩ = some (.bool a1_0) := (Zk BK126.out 0).trans rfl; have hcz46_1 : w44.cell? ⟨gb126, 1, none⟩ = some (.slice A1_1 l1_1.length c1_1) := (Zk BK126.out 1).trans rfl; have hcz46_2 : w44.cell? ⟨gb126, 2, none⟩ = some (.int .i64 a1_2) := (Zk BK126.out 2).trans rfl; have hfz46_0 := Zj BK126.out 0; have hfz46_1 := Zj BK126.out 1; have hfz46_2 := Zj BK126.out 2) | ((with_reducible refine Zp (f := 54) rfl ?_); refine ZB (some 11) rfl rfl Try.func54 (by kernel_rfl) rfl #[.agg #[.bool a1_0, .slice A1_1 l1_1.length c1_1, .int .i64 a1_2]] rfl (by (try simp only [List.map_toArray, List.map_cons, List.map_nil]); first | done | rfl | (simp only [List.length_drop, List.length_take]; rfl)) ?_; (with_reducible refine (r00Num_Zero.calls k a1_0 _ _ l1_1 a1_2 false _ ?side1 ?side2 A5.out).mono ?_); (case side1 => repeat (first | exact (Kd.C_below HR1_1.out HB.out) | (with_reducible refine Kd.ZC ?_ _) | (with_reducible refine Kd.ZF ?_ _) | (with_reducible refine Kd.ZN ?_))); (case side2 => exact HC1_1.out); rintro e w47 ⟨rfl, hb⟩; refine ⟨_, rfl, ?_⟩; have n0_ := Zb.mk (Zn (g := gb125) (o := .cells #[.bool a0_0, .slice A0_1 l0_1.length c0_1, .int .i64 a0_2] 48 (0, 0)) (by (with_reducible repeat first | refine Ze ?_ _ | refine Zg ?_ | refine Zf ?_ _); exact BK125.out) hb); have n1_ := Zb.mk (Zn (g := gb126) (o := .cells #[.bool a1_0, .slice A1_1 l1_1.length c1_1, .int .i64 a1_2] 48 (0, 0)) (by (with_reducible repeat first | refine Ze ?_ _ | refine Zg ?_ | refine Zf ?_ _); exact BK126.out) hb); have n2_ := Zb.mk (Zn (g := gb127) (o := .cells #[.bool false, .slice none 0 0, .int .i64 0] 48 (0, 0)) (by (with_reducible repeat first | refine Ze ?_ _ | refine Zg ?_ | refine Zf ?_ _); exact BK127.out) hb); have n3_ := Zb.mk (Zl (by repeat (with_reducible first | exact HB.out | apply Zc | apply Za | apply Zd | refine Zh ?_ GE125.out | refine Zh ?_ GE126.out | refine Zh ?_ GE127.out)) hb); clear BK125; clear BK126; clear BK127; clear HB; have BK125 := n0_; have BK126 := n1_; have BK127 := n2_; have HB := n3_; clear n0_ n1_ n2_ n3_; (try clear hb); (try clear hb2); (try clear hk); (try clear hi); have hcz48_0 : w47.cell? ⟨gb125, 0, none⟩ = some (.bool a0_0) := (Zk BK125.out 0).trans rfl; have hcz48_1 : w47.cell? ⟨gb125, 1, none⟩ = some (.slice A0_1 l0_1.length c0_1) := (Zk BK125.out 1).trans rfl; have hcz48_2 : w47.cell? ⟨gb125, 2, none⟩ = some (.int .i64 a0_2) := (Zk BK125.out 2).trans rfl; have hfz48_0 := Zj BK125.out 0; have hfz48_1 := Zj BK125.out 1; have hfz48_2 := Zj BK125.out 2; have hcz49_0 : w47.cell? ⟨gb126, 0, none⟩ = some (.bool a1_0) := (Zk BK126.out 0).trans rfl; have hcz49_1 : w47.cell? ⟨gb126, 1, none⟩ = some (.slice A1_1 l1_1.length c1_1) := (Zk BK126.out 1).trans rfl; have hcz49_2 : w47.cell? ⟨gb126, 2, none⟩ = some (.int .i64 a1_2) := (Zk BK126.out 2).trans rfl; have hfz49_0 := Zj BK126.out 0; have hfz49_1 := Zj BK126.out 1; have hfz49_2 := Zj BK126.out 2))
      have n0_ := Zb.mk (Zg BK125.out)
      have n1_ := Zb.mk (Zg BK126.out)
      have n2_ := Zb.mk (Zg BK127.out)
      have n3_ := Zb.mk (Zd HB.out)
      clear BK125
      clear BK126
      clear BK127
      clear HB
      have BK125 := n0_
      have BK126 := n1_
      have BK127 := n2_
      have HB := n3_
      clear n0_ n1_ n2_ n3_
      refine start_ (n := 12) (S := fun w' => w'.cell? ⟨gb125, 0, none⟩ = some (.bool a0_0) ∧ w'.cell? ⟨gb125, 1, none⟩ = some (.slice A0_1 l0_1.length c0_1) ∧ w'.cell? ⟨gb125, 2, none⟩ = some (.int .i64 a0_2) ∧ w'.cell? ⟨gb126, 0, none⟩ = some (.bool a1_0) ∧ w'.cell? ⟨gb126, 1, none⟩ = some (.slice A1_1 l1_1.length c1_1) ∧ w'.cell? ⟨gb126, 2, none⟩ = some (.int .i64 a1_2)) (ds := []) #[false, false, false, false, false, false, false, false, false, false, false, false] (by kernel_rfl) rfl rfl ⟨(Zk BK125.out 0).trans rfl, (Zk BK125.out 1).trans rfl, (Zk BK125.out 2).trans rfl, (Zk BK126.out 0).trans rfl, (Zk BK126.out 1).trans rfl, (Zk BK126.out 2).trans rfl⟩ (fun hHeld => ?_); refine with_tabW r00Plus.tab7 r00Plus.bits7 (fun HT_ HW_ => ?_)
      generalize w47.drew = w50 at BK125 BK126 BK127 HB hHeld ⊢
      refine ZM (i := 0) (N := some 21) (v := ?_) (a' := ?_) #[true, false, false, false, false, false, false, false, false, false, false, false] rfl rfl (ZD HT_.out (by kernel_rfl)) (fun _ _ _ h => h) (Or.inl ⟨by rfl, ?_⟩) ?_ ?_
      rotate_left
      ·intro w'
       go_simp
       with_reducible rfl
      rotate_left
      ·simp only [Act.put, List.setIfInBounds_toArray, List.set_cons_zero, List.set_cons_succ, Zx, ZA]
       rfl
      refine ZM (i := 2) (N := some 23) (v := ?_) (a' := ?_) #[true, false, true, false, false, false, false, false, false, false, false, false] rfl rfl (ZD HT_.out (by kernel_rfl)) (fun _ _ _ h => h) (Or.inl ⟨by rfl, ?_⟩) ?_ ?_
      rotate_left
      ·intro w'
       go_simp
       with_reducible rfl
      rotate_left
      ·simp only [Act.put, List.setIfInBounds_toArray, List.set_cons_zero, List.set_cons_succ, Zx, ZA]
       rfl
      refine ZM (i := 4) (N := some 25) (v := ?_) (a' := ?_) #[true, false, true, false, true, false, false, false, false, false, false, false] rfl rfl (ZD HT_.out (by kernel_rfl)) (fun _ _ _ h => h) (Or.inl ⟨by rfl, ?_⟩) ?_ ?_
      rotate_left
      ·intro w'
       go_simp
       with_reducible rfl
      rotate_left
      ·simp only [Act.put, List.setIfInBounds_toArray, List.set_cons_zero, List.set_cons_succ, Zx, ZA]
       rfl
      refine ZM (i := 6) (N := some 27) (v := ?_) (a' := ?_) #[true, false, true, false, true, false, true, false, false, false, false, false] rfl rfl (ZD HT_.out (by kernel_rfl)) (fun _ _ _ h => h) (Or.inl ⟨by rfl, ?_⟩) ?_ ?_
      rotate_left
      ·intro w'
       go_simp
       with_reducible rfl
      rotate_left
      ·simp only [Act.put, List.setIfInBounds_toArray, List.set_cons_zero, List.set_cons_succ, Zx, ZA]
       rfl
      refine take_ (i := 1) (N := some 22) (v := ?_) (a' := ?_) #[true, true, true, false, true, false, true, false, false, false, false, false] rfl rfl (take_ofW HT_.out HW_.out (by kernel_rfl)) (fun _ _ _ h => h) (Or.inl ⟨by rfl, ?_⟩) hHeld ?_ ?_
      rotate_left
      ·rintro w' ⟨s0, s1, s2, s3, s4, s5⟩
       go_simp
       with_reducible rfl
      rotate_left
      ·simp only [Act.put, List.setIfInBounds_toArray, List.set_cons_zero, List.set_cons_succ, Zx, ZA]
       rfl
      refine take_ (i := 3) (N := some 24) (v := ?_) (a' := ?_) #[true, true, true, true, true, false, true, false, false, false, false, false] rfl rfl (take_ofW HT_.out HW_.out (by kernel_rfl)) (fun _ _ _ h => h) (Or.inl ⟨by rfl, ?_⟩) hHeld ?_ ?_
      rotate_left
      ·rintro w' ⟨s0, s1, s2, s3, s4, s5⟩
       go_simp
       with_reducible rfl
      rotate_left
      ·simp only [Act.put, List.setIfInBounds_toArray, List.set_cons_zero, List.set_cons_succ, Zx, ZA]
       rfl
      refine take_ (i := 5) (N := some 26) (v := ?_) (a' := ?_) #[true, true, true, true, true, true, true, false, false, false, false, false] rfl rfl (take_ofW HT_.out HW_.out (by kernel_rfl)) (fun _ _ _ h => h) (Or.inl ⟨by rfl, ?_⟩) hHeld ?_ ?_
      rotate_left
      ·rintro w' ⟨s0, s1, s2, s3, s4, s5⟩
       go_simp
       with_reducible rfl
      rotate_left
      ·simp only [Act.put, List.setIfInBounds_toArray, List.set_cons_zero, List.set_cons_succ, Zx, ZA]
       rfl
      refine take_ (i := 7) (N := some 28) (v := ?_) (a' := ?_) #[true, true, true, true, true, true, true, true, false, false, false, false] rfl rfl (take_ofW HT_.out HW_.out (by kernel_rfl)) (fun _ _ _ h => h) (Or.inl ⟨by rfl, ?_⟩) hHeld ?_ ?_
      rotate_left
      ·rintro w' ⟨s0, s1, s2, s3, s4, s5⟩
       go_simp
       with_reducible rfl
      rotate_left
      ·simp only [Act.put, List.setIfInBounds_toArray, List.set_cons_zero, List.set_cons_succ, Zx, ZA]
       rfl
      refine ZM (i := 8) (N := some 29) (v := ?_) (a' := ?_) #[true, true, true, true, true, true, true, true, true, false, false, false] rfl rfl (ZD HT_.out (by kernel_rfl)) (fun _ _ _ h => h) (Or.inl ⟨by rfl, ?_⟩) ?_ ?_
      rotate_left
      ·intro w'
       go_simp
       with_reducible rfl
      rotate_left
      ·simp only [Act.put, List.setIfInBounds_toArray, List.set_cons_zero, List.set_cons_succ, Zx, ZA]
       rfl
      refine one_ (i := 9) (N := some 30) #[true, true, true, true, true, true, true, true, true, true, false, false] rfl rfl (one_of HT_.out (by kernel_rfl)) (by decide) (fun K hK => ?_)
      refine goes_ Try.func55 (by kernel_rfl) rfl #[.slice A1_1 l1_1.length c1_1, .int .i64 (wrap64 (a1_2 - a0_2))] (by rfl) rfl rfl (by (try simp only [List.map_toArray, List.map_cons, List.map_nil]); first | done | rfl | (simp only [List.length_drop, List.length_take]; rfl)) ?_
      with_reducible refine (r00NatUp.calls k _ _ l1_1 (wrap64 (a1_2 - a0_2)) t130 _ ?side1 ?side2 A8.out).mono ?_
      (case side1 => repeat (first | exact (Kd.C_below HR1_1.out HB.out) | (with_reducible refine Kd.ZC ?_ _) | (with_reducible refine Kd.ZF ?_ _) | (with_reducible refine Kd.ZN ?_)))
      (case side2 => exact HC1_1.out)
      rintro e w51 ⟨v131, rfl, ho0, hb⟩
      refine ⟨_, rfl, ?_⟩
      have n0_ := Zb.mk (Kd.ZG ho0 (Zi (by repeat (with_reducible first | exact HB.out | apply Zc | apply Za | apply Zd | refine Zh ?_ GE125.out | refine Zh ?_ GE126.out | refine Zh ?_ GE127.out))))
      have n1_ := Zb.mk (Zn (g := gb125) (o := .cells #[.bool a0_0, .slice A0_1 l0_1.length c0_1, .int .i64 a0_2] 48 (0, 0)) (by (with_reducible repeat first | refine Ze ?_ _ | refine Zg ?_ | refine Zf ?_ _); exact BK125.out) hb)
      have n2_ := Zb.mk (Zn (g := gb126) (o := .cells #[.bool a1_0, .slice A1_1 l1_1.length c1_1, .int .i64 a1_2] 48 (0, 0)) (by (with_reducible repeat first | refine Ze ?_ _ | refine Zg ?_ | refine Zf ?_ _); exact BK126.out) hb)
      have n3_ := Zb.mk (Zn (g := gb127) (o := .cells #[.bool false, .slice none 0 0, .int .i64 0] 48 (0, 0)) (by (with_reducible repeat first | refine Ze ?_ _ | refine Zg ?_ | refine Zf ?_ _); exact BK127.out) hb)
      have n4_ := Zb.mk (Zl (by repeat (with_reducible first | exact HB.out | apply Zc | apply Za | apply Zd | refine Zh ?_ GE125.out | refine Zh ?_ GE126.out | refine Zh ?_ GE127.out)) hb)
      clear BK125
      clear BK126
      clear BK127
      clear HB
      have HO132 := n0_
      have BK125 := n1_
      have BK126 := n2_
      have BK127 := n3_
      have HB := n4_
      clear n0_ n1_ n2_ n3_ n4_
      (try clear hb)
      (try clear hb2)
      (try clear hk)
      (try clear hi)
      (try clear ho0)
      refine hK.out _ _ ⟨(Zk BK125.out 0).trans rfl, (Zk BK125.out 1).trans rfl, (Zk BK125.out 2).trans rfl, (Zk BK126.out 0).trans rfl, (Zk BK126.out 1).trans rfl, (Zk BK126.out 2).trans rfl⟩ (fun hHeld => ?_)
      clear hK K
      refine norm_ (a' := ?_) ?_ ?_
      rotate_left
      ·show Act.put _ (some 30) _ = _
       simp only [Act.put, List.setIfInBounds_toArray, List.set_cons_zero, List.set_cons_succ, Zx, ZA]
       rfl
      refine ZM (i := 10) (N := some 5) (v := ?_) (a' := ?_) #[true, true, true, true, true, true, true, true, true, true, true, false] rfl rfl (ZD HT_.out (by kernel_rfl)) (fun _ _ _ h => h) (Or.inl ⟨by rfl, ?_⟩) ?_ ?_
      rotate_left
      ·intro w'
       go_simp
       with_reducible rfl
      rotate_left
      ·simp only [Act.put, List.setIfInBounds_toArray, List.set_cons_zero, List.set_cons_succ, Zx, ZA]
       rfl
      refine ZM (i := 11) (N := some 6) (v := ?_) (a' := ?_) #[true, true, true, true, true, true, true, true, true, true, true, true] rfl rfl (ZD HT_.out (by kernel_rfl)) (fun _ _ _ h => h) (Or.inl ⟨by rfl, ?_⟩) ?_ ?_
      rotate_left
      ·intro w'
       go_simp
       with_reducible rfl
      rotate_left
      ·simp only [Act.put, List.setIfInBounds_toArray, List.set_cons_zero, List.set_cons_succ, Zx, ZA]
       rfl
      refine done_ (done_of HT_.out (by kernel_rfl)) ?_
      have hcz52_0 : w51.cell? ⟨gb125, 0, none⟩ = some (.bool a0_0) := (Zk BK125.out 0).trans rfl
      have hcz52_1 : w51.cell? ⟨gb125, 1, none⟩ = some (.slice A0_1 l0_1.length c0_1) := (Zk BK125.out 1).trans rfl
      have hcz52_2 : w51.cell? ⟨gb125, 2, none⟩ = some (.int .i64 a0_2) := (Zk BK125.out 2).trans rfl
      have hfz52_0 := Zj BK125.out 0
      have hfz52_1 := Zj BK125.out 1
      have hfz52_2 := Zj BK125.out 2
      have hcz53_0 : w51.cell? ⟨gb126, 0, none⟩ = some (.bool a1_0) := (Zk BK126.out 0).trans rfl
      have hcz53_1 : w51.cell? ⟨gb126, 1, none⟩ = some (.slice A1_1 l1_1.length c1_1) := (Zk BK126.out 1).trans rfl
      have hcz53_2 : w51.cell? ⟨gb126, 2, none⟩ = some (.int .i64 a1_2) := (Zk BK126.out 2).trans rfl
      have hfz53_0 := Zj BK126.out 0
      have hfz53_1 := Zj BK126.out 1
      have hfz53_2 := Zj BK126.out 2
      obtain ⟨Ao54, co54, eo54⟩ := Kd.Zy HO132.out
      subst eo54
      try go_wp2_with (first | ((with_reducible refine Zp (f := 57) rfl ?_); refine ZB (some 46) rfl rfl Try.func57 (by kernel_rfl) rfl #[.slice A0_1 l0_1.length c0_1, .slice Ao54 t130.length co54] rfl (by (try simp only [List.map_toArray, List.map_cons, List.map_nil]); first | done | rfl | (simp only [List.length_drop, List.length_take]; rfl)) ?_; (with_reducible refine (r00NatCmp.calls k _ _ l0_1 _ _ t130 t133 _ ?side1 ?side2 ?side3 ?side4 A10.out).mono ?_); (case side1 => repeat (first | exact (Kd.C_below HR0_1.out HB.out) | (with_reducible refine Kd.ZC ?_ _) | (with_reducible refine Kd.ZF ?_ _) | (with_reducible refine Kd.ZN ?_))); (case side2 => exact HC0_1.out); (case side3 => repeat (first | exact (Kd.Zv HO132.out).2.2 | (with_reducible refine Kd.ZC ?_ _) | (with_reducible refine Kd.ZF ?_ _) | (with_reducible refine Kd.ZN ?_))); (case side4 => exact (Kd.Zv HO132.out).2.1); rintro e w55 ⟨rfl, hb⟩; refine ⟨_, rfl, ?_⟩; have n0_ := Zb.mk (Kd.Zz (by (with_reducible repeat first | apply Kd.Zm | apply Kd.Zo); exact HO132.out) hb); have n1_ := Zb.mk (Zn (g := gb125) (o := .cells #[.bool a0_0, .slice A0_1 l0_1.length c0_1, .int .i64 a0_2] 48 (0, 0)) (by (with_reducible repeat first | refine Ze ?_ _ | refine Zg ?_ | refine Zf ?_ _); exact BK125.out) hb); have n2_ := Zb.mk (Zn (g := gb126) (o := .cells #[.bool a1_0, .slice A1_1 l1_1.length c1_1, .int .i64 a1_2] 48 (0, 0)) (by (with_reducible repeat first | refine Ze ?_ _ | refine Zg ?_ | refine Zf ?_ _); exact BK126.out) hb); have n3_ := Zb.mk (Zn (g := gb127) (o := .cells #[.bool false, .slice none 0 0, .int .i64 0] 48 (0, 0)) (by (with_reducible repeat first | refine Ze ?_ _ | refine Zg ?_ | refine Zf ?_ _); exact BK127.out) hb); have n4_ := Zb.mk (Zl (by repeat (with_reducible first | exact HB.out | apply Zc | apply Za | apply Zd | refine Zh ?_ GE125.out | refine Zh ?_ GE126.out | refine Zh ?_ GE127.out)) hb); clear HO132; clear BK125; clear BK126; clear BK127; clear HB; have HO132 := n0_; have BK125 := n1_; have BK126 := n2_; have BK127 := n3_; have HB := n4_; clear n0_ n1_ n2_ n3_ n4_; (try clear hb); (try clear hb2); (try clear hk); (try clear hi)))
      have n0_ := Zb.mk (Kd.Zo HO132.out)
      have n1_ := Zb.mk (Zg BK125.out)
      have n2_ := Zb.mk (Zg BK126.out)
      have n3_ := Zb.mk (Zg BK127.out)
      have n4_ := Zb.mk (Zd HB.out)
      clear HO132
      clear BK125
      clear BK126
      clear BK127
      clear HB
      have HO132 := n0_
      have BK125 := n1_
      have BK126 := n2_
      have BK127 := n3_
      have HB := n4_
      clear n0_ n1_ n2_ n3_ n4_
      refine start_ (n := 9) (S := fun w' => w'.cell? ⟨gb126, 0, none⟩ = some (.bool a1_0) ∧ w'.cell? ⟨gb126, 1, none⟩ = some (.slice A1_1 l1_1.length c1_1) ∧ w'.cell? ⟨gb126, 2, none⟩ = some (.int .i64 a1_2) ∧ w'.cell? ⟨gb125, 0, none⟩ = some (.bool a0_0) ∧ w'.cell? ⟨gb125, 1, none⟩ = some (.slice A0_1 l0_1.length c0_1) ∧ w'.cell? ⟨gb125, 2, none⟩ = some (.int .i64 a0_2)) (ds := []) #[false, false, false, false, false, false, false, false, false] (by kernel_rfl) rfl rfl ⟨(Zk BK126.out 0).trans rfl, (Zk BK126.out 1).trans rfl, (Zk BK126.out 2).trans rfl, (Zk BK125.out 0).trans rfl, (Zk BK125.out 1).trans rfl, (Zk BK125.out 2).trans rfl⟩ (fun hHeld => ?_); refine with_tabW r00Plus.tab12 r00Plus.bits12 (fun HT_ HW_ => ?_)
      generalize w55.drew = w56 at HO132 BK125 BK126 BK127 HB hHeld ⊢
      refine ZM (i := 0) (N := some 56) (v := ?_) (a' := ?_) #[true, false, false, false, false, false, false, false, false] rfl rfl (ZD HT_.out (by kernel_rfl)) (fun _ _ _ h => h) (Or.inl ⟨by rfl, ?_⟩) ?_ ?_
      rotate_left
      ·intro w'
       go_simp
       with_reducible rfl
      rotate_left
      ·simp only [Act.put, List.setIfInBounds_toArray, List.set_cons_zero, List.set_cons_succ, Zx, ZA]
       rfl
      refine ZM (i := 2) (N := some 58) (v := ?_) (a' := ?_) #[true, false, true, false, false, false, false, false, false] rfl rfl (ZD HT_.out (by kernel_rfl)) (fun _ _ _ h => h) (Or.inl ⟨by rfl, ?_⟩) ?_ ?_
      rotate_left
      ·intro w'
       go_simp
       with_reducible rfl
      rotate_left
      ·simp only [Act.put, List.setIfInBounds_toArray, List.set_cons_zero, List.set_cons_succ, Zx, ZA]
       rfl
      refine ZM (i := 3) (N := some 59) (v := ?_) (a' := ?_) #[true, false, true, true, false, false, false, false, false] rfl rfl (ZD HT_.out (by kernel_rfl)) (fun _ _ _ h => h) (Or.inl ⟨by rfl, ?_⟩) ?_ ?_
      rotate_left
      ·intro w'
       go_simp
       with_reducible rfl
      rotate_left
      ·simp only [Act.put, List.setIfInBounds_toArray, List.set_cons_zero, List.set_cons_succ, Zx, ZA]
       rfl
      refine ZM (i := 5) (N := some 61) (v := ?_) (a' := ?_) #[true, false, true, true, false, true, false, false, false] rfl rfl (ZD HT_.out (by kernel_rfl)) (fun _ _ _ h => h) (Or.inl ⟨by rfl, ?_⟩) ?_ ?_
      rotate_left
      ·intro w'
       go_simp
       with_reducible rfl
      rotate_left
      ·simp only [Act.put, List.setIfInBounds_toArray, List.set_cons_zero, List.set_cons_succ, Zx, ZA]
       rfl
      refine take_ (i := 1) (N := some 57) (v := ?_) (a' := ?_) #[true, true, true, true, false, true, false, false, false] rfl rfl (take_ofW HT_.out HW_.out (by kernel_rfl)) (fun _ _ _ h => h) (Or.inl ⟨by rfl, ?_⟩) hHeld ?_ ?_
      rotate_left
      ·rintro w' ⟨s0, s1, s2, s3, s4, s5⟩
       go_simp
       with_reducible rfl
      rotate_left
      ·simp only [Act.put, List.setIfInBounds_toArray, List.set_cons_zero, List.set_cons_succ, Zx, ZA]
       rfl
      refine take_ (i := 6) (N := some 62) (v := ?_) (a' := ?_) #[true, true, true, true, false, true, true, false, false] rfl rfl (take_ofW HT_.out HW_.out (by kernel_rfl)) (fun _ _ _ h => h) (Or.inl ⟨by rfl, ?_⟩) hHeld ?_ ?_
      rotate_left
      ·rintro w' ⟨s0, s1, s2, s3, s4, s5⟩
       go_simp
       with_reducible rfl
      rotate_left
      ·simp only [Act.put, List.setIfInBounds_toArray, List.set_cons_zero, List.set_cons_succ, Zx, ZA]
       rfl
      refine one_ (i := 4) (N := some 60) #[true, true, true, true, true, true, true, false, false] rfl rfl (one_of HT_.out (by kernel_rfl)) (by decide) (fun K hK => ?_)
      refine goes_ Try.func58 (by kernel_rfl) rfl #[.slice Ao54 t130.length co54, .slice A0_1 l0_1.length c0_1] (by rfl) rfl rfl (by (try simp only [List.map_toArray, List.map_cons, List.map_nil]); first | done | rfl | (simp only [List.length_drop, List.length_take]; rfl)) ?_
      with_reducible refine (r00NatSub.calls k _ _ t130 _ _ l0_1 t137 _ ?side1 ?side2 ?side3 ?side4 A37.out).mono ?_
      (case side1 => repeat (first | exact (Kd.Zv HO132.out).2.2 | (with_reducible refine Kd.ZC ?_ _) | (with_reducible refine Kd.ZF ?_ _) | (with_reducible refine Kd.ZN ?_)))
      (case side2 => exact (Kd.Zv HO132.out).2.1)
      (case side3 => repeat (first | exact (Kd.C_below HR0_1.out HB.out) | (with_reducible refine Kd.ZC ?_ _) | (with_reducible refine Kd.ZF ?_ _) | (with_reducible refine Kd.ZN ?_)))
      (case side4 => exact HC0_1.out)
      rintro e w57 ⟨v138, rfl, ho0, hb⟩
      refine ⟨_, rfl, ?_⟩
      have n0_ := Zb.mk (Kd.ZJ (by (with_reducible repeat first | apply Kd.Zm | apply Kd.Zo); exact HO132.out) (Kd.ZV ho0) hb)
      have n1_ := Zb.mk (Kd.ZG (Kd.R_new' ho0 (Kd.R_lt (by (with_reducible repeat first | apply Kd.Zm | apply Kd.Zo); exact HO132.out))) (Zi (by repeat (with_reducible first | exact HB.out | apply Zc | apply Za | apply Zd | refine Zh ?_ GE125.out | refine Zh ?_ GE126.out | refine Zh ?_ GE127.out))))
      have n2_ := Zb.mk (Zn (g := gb125) (o := .cells #[.bool a0_0, .slice A0_1 l0_1.length c0_1, .int .i64 a0_2] 48 (0, 0)) (by (with_reducible repeat first | refine Ze ?_ _ | refine Zg ?_ | refine Zf ?_ _); exact BK125.out) hb)
      have n3_ := Zb.mk (Zn (g := gb126) (o := .cells #[.bool a1_0, .slice A1_1 l1_1.length c1_1, .int .i64 a1_2] 48 (0, 0)) (by (with_reducible repeat first | refine Ze ?_ _ | refine Zg ?_ | refine Zf ?_ _); exact BK126.out) hb)
      have n4_ := Zb.mk (Zn (g := gb127) (o := .cells #[.bool false, .slice none 0 0, .int .i64 0] 48 (0, 0)) (by (with_reducible repeat first | refine Ze ?_ _ | refine Zg ?_ | refine Zf ?_ _); exact BK127.out) hb)
      have n5_ := Zb.mk (Zl (by repeat (with_reducible first | exact HB.out | apply Zc | apply Za | apply Zd | refine Zh ?_ GE125.out | refine Zh ?_ GE126.out | refine Zh ?_ GE127.out)) hb)
      clear HO132
      clear BK125
      clear BK126
      clear BK127
      clear HB
      have HO132 := n0_
      have HO139 := n1_
      have BK125 := n2_
      have BK126 := n3_
      have BK127 := n4_
      have HB := n5_
      clear n0_ n1_ n2_ n3_ n4_ n5_
      (try clear hb)
      (try clear hb2)
      (try clear hk)
      (try clear hi)
      (try clear ho0)
      obtain ⟨Ao58, co58, eo58⟩ := Kd.Zy HO139.out
      (first | subst eo58 | (injection eo58 with f1_ f2_ f3_; have f4_ := f1_.symm; have f5_ := f3_.symm; clear f1_ f2_ f3_; subst f4_; subst f5_))
      refine hK.out _ _ ⟨(Zk BK126.out 0).trans rfl, (Zk BK126.out 1).trans rfl, (Zk BK126.out 2).trans rfl, (Zk BK125.out 0).trans rfl, (Zk BK125.out 1).trans rfl, (Zk BK125.out 2).trans rfl⟩ (fun hHeld => ?_)
      clear hK K
      refine norm_ (a' := ?_) ?_ ?_
      rotate_left
      ·show Act.put _ (some 60) _ = _
       simp only [Act.put, List.setIfInBounds_toArray, List.set_cons_zero, List.set_cons_succ, Zx, ZA]
       rfl
      refine ZM (i := 7) (N := some 63) (v := ?_) (a' := ?_) #[true, true, true, true, true, true, true, true, false] rfl rfl (ZD HT_.out (by kernel_rfl)) (fun _ _ _ h => h) (Or.inl ⟨by rfl, ?_⟩) ?_ ?_
      rotate_left
      ·intro w'
       go_simp
       with_reducible rfl
      rotate_left
      ·simp only [Act.put, List.setIfInBounds_toArray, List.set_cons_zero, List.set_cons_succ, Zx, ZA]
       rfl
      refine one_ (i := 8) (N := none) #[true, true, true, true, true, true, true, true, true] rfl rfl (one_of HT_.out (by kernel_rfl)) (by decide) (fun K hK => ?_)
      have hs59 : w57.cell? ⟨gb127, 0, none⟩ = some (.bool false) := (Zk BK127.out 0).trans rfl
      have hfs59 := Zj BK127.out 0
      have hns59_0 := NB125_127.out
      have hns59_1 := NB126_127.out
      have hms59_0 := NB127_125.out
      have hms59_1 := NB127_126.out
      have hs60 : w57.cell? ⟨gb127, 1, none⟩ = some (.slice none 0 0) := (Zk BK127.out 1).trans rfl
      have hfs60 := Zj BK127.out 1
      have hns60_0 := NB125_127.out
      have hns60_1 := NB126_127.out
      have hms60_0 := NB127_125.out
      have hms60_1 := NB127_126.out
      have hs61 : w57.cell? ⟨gb127, 2, none⟩ = some (.int .i64 0) := (Zk BK127.out 2).trans rfl
      have hfs61 := Zj BK127.out 2
      have hns61_0 := NB125_127.out
      have hns61_1 := NB126_127.out
      have hms61_0 := NB127_125.out
      have hms61_1 := NB127_126.out
      refine skip_ (w1 := ?_) (by rfl) rfl ?_ ?_
      rotate_left
      ·go_simp
       rfl
      refine hK.out _ _ ⟨((cell_far (p := ⟨gb127, _, none⟩) NB126_127.out _).trans (((cell_far (p := ⟨gb127, _, none⟩) NB126_127.out _).trans (((cell_far (p := ⟨gb127, _, none⟩) NB126_127.out _).trans (hHeld.1)))))), ((cell_far (p := ⟨gb127, _, none⟩) NB126_127.out _).trans (((cell_far (p := ⟨gb127, _, none⟩) NB126_127.out _).trans (((cell_far (p := ⟨gb127, _, none⟩) NB126_127.out _).trans (hHeld.2.1)))))), ((cell_far (p := ⟨gb127, _, none⟩) NB126_127.out _).trans (((cell_far (p := ⟨gb127, _, none⟩) NB126_127.out _).trans (((cell_far (p := ⟨gb127, _, none⟩) NB126_127.out _).trans (hHeld.2.2.1)))))), ((cell_far (p := ⟨gb127, _, none⟩) NB125_127.out _).trans (((cell_far (p := ⟨gb127, _, none⟩) NB125_127.out _).trans (((cell_far (p := ⟨gb127, _, none⟩) NB125_127.out _).trans (hHeld.2.2.2.1)))))), ((cell_far (p := ⟨gb127, _, none⟩) NB125_127.out _).trans (((cell_far (p := ⟨gb127, _, none⟩) NB125_127.out _).trans (((cell_far (p := ⟨gb127, _, none⟩) NB125_127.out _).trans (hHeld.2.2.2.2.1)))))), ((cell_far (p := ⟨gb127, _, none⟩) NB125_127.out _).trans (((cell_far (p := ⟨gb127, _, none⟩) NB125_127.out _).trans (((cell_far (p := ⟨gb127, _, none⟩) NB125_127.out _).trans (hHeld.2.2.2.2.2))))))⟩ (fun hHeld => ?_)
      clear hK K
      refine done_ (done_of HT_.out (by kernel_rfl)) ?_
      try go_wp2
      refine bodyPost_ret (results_cell_row rfl _ _ gb127 48 #[.bool a1_0, .slice Ao58 t137.length co58, .int .i64 a0_2] (0, 0) _ rfl (by (with_reducible repeat first | refine Ze ?_ _ | refine Zg ?_ | refine Zf ?_ _); refine Zu (cs := #[.bool a1_0, .slice Ao58 t137.length co58, .int .i64 0]) ?_ 2 _ rfl; (with_reducible repeat first | refine Ze ?_ _ | refine Zg ?_ | refine Zf ?_ _); refine Zu (cs := #[.bool a1_0, .slice none 0 0, .int .i64 0]) ?_ 1 _ rfl; (with_reducible repeat first | refine Ze ?_ _ | refine Zg ?_ | refine Zf ?_ _); refine Zu (cs := #[.bool false, .slice none 0 0, .int .i64 0]) ?_ 0 _ rfl; (with_reducible repeat first | refine Ze ?_ _ | refine Zg ?_ | refine Zf ?_ _); exact BK127.out) Try.underlying48 rfl (by kernel_rfl)) rfl ?_
      exact ⟨_, by first | rfl | (simp [errW_none, errW_some] <;> rfl) | (simp [*, errW_none, errW_some] <;> rfl), by (with_reducible repeat first | apply Kd.Zm | apply Kd.Zo); exact Kd.ZE (Kd.ZH (p := ⟨gb127, 2, none⟩) (Kd.ZH (p := ⟨gb127, 1, none⟩) (Kd.ZH (p := ⟨gb127, 0, none⟩) (Kd.ZI HO139.out BK127.out (by decide)) (fun _ hk => hk.2) (.bool a1_0)) (fun _ hk => hk.2) (.slice Ao58 t137.length co58)) (fun _ hk => hk.2) (.int .i64 a0_2)) (fun _ hk => trivial), by repeat (with_reducible first | exact HB.out | apply Zc | apply Za | apply Zd | refine Zh ?_ GE125.out | refine Zh ?_ GE126.out | refine Zh ?_ GE127.out)⟩
def r00Num_Sign.f (k : Nat) (a0_0 : Bool) (l0_1 : List Int) (a0_2 : Int) : Option (Int) := (r00Num_Zero.f k a0_0 l0_1 a0_2).bind fun t141 => (if t141 = true then (some 0) else (if a0_0 = true then (some (-1)) else (some 1)))
set_option maxHeartbeats 8000000 in
set_option maxRecDepth 100000 in
theorem r00Num_Sign.calls (k : Nat) (a0_0 : Bool) (A0_1 : Option Addr) (c0_1 : Nat) (l0_1 : List Int) (a0_2 : Int) (r : Int) (w : World) (hr0_1 : Kd.C (Kd.int .u64) w A0_1 l0_1.length l0_1) (hc0_1 : l0_1.length ≤ c0_1) (h : r00Num_Sign.f k a0_0 l0_1 a0_2 = some r) :
  Calls Try.prog 60 #[.agg #[.bool a0_0, .slice A0_1 l0_1.length c0_1, .int .i64 a0_2]] w fun e w' => e = .returned (.int .i64 r) ∧ Below w.heap.size w w' := by
 have hu48 := Try.underlying48
 have HR0_1 := Zb.mk hr0_1
 have HC0_1 := Zb.mk hc0_1
 clear hr0_1 hc0_1
 have HB := Zb.mk (Below.refl w.heap.size w)
 have H : ((r00Num_Zero.f k a0_0 l0_1 a0_2).bind fun t141 => (if t141 = true then (some 0) else (if a0_0 = true then (some (-1)) else (some 1)))) = some r := h
 clear h
 replace H := Option.bind_eq_some_iff.mp H
 obtain ⟨t141, A20, H⟩ := H
 replace H : (if t141 = true then (some 0) else (if a0_0 = true then (some (-1)) else (some 1))) = some r := H
 have A2 := Zb.mk A20
 clear A20
 by_cases c3 : t141 = true
 ·subst c3
  have H1 : (some 0) = some r := by rw [if_pos rfl] at H; exact H
  clear H
  have H := H1
  clear H1
  obtain rfl := Option.some.inj H
  go_enter Try.func60, Try.ntmps60
  go_wp2_with (first | ((with_reducible refine Zt (N := 1) rfl ?_); refine Zs ?hg (N := 1) ?hd (cs := #[.bool a0_0, .slice A0_1 l0_1.length c0_1, .int .i64 a0_2]) (t := 48) ?hr ?_; (case hd => rfl); (case hg => rfl); (case hr => first | (go_simp; done) | (go_simp; rfl)); intro gb140 hg w4 hbox hb; have n0_ := Zb.mk (Zl (by repeat (with_reducible first | exact HB.out | apply Zc | apply Za | apply Zd)) hb); have n1_ := Zb.mk (hbox); have n2_ := Zb.mk ((by rw [hg]; exact (Zi (by repeat (with_reducible first | exact HB.out | apply Zc | apply Za | apply Zd))) : w.heap.size ≤ gb140)); have n3_ := Zb.mk ((by rw [hg]; exact (Zi (by repeat (with_reducible first | exact HB.out | apply Zc | apply Za | apply Zd))) : w.heap.size ≤ gb140)); clear HB; have HB := n0_; have BK140 := n1_; have GW140 := n2_; have GE140 := n3_; clear n0_ n1_ n2_ n3_; clear hb hbox hg; have hcz5_0 : w4.cell? ⟨gb140, 0, none⟩ = some (.bool a0_0) := (Zk BK140.out 0).trans rfl; have hcz5_1 : w4.cell? ⟨gb140, 1, none⟩ = some (.slice A0_1 l0_1.length c0_1) := (Zk BK140.out 1).trans rfl; have hcz5_2 : w4.cell? ⟨gb140, 2, none⟩ = some (.int .i64 a0_2) := (Zk BK140.out 2).trans rfl; have hfz5_0 := Zj BK140.out 0; have hfz5_1 := Zj BK140.out 1; have hfz5_2 := Zj BK140.out 2) | ((with_reducible refine Zp (f := 54) rfl ?_); refine ZB (some 4) rfl rfl Try.func54 (by kernel_rfl) rfl #[.agg #[.bool a0_0, .slice A0_1 l0_1.length c0_1, .int .i64 a0_2]] rfl (by (try simp only [List.map_toArray, List.map_cons, List.map_nil]); first | done | rfl | (simp only [List.length_drop, List.length_take]; rfl)) ?_; (with_reducible refine (r00Num_Zero.calls k a0_0 _ _ l0_1 a0_2 true _ ?side1 ?side2 A2.out).mono ?_); (case side1 => repeat (first | exact (Kd.C_below HR0_1.out HB.out) | (with_reducible refine Kd.ZC ?_ _) | (with_reducible refine Kd.ZF ?_ _) | (with_reducible refine Kd.ZN ?_))); (case side2 => exact HC0_1.out); rintro e w6 ⟨rfl, hb⟩; refine ⟨_, rfl, ?_⟩; have n0_ := Zb.mk (Zn (g := gb140) (o := .cells #[.bool a0_0, .slice A0_1 l0_1.length c0_1, .int .i64 a0_2] 48 (0, 0)) (by (with_reducible repeat first | refine Ze ?_ _ | refine Zg ?_ | refine Zf ?_ _); exact BK140.out) hb); have n1_ := Zb.mk (Zl (by repeat (with_reducible first | exact HB.out | apply Zc | apply Za | apply Zd | refine Zh ?_ GE140.out)) hb); clear BK140; clear HB; have BK140 := n0_; have HB := n1_; clear n0_ n1_; (try clear hb); (try clear hb2); (try clear hk); (try clear hi)))
  go_ret
  exact ⟨by first | rfl | (simp [errW_none, errW_some] <;> rfl) | (simp [*, errW_none, errW_some] <;> rfl), by repeat (with_reducible first | exact HB.out | apply Zc | apply Za | apply Zd | refine Zh ?_ GE140.out)⟩
 ·replace c3 := Bool.eq_false_iff.mpr c3
  subst c3
  have H1 : (if a0_0 = true then (some (-1)) else (some 1)) = some r := by rw [if_neg (show ¬ (false = true) by decide)] at H; exact H
  clear H
  have H := H1
  clear H1
  by_cases c7 : a0_0 = true
  ·subst c7
   have H1 : (some (-1)) = some r := by rw [if_pos rfl] at H; exact H
   clear H
   have H := H1
   clear H1
   obtain rfl := Option.some.inj H
   go_enter Try.func60, Try.ntmps60
   go_wp2_with (first | ((with_reducible refine Zt (N := 1) rfl ?_); refine Zs ?hg (N := 1) ?hd (cs := #[.bool true, .slice A0_1 l0_1.length c0_1, .int .i64 a0_2]) (t := 48) ?hr ?_; (case hd => rfl); (case hg => rfl); (case hr => first | (go_simp; done) | (go_simp; rfl)); intro gb140 hg w8 hbox hb; have n0_ := Zb.mk (Zl (by repeat (with_reducible first | exact HB.out | apply Zc | apply Za | apply Zd)) hb); have n1_ := Zb.mk (hbox); have n2_ := Zb.mk ((by rw [hg]; exact (Zi (by repeat (with_reducible first | exact HB.out | apply Zc | apply Za | apply Zd))) : w.heap.size ≤ gb140)); have n3_ := Zb.mk ((by rw [hg]; exact (Zi (by repeat (with_reducible first | exact HB.out | apply Zc | apply Za | apply Zd))) : w.heap.size ≤ gb140)); clear HB; have HB := n0_; have BK140 := n1_; have GW140 := n2_; have GE140 := n3_; clear n0_ n1_ n2_ n3_; clear hb hbox hg; have hcz9_0 : w8.cell? ⟨gb140, 0, none⟩ = some (.bool true) := (Zk BK140.out 0).trans rfl; have hcz9_1 : w8.cell? ⟨gb140, 1, none⟩ = some (.slice A0_1 l0_1.length c0_1) := (Zk BK140.out 1).trans rfl; have hcz9_2 : w8.cell? ⟨gb140, 2, none⟩ = some (.int .i64 a0_2) := (Zk BK140.out 2).trans rfl; have hfz9_0 := Zj BK140.out 0; have hfz9_1 := Zj BK140.out 1; have hfz9_2 := Zj BK140.out 2) | ((with_reducible refine Zp (f := 54) rfl ?_); refine ZB (some 4) rfl rfl Try.func54 (by kernel_rfl) rfl #[.agg #[.bool true, .slice A0_1 l0_1.length c0_1, .int .i64 a0_2]] rfl (by (try simp only [List.map_toArray, List.map_cons, List.map_nil]); first | done | rfl | (simp only [List.length_drop, List.length_take]; rfl)) ?_; (with_reducible refine (r00Num_Zero.calls k true _ _ l0_1 a0_2 false _ ?side1 ?side2 A2.out).mono ?_); (case side1 => repeat (first | exact (Kd.C_below HR0_1.out HB.out) | (with_reducible refine Kd.ZC ?_ _) | (with_reducible refine Kd.ZF ?_ _) | (with_reducible refine Kd.ZN ?_))); (case side2 => exact HC0_1.out); rintro e w10 ⟨rfl, hb⟩; refine ⟨_, rfl, ?_⟩; have n0_ := Zb.mk (Zn (g := gb140) (o := .cells #[.bool true, .slice A0_1 l0_1.length c0_1, .int .i64 a0_2] 48 (0, 0)) (by (with_reducible repeat first | refine Ze ?_ _ | refine Zg ?_ | refine Zf ?_ _); exact BK140.out) hb); have n1_ := Zb.mk (Zl (by repeat (with_reducible first | exact HB.out | apply Zc | apply Za | apply Zd | refine Zh ?_ GE140.out)) hb); clear BK140; clear HB; have BK140 := n0_; have HB := n1_; clear n0_ n1_; (try clear hb); (try clear hb2); (try clear hk); (try clear hi); have hcz11_0 : w10.cell? ⟨gb140, 0, none⟩ = some (.bool true) := (Zk BK140.out 0).trans rfl; have hcz11_1 : w10.cell? ⟨gb140, 1, none⟩ = some (.slice A0_1 l0_1.length c0_1) := (Zk BK140.out 1).trans rfl; have hcz11_2 : w10.cell? ⟨gb140, 2, none⟩ = some (.int .i64 a0_2) := (Zk BK140.out 2).trans rfl; have hfz11_0 := Zj BK140.out 0; have hfz11_1 := Zj BK140.out 1; have hfz11_2 := Zj BK140.out 2))
   go_ret
   exact ⟨by first | rfl | (simp [errW_none, errW_some] <;> rfl) | (simp [*, errW_none, errW_some] <;> rfl), by repeat (with_reducible first | exact HB.out | apply Zc | apply Za | apply Zd | refine Zh ?_ GE140.out)⟩
  ·replace c7 := Bool.eq_false_iff.mpr c7
   subst c7
   have H1 : (some 1) = some r := by rw [if_neg (show ¬ (false = true) by decide)] at H; exact H
   clear H
   have H := H1
   clear H1
   obtain rfl := Option.some.inj H
   go_enter Try.func60, Try.ntmps60
   go_wp2_with (first | ((with_reducible refine Zt (N := 1) rfl ?_); refine Zs ?hg (N := 1) ?hd (cs := #[.bool false, .slice A0_1 l0_1.length c0_1, .int .i64 a0_2]) (t := 48) ?hr ?_; (case hd => rfl); (case hg => rfl); (case hr => first | (go_simp; done) | (go_simp; rfl)); intro gb140 hg w12 hbox hb; have n0_ := Zb.mk (Zl (by repeat (with_reducible first | exact HB.out | apply Zc | apply Za | apply Zd)) hb); have n1_ := Zb.mk (hbox); have n2_ := Zb.mk ((by rw [hg]; exact (Zi (by repeat (with_reducible first | exact HB.out | apply Zc | apply Za | apply Zd))) : w.heap.size ≤ gb140)); have n3_ := Zb.mk ((by rw [hg]; exact (Zi (by repeat (with_reducible first | exact HB.out | apply Zc | apply Za | apply Zd))) : w.heap.size ≤ gb140)); clear HB; have HB := n0_; have BK140 := n1_; have GW140 := n2_; have GE140 := n3_; clear n0_ n1_ n2_ n3_; clear hb hbox hg; have hcz13_0 : w12.cell? ⟨gb140, 0, none⟩ = some (.bool false) := (Zk BK140.out 0).trans rfl; have hcz13_1 : w12.cell? ⟨gb140, 1, none⟩ = some (.slice A0_1 l0_1.length c0_1) := (Zk BK140.out 1).trans rfl; have hcz13_2 : w12.cell? ⟨gb140, 2, none⟩ = some (.int .i64 a0_2) := (Zk BK140.out 2).trans rfl; have hfz13_0 := Zj BK140.out 0; have hfz13_1 := Zj BK140.out 1; have hfz13_2 := Zj BK140.out 2) | ((with_reducible refine Zp (f := 54) rfl ?_); refine ZB (some 4) rfl rfl Try.func54 (by kernel_rfl) rfl #[.agg #[.bool false, .slice A0_1 l0_1.length c0_1, .int .i64 a0_2]] rfl (by (try simp only [List.map_toArray, List.map_cons, List.map_nil]); first | done | rfl | (simp only [List.length_drop, List.length_take]; rfl)) ?_; (with_reducible refine (r00Num_Zero.calls k false _ _ l0_1 a0_2 false _ ?side1 ?side2 A2.out).mono ?_); (case side1 => repeat (first | exact (Kd.C_below HR0_1.out HB.out) | (with_reducible refine Kd.ZC ?_ _) | (with_reducible refine Kd.ZF ?_ _) | (with_reducible refine Kd.ZN ?_))); (case side2 => exact HC0_1.out); rintro e w14 ⟨rfl, hb⟩; refine ⟨_, rfl, ?_⟩; have n0_ := Zb.mk (Zn (g := gb140) (o := .cells #[.bool false, .slice A0_1 l0_1.length c0_1, .int .i64 a0_2] 48 (0, 0)) (by (with_reducible repeat first | refine Ze ?_ _ | refine Zg ?_ | refine Zf ?_ _); exact BK140.out) hb); have n1_ := Zb.mk (Zl (by repeat (with_reducible first | exact HB.out | apply Zc | apply Za | apply Zd | refine Zh ?_ GE140.out)) hb); clear BK140; clear HB; have BK140 := n0_; have HB := n1_; clear n0_ n1_; (try clear hb); (try clear hb2); (try clear hk); (try clear hi); have hcz15_0 : w14.cell? ⟨gb140, 0, none⟩ = some (.bool false) := (Zk BK140.out 0).trans rfl; have hcz15_1 : w14.cell? ⟨gb140, 1, none⟩ = some (.slice A0_1 l0_1.length c0_1) := (Zk BK140.out 1).trans rfl; have hcz15_2 : w14.cell? ⟨gb140, 2, none⟩ = some (.int .i64 a0_2) := (Zk BK140.out 2).trans rfl; have hfz15_0 := Zj BK140.out 0; have hfz15_1 := Zj BK140.out 1; have hfz15_2 := Zj BK140.out 2))
   go_ret
   exact ⟨by first | rfl | (simp [errW_none, errW_some] <;> rfl) | (simp [*, errW_none, errW_some] <;> rfl), by repeat (with_reducible first | exact HB.out | apply Zc | apply Za | apply Zd | refine Zh ?_ GE140.out)⟩
end Go.Proofs.Ytbmddlldadbfnaa.BE
end
section
namespace Go.Proofs.Ytbmddlldadbfnaa.BE
open Go.RowKit Go.Proofs.Ytbmddlldadbfnaa.BA Go.Proofs.Ytbmddlldadbfnaa.BB Go.Proofs.YtbmddlldadbfnaaW.PrintWords Go.Proofs.YtbmddlldadbfnaaW.PrintLast Go.Proofs.YtbmddlldadbfnaaW.PrintMore
attribute [local go_sem] ZU ZS max_two min_two ZP ZO ZT ZR
set_option linter.unusedVariables false
set_option linter.unusedSimpArgs false
set_option maxHeartbeats 4000000 in
set_option maxRecDepth 100000 in
theorem minus_calls (n : Bool) (A : Option Addr) (c : Nat) (l : List Int) (e : Int) (w : World) :
  Calls Try.prog 50 #[.agg #[.bool n, .slice A l.length c, .int .i64 e]] w fun ev w' => ev = .returned (.agg #[.bool (!n), .slice A l.length c, .int .i64 e]) ∧ Below w.heap.size w w' := by
 have hu48 := Try.underlying48
 go_enter Try.func50, Try.ntmps50
 go_wp2_with fail
 have BR := blk_new (w.alloc (Obj.cells #[Value.bool n, Value.slice A l.length c, Value.int IntKind.i64 e] 48)) (Obj.cells #[Value.bool !n, Value.slice A l.length c, Value.int IntKind.i64 e] 48)
 rw [show (w.alloc (Obj.cells #[Value.bool n, Value.slice A l.length c, Value.int IntKind.i64 e] 48)).heap.size = w.heap.size + 1 by simp] at BR
 refine bodyPost_ret (results_cell_row rfl _ _ (w.heap.size + 1) 48 #[.bool !n, .slice A l.length c, .int .i64 e] (0, 0) _ rfl BR Try.underlying48 rfl (by kernel_rfl)) rfl ?_
 exact ⟨rfl, Zc (Zc (Below.refl _ _) _) _⟩
def r00Less.f (k : Nat) (n0 : Bool) (l0 : List Int) (e0 : Int) (n1 : Bool) (l1 : List Int) (e1 : Int) : Option (Bool × List Int × Int) := r00Plus.f k n0 l0 e0 (!n1) l1 e1
set_option maxHeartbeats 4000000 in
set_option maxRecDepth 100000 in
theorem r00Less.calls (k : Nat) (n0 : Bool) (A0 : Option Addr) (c0 : Nat) (l0 : List Int) (e0 : Int) (n1 : Bool) (A1 : Option Addr) (c1 : Nat) (l1 : List Int) (e1 : Int) (r1 : Bool) (r2 : List Int) (r3 : Int) (w : World)
  (hr0 : Kd.C (Kd.int .u64) w A0 l0.length l0) (hc0 : l0.length ≤ c0) (hr1 : Kd.C (Kd.int .u64) w A1 l1.length l1) (hc1 : l1.length ≤ c1) (h : r00Less.f k n0 l0 e0 n1 l1 e1 = some (r1, r2, r3)) :
  Calls Try.prog 62 #[.agg #[.bool n0, .slice A0 l0.length c0, .int .i64 e0], .agg #[.bool n1, .slice A1 l1.length c1, .int .i64 e1]] w fun e w' => ∃ v1_ : Value, e = .returned (.agg #[.bool r1, v1_, .int .i64 r3]) ∧ Kd.R (Kd.int .u64) 46 w' w.heap.size (fun _ => True) v1_ r2 ∧ Below w.heap.size w w' := by
 have HR0 := Zb.mk hr0
 have HC0 := Zb.mk hc0
 have HR1 := Zb.mk hr1
 have HC1 := Zb.mk hc1
 have HF := Zb.mk h
 clear hr0 hc0 hr1 hc1 h
 have hu48 := Try.underlying48
 have z1 : w.heap.size < w.heap.size + 1 := Nat.lt_succ_self _
 have hnx : w.heap.size + 1 + 1 ≠ w.heap.size := by omega
 have hny : w.heap.size + 1 + 1 ≠ w.heap.size + 1 := by omega
 go_enter Try.func62, Try.ntmps62
 go_wp2_with fail
 have ex : ∃ X : World, X = (((w.alloc (Obj.cells #[Value.bool n0, Value.slice A0 l0.length c0, Value.int IntKind.i64 e0] 48)).alloc
     (Obj.cells #[Value.bool n1, Value.slice A1 l1.length c1, Value.int IntKind.i64 e1] 48)).alloc
   (Obj.cells #[Value.bool false, Value.slice none 0 0, Value.int IntKind.i64 0] 48)) := ⟨_, rfl⟩
 obtain ⟨X, hX⟩ := ex
 have BX : X.drew.heap[w.heap.size]? = some (.cells #[Value.bool n0, Value.slice A0 l0.length c0, Value.int IntKind.i64 e0] 48 (0, 0)) := by rw [hX]; exact Zg (Zf (Zf (blk_new w _) _) _)
 have BY : X.drew.heap[w.heap.size + 1]? = some (.cells #[Value.bool n1, Value.slice A1 l1.length c1, Value.int IntKind.i64 e1] 48 (0, 0)) := by
  rw [hX]
  have := blk_new (w.alloc (Obj.cells #[Value.bool n0, Value.slice A0 l0.length c0, Value.int IntKind.i64 e0] 48)) (Obj.cells #[Value.bool n1, Value.slice A1 l1.length c1, Value.int IntKind.i64 e1] 48)
  rw [show (w.alloc (Obj.cells #[Value.bool n0, Value.slice A0 l0.length c0, Value.int IntKind.i64 e0] 48)).heap.size = w.heap.size + 1 by simp] at this
  exact Zg (Zf this _)
 have BR : X.drew.heap[w.heap.size + 1 + 1]? = some (.cells #[Value.bool false, Value.slice none 0 0, Value.int IntKind.i64 0] 48 (0, 0)) := by
  rw [hX]
  have := blk_new ((w.alloc (Obj.cells #[Value.bool n0, Value.slice A0 l0.length c0, Value.int IntKind.i64 e0] 48)).alloc (Obj.cells #[Value.bool n1, Value.slice A1 l1.length c1, Value.int IntKind.i64 e1] 48)) (Obj.cells #[Value.bool false, Value.slice none 0 0, Value.int IntKind.i64 0] 48)
  rw [show ((w.alloc (Obj.cells #[Value.bool n0, Value.slice A0 l0.length c0, Value.int IntKind.i64 e0] 48)).alloc (Obj.cells #[Value.bool n1, Value.slice A1 l1.length c1, Value.int IntKind.i64 e1] 48)).heap.size = w.heap.size + 1 + 1 by simp] at this
  exact Zg this
 have HB : Below w.heap.size w X.drew := by rw [hX]; exact Zd (Zc (Zc (Zc (Below.refl _ _) _) _) _)
 rw [← hX]
 clear hX
 refine start_ (n := 5) (S := fun w' => w'.cell? ⟨w.heap.size, 0, none⟩ = some (.bool n0) ∧ w'.cell? ⟨w.heap.size, 1, none⟩ = some (.slice A0 l0.length c0) ∧ w'.cell? ⟨w.heap.size, 2, none⟩ = some (.int .i64 e0) ∧ w'.cell? ⟨w.heap.size + 1, 0, none⟩ = some (.bool n1) ∧ w'.cell? ⟨w.heap.size + 1, 1, none⟩ = some (.slice A1 l1.length c1) ∧ w'.cell? ⟨w.heap.size + 1, 2, none⟩ = some (.int .i64 e1)) (ds := []) #[false, false, false, false, false] (by kernel_rfl) rfl rfl ⟨(Zk BX 0).trans rfl, (Zk BX 1).trans rfl, (Zk BX 2).trans rfl, (Zk BY 0).trans rfl, (Zk BY 1).trans rfl, (Zk BY 2).trans rfl⟩ (fun hHeld => ?_)
 generalize X.drew = w9 at BX BY BR HB hHeld ⊢
 refine take_ (i := 0) (N := some 5) (v := ?_) (a' := ?_) #[true, false, false, false, false] rfl rfl (by kernel_rfl) (fun _ _ _ h => h) (Or.inl ⟨by rfl, ?_⟩) hHeld ?_ ?_
 rotate_left
 ·rintro w' ⟨s0, s1, s2, s3, s4, s5⟩
  go_simp
  with_reducible rfl
 rotate_left
 ·simp only [Act.put, List.setIfInBounds_toArray, List.set_cons_zero, List.set_cons_succ, Zx, ZA]
  rfl
 refine take_ (i := 1) (N := some 6) (v := ?_) (a' := ?_) #[true, true, false, false, false] rfl rfl (by kernel_rfl) (fun _ _ _ h => h) (Or.inl ⟨by rfl, ?_⟩) hHeld ?_ ?_
 rotate_left
 ·rintro w' ⟨s0, s1, s2, s3, s4, s5⟩
  go_simp
  with_reducible rfl
 rotate_left
 ·simp only [Act.put, List.setIfInBounds_toArray, List.set_cons_zero, List.set_cons_succ, Zx, ZA]
  rfl
 refine one_ (i := 2) (N := some 7) #[true, true, true, false, false] rfl rfl (by kernel_rfl) (by decide) (fun K hK => ?_)
 refine goes_ Try.func50 (by kernel_rfl) rfl #[.agg #[.bool n1, .slice A1 l1.length c1, .int .i64 e1]] (by rfl) rfl rfl (by (try simp only [List.map_toArray, List.map_cons, List.map_nil]); first | done | rfl) ?_
 refine (minus_calls n1 A1 c1 l1 e1 _).mono ?_
 rintro e w10 ⟨rfl, hb⟩
 refine ⟨_, rfl, ?_⟩
 replace BX := Zn BX hb
 replace BY := Zn BY hb
 replace BR := Zn BR hb
 replace HB := HB.trans (hb.mono HB.size)
 clear hb hHeld
 refine hK.out _ _ ⟨(Zk BX 0).trans rfl, (Zk BX 1).trans rfl, (Zk BX 2).trans rfl, (Zk BY 0).trans rfl, (Zk BY 1).trans rfl, (Zk BY 2).trans rfl⟩ (fun hHeld => ?_)
 clear hK K
 refine norm_ (a' := ?_) ?_ ?_
 rotate_left
 ·show Act.put _ (some 7) _ = _
  simp only [Act.put, List.setIfInBounds_toArray, List.set_cons_zero, List.set_cons_succ, Zx, ZA]
  rfl
 refine one_ (i := 3) (N := some 8) #[true, true, true, true, false] rfl rfl (by kernel_rfl) (by decide) (fun K hK => ?_)
 refine goes_ Try.func24 (by kernel_rfl) rfl #[.agg #[.bool n0, .slice A0 l0.length c0, .int .i64 e0], .agg #[.bool (!n1), .slice A1 l1.length c1, .int .i64 e1]] (by rfl) rfl rfl (by (try simp only [List.map_toArray, List.map_cons, List.map_nil]); first | done | rfl) ?_
 refine (r00Plus.calls k n0 A0 c0 l0 e0 (!n1) A1 c1 l1 e1 r1 r2 r3 _ (Kd.C_below HR0.out HB) HC0.out (Kd.C_below HR1.out HB) HC1.out HF.out).mono ?_
 rintro e w12 ⟨v, rfl, ho, hb⟩
 obtain ⟨Av, cv, rfl⟩ := Kd.Zy ho
 refine ⟨_, rfl, ?_⟩
 replace BX := Zn BX hb
 replace BY := Zn BY hb
 have HO := Kd.ZG ho HB.size
 have NE := Kd.R_ne ho (Zn BR hb) (by decide)
 replace BR := Zn BR hb
 replace HB := HB.trans (hb.mono HB.size)
 clear hb hHeld ho
 refine hK.out _ _ ⟨(Zk BX 0).trans rfl, (Zk BX 1).trans rfl, (Zk BX 2).trans rfl, (Zk BY 0).trans rfl, (Zk BY 1).trans rfl, (Zk BY 2).trans rfl⟩ (fun hHeld => ?_)
 clear hK K
 refine norm_ (a' := ?_) ?_ ?_
 rotate_left
 ·show Act.put _ (some 8) _ = _
  simp only [Act.put, List.setIfInBounds_toArray, List.set_cons_zero, List.set_cons_succ, Zx, ZA]
  rfl
 refine one_ (i := 4) (N := none) #[true, true, true, true, true] rfl rfl (by kernel_rfl) (by decide) (fun K hK => ?_)
 have hs0 : w12.cell? ⟨w.heap.size + 1 + 1, 0, none⟩ = some (.bool false) := (Zk BR 0).trans rfl
 have hs1 : w12.cell? ⟨w.heap.size + 1 + 1, 1, none⟩ = some (.slice none 0 0) := (Zk BR 1).trans rfl
 have hs2 : w12.cell? ⟨w.heap.size + 1 + 1, 2, none⟩ = some (.int .i64 0) := (Zk BR 2).trans rfl
 have hf0 := Zj BR 0
 have hf1 := Zj BR 1
 have hf2 := Zj BR 2
 refine skip_ (w1 := ?_) (by rfl) rfl ?_ ?_
 rotate_left
 ·go_simp
  rfl
 have FX : ∀ (i : Nat) (u0 u1 u2 : Value), (((w12.setCell ⟨w.heap.size + 1 + 1, 0, none⟩ u0).setCell ⟨w.heap.size + 1 + 1, 1, none⟩ u1).setCell ⟨w.heap.size + 1 + 1, 2, none⟩ u2).cell? ⟨w.heap.size, i, none⟩ = w12.cell? ⟨w.heap.size, i, none⟩ := fun i u0 u1 u2 =>
  (cell_far (p := ⟨w.heap.size + 1 + 1, _, none⟩) hnx.symm _).trans ((cell_far (p := ⟨w.heap.size + 1 + 1, _, none⟩) hnx.symm _).trans (cell_far (p := ⟨w.heap.size + 1 + 1, _, none⟩) hnx.symm _))
 have FY : ∀ (i : Nat) (u0 u1 u2 : Value), (((w12.setCell ⟨w.heap.size + 1 + 1, 0, none⟩ u0).setCell ⟨w.heap.size + 1 + 1, 1, none⟩ u1).setCell ⟨w.heap.size + 1 + 1, 2, none⟩ u2).cell? ⟨w.heap.size + 1, i, none⟩ = w12.cell? ⟨w.heap.size + 1, i, none⟩ := fun i u0 u1 u2 =>
  (cell_far (p := ⟨w.heap.size + 1 + 1, _, none⟩) hny.symm _).trans ((cell_far (p := ⟨w.heap.size + 1 + 1, _, none⟩) hny.symm _).trans (cell_far (p := ⟨w.heap.size + 1 + 1, _, none⟩) hny.symm _))
 refine hK.out _ _ ⟨(FX _ _ _ _).trans hHeld.1, (FX _ _ _ _).trans hHeld.2.1, (FX _ _ _ _).trans hHeld.2.2.1, (FY _ _ _ _).trans hHeld.2.2.2.1, (FY _ _ _ _).trans hHeld.2.2.2.2.1, (FY _ _ _ _).trans hHeld.2.2.2.2.2⟩ (fun hHeld => ?_)
 clear hK K
 refine done_ (by kernel_rfl) ?_
 try go_wp2
 refine bodyPost_ret (results_cell_row rfl _ _ (w.heap.size + 1 + 1) 48 #[.bool r1, .slice Av r2.length cv, .int .i64 r3] (0, 0) _ rfl (by
  refine Zu (cs := #[.bool r1, .slice Av r2.length cv, .int .i64 0]) ?_ 2 _ rfl
  refine Zu (cs := #[.bool r1, .slice none 0 0, .int .i64 0]) ?_ 1 _ rfl
  refine Zu (cs := #[.bool false, .slice none 0 0, .int .i64 0]) ?_ 0 _ rfl
  exact BR) Try.underlying48 rfl (by kernel_rfl)) rfl ?_
 exact ⟨_, rfl, Kd.ZE (Kd.ZH (p := ⟨w.heap.size + 1 + 1, 2, none⟩) (Kd.ZH (p := ⟨w.heap.size + 1 + 1, 1, none⟩) (Kd.ZH (p := ⟨w.heap.size + 1 + 1, 0, none⟩) (Kd.ZI HO BR (by decide)) (fun _ hk => hk.2) (.bool r1)) (fun _ hk => hk.2) (.slice Av r2.length cv)) (fun _ hk => hk.2) (.int .i64 r3)) (fun _ _ => trivial), Zh (Zh (Zh HB (by omega)) (by omega)) (by omega)⟩
end Go.Proofs.Ytbmddlldadbfnaa.BE
end
section
namespace Go.Proofs.Ytbmddlldadbfnaa.BC
open Go.RowKit Go.Proofs.Ytbmddlldadbfnaa.BA Go.Proofs.Ytbmddlldadbfnaa.BB Go.Proofs.Ytbmddlldadbfnaa.BD Go.Proofs.Ytbmddlldadbfnaa.BE Go.Proofs.YtbmddlldadbfnaaW.PrintWords Go.Proofs.YtbmddlldadbfnaaW.PrintLast Go.Proofs.YtbmddlldadbfnaaW.PrintMore
attribute [local go_sem] ZU ZS max_two min_two ZP ZO ZT ZR
set_option linter.unusedVariables false
set_option linter.unusedSimpArgs false
def errW : Option Int → Value
 | none => .nilIface
 | some c => .iface 0 (.int .i64 c)
theorem errW_none : errW none = .nilIface := rfl
theorem errW_some (c : Int) : errW (some c) = .iface 0 (.int .i64 c) := rfl
end Go.Proofs.Ytbmddlldadbfnaa.BC
end
section
namespace Go.Proofs.Ytbmddlldadbfnaa.BC
open Go.RowKit Go.Proofs.Ytbmddlldadbfnaa.BA Go.Proofs.Ytbmddlldadbfnaa.BB Go.Proofs.Ytbmddlldadbfnaa.BD Go.Proofs.Ytbmddlldadbfnaa.BE Go.Proofs.YtbmddlldadbfnaaW.PrintWords Go.Proofs.YtbmddlldadbfnaaW.PrintLast Go.Proofs.YtbmddlldadbfnaaW.PrintMore
attribute [local go_sem] ZU ZS max_two min_two ZP ZO ZT ZR
set_option linter.unusedVariables false
set_option linter.unusedSimpArgs false
def r00Compare.f (k : Nat) (a0_0 : Bool) (l0_1 : List Int) (a0_2 : Int) (a1_0 : Bool) (l1_1 : List Int) (a1_2 : Int) : Option (Int) := (r00Num_Sign.f k a0_0 l0_1 a0_2).bind fun t103 => ((r00Num_Sign.f k a1_0 l1_1 a1_2).bind fun t104 => (if t103 < t104 then (none) else (if t103 > t104 then (none) else (if t103 = 0 then (none) else ((r00Num_Top.f k a0_0 l0_1 a0_2).bind fun t105 => ((r00Num_Top.f k a1_0 l1_1 a1_2).bind fun t106 => (if t105 < t106 then (some (wrap64 (-t103))) else ((r00Num_Top.f k a0_0 l0_1 a0_2).bind fun t107 => ((r00Num_Top.f k a1_0 l1_1 a1_2).bind fun t108 => (if t107 > t108 then (none) else ((r00Less.f k a0_0 l0_1 a0_2 a1_0 l1_1 a1_2).bind fun bt109 => ((r00Num_Sign.f k bt109.1 bt109.2.1 bt109.2.2).bind fun t114 => (some t114)))))))))))))
set_option maxHeartbeats 8000000 in
set_option maxRecDepth 100000 in
theorem r00Compare.calls (k : Nat) (a0_0 : Bool) (A0_1 : Option Addr) (c0_1 : Nat) (l0_1 : List Int) (a0_2 : Int) (a1_0 : Bool) (A1_1 : Option Addr) (c1_1 : Nat) (l1_1 : List Int) (a1_2 : Int) (r : Int) (w : World) (hr0_1 : Kd.C (Kd.int .u64) w A0_1 l0_1.length l0_1) (hc0_1 : l0_1.length ≤ c0_1) (hr1_1 : Kd.C (Kd.int .u64) w A1_1 l1_1.length l1_1) (hc1_1 : l1_1.length ≤ c1_1) (h : r00Compare.f k a0_0 l0_1 a0_2 a1_0 l1_1 a1_2 = some r) :
  Calls Try.prog 28 #[.agg #[.bool a0_0, .slice A0_1 l0_1.length c0_1, .int .i64 a0_2], .agg #[.bool a1_0, .slice A1_1 l1_1.length c1_1, .int .i64 a1_2]] w fun e w' => e = .returned (.int .i64 r) ∧ Below w.heap.size w w' := by
 have hu48 := Try.underlying48
 have HR0_1 := Zb.mk hr0_1
 have HC0_1 := Zb.mk hc0_1
 clear hr0_1 hc0_1
 have HR1_1 := Zb.mk hr1_1
 have HC1_1 := Zb.mk hc1_1
 clear hr1_1 hc1_1
 have HB := Zb.mk (Below.refl w.heap.size w)
 have H : ((r00Num_Sign.f k a0_0 l0_1 a0_2).bind fun t103 => ((r00Num_Sign.f k a1_0 l1_1 a1_2).bind fun t104 => (if t103 < t104 then (none) else (if t103 > t104 then (none) else (if t103 = 0 then (none) else ((r00Num_Top.f k a0_0 l0_1 a0_2).bind fun t105 => ((r00Num_Top.f k a1_0 l1_1 a1_2).bind fun t106 => (if t105 < t106 then (some (wrap64 (-t103))) else ((r00Num_Top.f k a0_0 l0_1 a0_2).bind fun t107 => ((r00Num_Top.f k a1_0 l1_1 a1_2).bind fun t108 => (if t107 > t108 then (none) else ((r00Less.f k a0_0 l0_1 a0_2 a1_0 l1_1 a1_2).bind fun bt109 => ((r00Num_Sign.f k bt109.1 bt109.2.1 bt109.2.2).bind fun t114 => (some t114)))))))))))))) = some r := h
 clear h
 replace H := Option.bind_eq_some_iff.mp H
 obtain ⟨t103, A30, H⟩ := H
 replace H : ((r00Num_Sign.f k a1_0 l1_1 a1_2).bind fun t104 => (if t103 < t104 then (none) else (if t103 > t104 then (none) else (if t103 = 0 then (none) else ((r00Num_Top.f k a0_0 l0_1 a0_2).bind fun t105 => ((r00Num_Top.f k a1_0 l1_1 a1_2).bind fun t106 => (if t105 < t106 then (some (wrap64 (-t103))) else ((r00Num_Top.f k a0_0 l0_1 a0_2).bind fun t107 => ((r00Num_Top.f k a1_0 l1_1 a1_2).bind fun t108 => (if t107 > t108 then (none) else ((r00Less.f k a0_0 l0_1 a0_2 a1_0 l1_1 a1_2).bind fun bt109 => ((r00Num_Sign.f k bt109.1 bt109.2.1 bt109.2.2).bind fun t114 => (some t114))))))))))))) = some r := H
 have A3 := Zb.mk A30
 clear A30
 replace H := Option.bind_eq_some_iff.mp H
 obtain ⟨t104, A40, H⟩ := H
 replace H : (if t103 < t104 then (none) else (if t103 > t104 then (none) else (if t103 = 0 then (none) else ((r00Num_Top.f k a0_0 l0_1 a0_2).bind fun t105 => ((r00Num_Top.f k a1_0 l1_1 a1_2).bind fun t106 => (if t105 < t106 then (some (wrap64 (-t103))) else ((r00Num_Top.f k a0_0 l0_1 a0_2).bind fun t107 => ((r00Num_Top.f k a1_0 l1_1 a1_2).bind fun t108 => (if t107 > t108 then (none) else ((r00Less.f k a0_0 l0_1 a0_2 a1_0 l1_1 a1_2).bind fun bt109 => ((r00Num_Sign.f k bt109.1 bt109.2.1 bt109.2.2).bind fun t114 => (some t114)))))))))))) = some r := H
 have A4 := Zb.mk A40
 clear A40
 by_cases c5 : t103 < t104
 ·rw [if_pos c5] at H
  exact absurd H (by simp)
 ·rw [if_neg c5] at H
  have c5b0 : decide (t103 < t104) = false := decide_eq_false c5
  clear c5
  by_cases c6 : t103 > t104
  ·rw [if_pos c6] at H
   exact absurd H (by simp)
  ·rw [if_neg c6] at H
   have c6b0 : decide (t104 < t103) = false := decide_eq_false c6
   clear c6
   by_cases c7 : t103 = 0
   ·rw [if_pos c7] at H
    exact absurd H (by simp)
   ·rw [if_neg c7] at H
    have c7b0 : (t103 == 0) = false := beq_eq_false_iff_ne.mpr c7
    have c7b1 : (t103 != 0) = true := bne_iff_ne.mpr c7
    replace H := Option.bind_eq_some_iff.mp H
    obtain ⟨t105, A80, H⟩ := H
    replace H : ((r00Num_Top.f k a1_0 l1_1 a1_2).bind fun t106 => (if t105 < t106 then (some (wrap64 (-t103))) else ((r00Num_Top.f k a0_0 l0_1 a0_2).bind fun t107 => ((r00Num_Top.f k a1_0 l1_1 a1_2).bind fun t108 => (if t107 > t108 then (none) else ((r00Less.f k a0_0 l0_1 a0_2 a1_0 l1_1 a1_2).bind fun bt109 => ((r00Num_Sign.f k bt109.1 bt109.2.1 bt109.2.2).bind fun t114 => (some t114)))))))) = some r := H
    have A8 := Zb.mk A80
    clear A80
    replace H := Option.bind_eq_some_iff.mp H
    obtain ⟨t106, A90, H⟩ := H
    replace H : (if t105 < t106 then (some (wrap64 (-t103))) else ((r00Num_Top.f k a0_0 l0_1 a0_2).bind fun t107 => ((r00Num_Top.f k a1_0 l1_1 a1_2).bind fun t108 => (if t107 > t108 then (none) else ((r00Less.f k a0_0 l0_1 a0_2 a1_0 l1_1 a1_2).bind fun bt109 => ((r00Num_Sign.f k bt109.1 bt109.2.1 bt109.2.2).bind fun t114 => (some t114))))))) = some r := H
    have A9 := Zb.mk A90
    clear A90
    by_cases c10 : t105 < t106
    ·rw [if_pos c10] at H
     have c10b0 : decide (t105 < t106) = true := decide_eq_true c10
     clear c10
     obtain rfl := Option.some.inj H
     go_enter Try.func28, Try.ntmps28
     try go_wp2_with (first | ((with_reducible refine Zt (N := 2) rfl ?_); refine Zs ?hg (N := 2) ?hd (cs := #[.bool a0_0, .slice A0_1 l0_1.length c0_1, .int .i64 a0_2]) (t := 48) ?hr ?_; (case hd => rfl); (case hg => rfl); (case hr => first | (go_simp; done) | (go_simp; rfl)); intro gb101 hg w11 hbox hb; have n0_ := Zb.mk (Zl (by repeat (with_reducible first | exact HB.out | apply Zc | apply Za | apply Zd)) hb); have n1_ := Zb.mk (hbox); have n2_ := Zb.mk ((by rw [hg]; exact (Zi (by repeat (with_reducible first | exact HB.out | apply Zc | apply Za | apply Zd))) : w.heap.size ≤ gb101)); have n3_ := Zb.mk ((by rw [hg]; exact (Zi (by repeat (with_reducible first | exact HB.out | apply Zc | apply Za | apply Zd))) : w.heap.size ≤ gb101)); clear HB; have HB := n0_; have BK101 := n1_; have GW101 := n2_; have GE101 := n3_; clear n0_ n1_ n2_ n3_; clear hb hbox hg) | ((with_reducible refine Zt (N := 3) rfl ?_); refine Zs ?hg (N := 3) ?hd (cs := #[.bool a1_0, .slice A1_1 l1_1.length c1_1, .int .i64 a1_2]) (t := 48) ?hr ?_; (case hd => rfl); (case hg => rfl); (case hr => first | (go_simp; done) | (go_simp; rfl)); intro gb102 hg w12 hbox hb; have n0_ := Zb.mk (Zn (g := gb101) (o := .cells #[.bool a0_0, .slice A0_1 l0_1.length c0_1, .int .i64 a0_2] 48 (0, 0)) (by (with_reducible repeat first | refine Ze ?_ _ | refine Zg ?_ | refine Zf ?_ _); exact BK101.out) hb); have n1_ := Zb.mk (Zl (by repeat (with_reducible first | exact HB.out | apply Zc | apply Za | apply Zd | refine Zh ?_ GE101.out)) hb); have n2_ := Zb.mk (hbox); have n3_ := Zb.mk ((by rw [hg]; exact (Zi (by repeat (with_reducible first | exact HB.out | apply Zc | apply Za | apply Zd | refine Zh ?_ GE101.out))) : w.heap.size ≤ gb102)); have n4_ := Zb.mk ((by rw [hg]; exact (Zi (by repeat (with_reducible first | exact HB.out | apply Zc | apply Za | apply Zd | refine Zh ?_ GE101.out))) : w.heap.size ≤ gb102)); have n5_ := Zb.mk ((by rw [hg]; exact Nat.ne_of_lt (Zw (g := gb101) (o := .cells #[.bool a0_0, .slice A0_1 l0_1.length c0_1, .int .i64 a0_2] 48 (0, 0)) (by (with_reducible repeat first | refine Ze ?_ _ | refine Zg ?_ | refine Zf ?_ _); exact BK101.out)) : gb101 ≠ gb102)); have n6_ := Zb.mk ((by rw [hg]; exact Nat.ne_of_gt (Zw (g := gb101) (o := .cells #[.bool a0_0, .slice A0_1 l0_1.length c0_1, .int .i64 a0_2] 48 (0, 0)) (by (with_reducible repeat first | refine Ze ?_ _ | refine Zg ?_ | refine Zf ?_ _); exact BK101.out)) : gb102 ≠ gb101)); clear BK101; clear HB; have BK101 := n0_; have HB := n1_; have BK102 := n2_; have GW102 := n3_; have GE102 := n4_; have NB101_102 := n5_; have NB102_101 := n6_; clear n0_ n1_ n2_ n3_ n4_ n5_ n6_; clear hb hbox hg))
     have n0_ := Zb.mk (Zg BK101.out)
     have n1_ := Zb.mk (Zg BK102.out)
     have n2_ := Zb.mk (Zd HB.out)
     clear BK101
     clear BK102
     clear HB
     have BK101 := n0_
     have BK102 := n1_
     have HB := n2_
     clear n0_ n1_ n2_
     refine start_ (n := 6) (S := fun w' => w'.cell? ⟨gb101, 0, none⟩ = some (.bool a0_0) ∧ w'.cell? ⟨gb101, 1, none⟩ = some (.slice A0_1 l0_1.length c0_1) ∧ w'.cell? ⟨gb101, 2, none⟩ = some (.int .i64 a0_2) ∧ w'.cell? ⟨gb102, 0, none⟩ = some (.bool a1_0) ∧ w'.cell? ⟨gb102, 1, none⟩ = some (.slice A1_1 l1_1.length c1_1) ∧ w'.cell? ⟨gb102, 2, none⟩ = some (.int .i64 a1_2)) (ds := []) #[false, false, false, false, false, false] (by kernel_rfl) rfl rfl ⟨(Zk BK101.out 0).trans rfl, (Zk BK101.out 1).trans rfl, (Zk BK101.out 2).trans rfl, (Zk BK102.out 0).trans rfl, (Zk BK102.out 1).trans rfl, (Zk BK102.out 2).trans rfl⟩ (fun hHeld => ?_)
     generalize w12.drew = w13 at BK101 BK102 HB hHeld ⊢
     refine take_ (i := 0) (N := some 7) (v := ?_) (a' := ?_) #[true, false, false, false, false, false] rfl rfl (by kernel_rfl) (fun _ _ _ h => h) (Or.inl ⟨by rfl, ?_⟩) hHeld ?_ ?_
     rotate_left
     ·rintro w' ⟨s0, s1, s2, s3, s4, s5⟩
      go_simp
      with_reducible rfl
     rotate_left
     ·simp only [Act.put, List.setIfInBounds_toArray, List.set_cons_zero, List.set_cons_succ, Zx, ZA]
      rfl
     refine take_ (i := 2) (N := some 9) (v := ?_) (a' := ?_) #[true, false, true, false, false, false] rfl rfl (by kernel_rfl) (fun _ _ _ h => h) (Or.inl ⟨by rfl, ?_⟩) hHeld ?_ ?_
     rotate_left
     ·rintro w' ⟨s0, s1, s2, s3, s4, s5⟩
      go_simp
      with_reducible rfl
     rotate_left
     ·simp only [Act.put, List.setIfInBounds_toArray, List.set_cons_zero, List.set_cons_succ, Zx, ZA]
      rfl
     refine one_ (i := 1) (N := some 8) #[true, true, true, false, false, false] rfl rfl (by kernel_rfl) (by decide) (fun K hK => ?_)
     refine goes_ Try.func60 (by kernel_rfl) rfl #[.agg #[.bool a0_0, .slice A0_1 l0_1.length c0_1, .int .i64 a0_2]] (by rfl) rfl rfl (by (try simp only [List.map_toArray, List.map_cons, List.map_nil]); first | done | rfl | (simp only [List.length_drop, List.length_take]; rfl)) ?_
     with_reducible refine (r00Num_Sign.calls k a0_0 _ _ l0_1 a0_2 t103 _ ?side1 ?side2 A3.out).mono ?_
     (case side1 => repeat (first | exact (Kd.C_below HR0_1.out HB.out) | (with_reducible refine Kd.ZC ?_ _) | (with_reducible refine Kd.ZF ?_ _) | (with_reducible refine Kd.ZN ?_)))
     (case side2 => exact HC0_1.out)
     rintro e w14 ⟨rfl, hb⟩
     refine ⟨_, rfl, ?_⟩
     have n0_ := Zb.mk (Zn (g := gb101) (o := .cells #[.bool a0_0, .slice A0_1 l0_1.length c0_1, .int .i64 a0_2] 48 (0, 0)) (by (with_reducible repeat first | refine Ze ?_ _ | refine Zg ?_ | refine Zf ?_ _); exact BK101.out) hb)
     have n1_ := Zb.mk (Zn (g := gb102) (o := .cells #[.bool a1_0, .slice A1_1 l1_1.length c1_1, .int .i64 a1_2] 48 (0, 0)) (by (with_reducible repeat first | refine Ze ?_ _ | refine Zg ?_ | refine Zf ?_ _); exact BK102.out) hb)
     have n2_ := Zb.mk (Zl (by repeat (with_reducible first | exact HB.out | apply Zc | apply Za | apply Zd | refine Zh ?_ GE101.out | refine Zh ?_ GE102.out)) hb)
     clear BK101
     clear BK102
     clear HB
     have BK101 := n0_
     have BK102 := n1_
     have HB := n2_
     clear n0_ n1_ n2_
     (try clear hb)
     (try clear hb2)
     (try clear hk)
     (try clear hi)
     refine hK.out _ _ ⟨(Zk BK101.out 0).trans rfl, (Zk BK101.out 1).trans rfl, (Zk BK101.out 2).trans rfl, (Zk BK102.out 0).trans rfl, (Zk BK102.out 1).trans rfl, (Zk BK102.out 2).trans rfl⟩ (fun hHeld => ?_)
     clear hK K
     refine norm_ (a' := ?_) ?_ ?_
     rotate_left
     ·show Act.put _ (some 8) _ = _
      simp only [Act.put, List.setIfInBounds_toArray, List.set_cons_zero, List.set_cons_succ, Zx, ZA]
      rfl
     refine one_ (i := 3) (N := some 10) #[true, true, true, true, false, false] rfl rfl (by kernel_rfl) (by decide) (fun K hK => ?_)
     refine goes_ Try.func60 (by kernel_rfl) rfl #[.agg #[.bool a1_0, .slice A1_1 l1_1.length c1_1, .int .i64 a1_2]] (by rfl) rfl rfl (by (try simp only [List.map_toArray, List.map_cons, List.map_nil]); first | done | rfl | (simp only [List.length_drop, List.length_take]; rfl)) ?_
     with_reducible refine (r00Num_Sign.calls k a1_0 _ _ l1_1 a1_2 t104 _ ?side1 ?side2 A4.out).mono ?_
     (case side1 => repeat (first | exact (Kd.C_below HR1_1.out HB.out) | (with_reducible refine Kd.ZC ?_ _) | (with_reducible refine Kd.ZF ?_ _) | (with_reducible refine Kd.ZN ?_)))
     (case side2 => exact HC1_1.out)
     rintro e w15 ⟨rfl, hb⟩
     refine ⟨_, rfl, ?_⟩
     have n0_ := Zb.mk (Zn (g := gb101) (o := .cells #[.bool a0_0, .slice A0_1 l0_1.length c0_1, .int .i64 a0_2] 48 (0, 0)) (by (with_reducible repeat first | refine Ze ?_ _ | refine Zg ?_ | refine Zf ?_ _); exact BK101.out) hb)
     have n1_ := Zb.mk (Zn (g := gb102) (o := .cells #[.bool a1_0, .slice A1_1 l1_1.length c1_1, .int .i64 a1_2] 48 (0, 0)) (by (with_reducible repeat first | refine Ze ?_ _ | refine Zg ?_ | refine Zf ?_ _); exact BK102.out) hb)
     have n2_ := Zb.mk (Zl (by repeat (with_reducible first | exact HB.out | apply Zc | apply Za | apply Zd | refine Zh ?_ GE101.out | refine Zh ?_ GE102.out)) hb)
     clear BK101
     clear BK102
     clear HB
     have BK101 := n0_
     have BK102 := n1_
     have HB := n2_
     clear n0_ n1_ n2_
     (try clear hb)
     (try clear hb2)
     (try clear hk)
     (try clear hi)
     refine hK.out _ _ ⟨(Zk BK101.out 0).trans rfl, (Zk BK101.out 1).trans rfl, (Zk BK101.out 2).trans rfl, (Zk BK102.out 0).trans rfl, (Zk BK102.out 1).trans rfl, (Zk BK102.out 2).trans rfl⟩ (fun hHeld => ?_)
     clear hK K
     refine norm_ (a' := ?_) ?_ ?_
     rotate_left
     ·show Act.put _ (some 10) _ = _
      simp only [Act.put, List.setIfInBounds_toArray, List.set_cons_zero, List.set_cons_succ, Zx, ZA]
      rfl
     refine ZM (i := 4) (N := some 5) (v := ?_) (a' := ?_) #[true, true, true, true, true, false] rfl rfl (by kernel_rfl) (fun _ _ _ h => h) (Or.inl ⟨by rfl, ?_⟩) ?_ ?_
     rotate_left
     ·intro w'
      go_simp
      with_reducible rfl
     rotate_left
     ·simp only [Act.put, List.setIfInBounds_toArray, List.set_cons_zero, List.set_cons_succ, Zx, ZA]
      rfl
     refine ZM (i := 5) (N := some 6) (v := ?_) (a' := ?_) #[true, true, true, true, true, true] rfl rfl (by kernel_rfl) (fun _ _ _ h => h) (Or.inl ⟨by rfl, ?_⟩) ?_ ?_
     rotate_left
     ·intro w'
      go_simp
      with_reducible rfl
     rotate_left
     ·simp only [Act.put, List.setIfInBounds_toArray, List.set_cons_zero, List.set_cons_succ, Zx, ZA]
      rfl
     refine done_ (by kernel_rfl) ?_
     try go_wp2
     have n0_ := Zb.mk (Zg BK101.out)
     have n1_ := Zb.mk (Zg BK102.out)
     have n2_ := Zb.mk (Zd HB.out)
     clear BK101
     clear BK102
     clear HB
     have BK101 := n0_
     have BK102 := n1_
     have HB := n2_
     clear n0_ n1_ n2_
     refine start_ (n := 6) (S := fun w' => w'.cell? ⟨gb101, 0, none⟩ = some (.bool a0_0) ∧ w'.cell? ⟨gb101, 1, none⟩ = some (.slice A0_1 l0_1.length c0_1) ∧ w'.cell? ⟨gb101, 2, none⟩ = some (.int .i64 a0_2) ∧ w'.cell? ⟨gb102, 0, none⟩ = some (.bool a1_0) ∧ w'.cell? ⟨gb102, 1, none⟩ = some (.slice A1_1 l1_1.length c1_1) ∧ w'.cell? ⟨gb102, 2, none⟩ = some (.int .i64 a1_2)) (ds := []) #[false, false, false, false, false, false] (by kernel_rfl) rfl rfl ⟨(Zk BK101.out 0).trans rfl, (Zk BK101.out 1).trans rfl, (Zk BK101.out 2).trans rfl, (Zk BK102.out 0).trans rfl, (Zk BK102.out 1).trans rfl, (Zk BK102.out 2).trans rfl⟩ (fun hHeld => ?_)
     generalize w15.drew = w16 at BK101 BK102 HB hHeld ⊢
     refine take_ (i := 0) (N := some 23) (v := ?_) (a' := ?_) #[true, false, false, false, false, false] rfl rfl (by kernel_rfl) (fun _ _ _ h => h) (Or.inl ⟨by rfl, ?_⟩) hHeld ?_ ?_
     rotate_left
     ·rintro w' ⟨s0, s1, s2, s3, s4, s5⟩
      go_simp
      with_reducible rfl
     rotate_left
     ·simp only [Act.put, List.setIfInBounds_toArray, List.set_cons_zero, List.set_cons_succ, Zx, ZA]
      rfl
     refine take_ (i := 2) (N := some 25) (v := ?_) (a' := ?_) #[true, false, true, false, false, false] rfl rfl (by kernel_rfl) (fun _ _ _ h => h) (Or.inl ⟨by rfl, ?_⟩) hHeld ?_ ?_
     rotate_left
     ·rintro w' ⟨s0, s1, s2, s3, s4, s5⟩
      go_simp
      with_reducible rfl
     rotate_left
     ·simp only [Act.put, List.setIfInBounds_toArray, List.set_cons_zero, List.set_cons_succ, Zx, ZA]
      rfl
     refine one_ (i := 1) (N := some 24) #[true, true, true, false, false, false] rfl rfl (by kernel_rfl) (by decide) (fun K hK => ?_)
     refine goes_ Try.func61 (by kernel_rfl) rfl #[.agg #[.bool a0_0, .slice A0_1 l0_1.length c0_1, .int .i64 a0_2]] (by rfl) rfl rfl (by (try simp only [List.map_toArray, List.map_cons, List.map_nil]); first | done | rfl | (simp only [List.length_drop, List.length_take]; rfl)) ?_
     with_reducible refine (r00Num_Top.calls k a0_0 _ _ l0_1 a0_2 t105 _ ?side1 ?side2 A8.out).mono ?_
     (case side1 => repeat (first | exact (Kd.C_below HR0_1.out HB.out) | (with_reducible refine Kd.ZC ?_ _) | (with_reducible refine Kd.ZF ?_ _) | (with_reducible refine Kd.ZN ?_)))
     (case side2 => exact HC0_1.out)
     rintro e w17 ⟨rfl, hb⟩
     refine ⟨_, rfl, ?_⟩
     have n0_ := Zb.mk (Zn (g := gb101) (o := .cells #[.bool a0_0, .slice A0_1 l0_1.length c0_1, .int .i64 a0_2] 48 (0, 0)) (by (with_reducible repeat first | refine Ze ?_ _ | refine Zg ?_ | refine Zf ?_ _); exact BK101.out) hb)
     have n1_ := Zb.mk (Zn (g := gb102) (o := .cells #[.bool a1_0, .slice A1_1 l1_1.length c1_1, .int .i64 a1_2] 48 (0, 0)) (by (with_reducible repeat first | refine Ze ?_ _ | refine Zg ?_ | refine Zf ?_ _); exact BK102.out) hb)
     have n2_ := Zb.mk (Zl (by repeat (with_reducible first | exact HB.out | apply Zc | apply Za | apply Zd | refine Zh ?_ GE101.out | refine Zh ?_ GE102.out)) hb)
     clear BK101
     clear BK102
     clear HB
     have BK101 := n0_
     have BK102 := n1_
     have HB := n2_
     clear n0_ n1_ n2_
     (try clear hb)
     (try clear hb2)
     (try clear hk)
     (try clear hi)
     refine hK.out _ _ ⟨(Zk BK101.out 0).trans rfl, (Zk BK101.out 1).trans rfl, (Zk BK101.out 2).trans rfl, (Zk BK102.out 0).trans rfl, (Zk BK102.out 1).trans rfl, (Zk BK102.out 2).trans rfl⟩ (fun hHeld => ?_)
     clear hK K
     refine norm_ (a' := ?_) ?_ ?_
     rotate_left
     ·show Act.put _ (some 24) _ = _
      simp only [Act.put, List.setIfInBounds_toArray, List.set_cons_zero, List.set_cons_succ, Zx, ZA]
      rfl
     refine one_ (i := 3) (N := some 26) #[true, true, true, true, false, false] rfl rfl (by kernel_rfl) (by decide) (fun K hK => ?_)
     refine goes_ Try.func61 (by kernel_rfl) rfl #[.agg #[.bool a1_0, .slice A1_1 l1_1.length c1_1, .int .i64 a1_2]] (by rfl) rfl rfl (by (try simp only [List.map_toArray, List.map_cons, List.map_nil]); first | done | rfl | (simp only [List.length_drop, List.length_take]; rfl)) ?_
     with_reducible refine (r00Num_Top.calls k a1_0 _ _ l1_1 a1_2 t106 _ ?side1 ?side2 A9.out).mono ?_
     (case side1 => repeat (first | exact (Kd.C_below HR1_1.out HB.out) | (with_reducible refine Kd.ZC ?_ _) | (with_reducible refine Kd.ZF ?_ _) | (with_reducible refine Kd.ZN ?_)))
     (case side2 => exact HC1_1.out)
     rintro e w18 ⟨rfl, hb⟩
     refine ⟨_, rfl, ?_⟩
     have n0_ := Zb.mk (Zn (g := gb101) (o := .cells #[.bool a0_0, .slice A0_1 l0_1.length c0_1, .int .i64 a0_2] 48 (0, 0)) (by (with_reducible repeat first | refine Ze ?_ _ | refine Zg ?_ | refine Zf ?_ _); exact BK101.out) hb)
     have n1_ := Zb.mk (Zn (g := gb102) (o := .cells #[.bool a1_0, .slice A1_1 l1_1.length c1_1, .int .i64 a1_2] 48 (0, 0)) (by (with_reducible repeat first | refine Ze ?_ _ | refine Zg ?_ | refine Zf ?_ _); exact BK102.out) hb)
     have n2_ := Zb.mk (Zl (by repeat (with_reducible first | exact HB.out | apply Zc | apply Za | apply Zd | refine Zh ?_ GE101.out | refine Zh ?_ GE102.out)) hb)
     clear BK101
     clear BK102
     clear HB
     have BK101 := n0_
     have BK102 := n1_
     have HB := n2_
     clear n0_ n1_ n2_
     (try clear hb)
     (try clear hb2)
     (try clear hk)
     (try clear hi)
     refine hK.out _ _ ⟨(Zk BK101.out 0).trans rfl, (Zk BK101.out 1).trans rfl, (Zk BK101.out 2).trans rfl, (Zk BK102.out 0).trans rfl, (Zk BK102.out 1).trans rfl, (Zk BK102.out 2).trans rfl⟩ (fun hHeld => ?_)
     clear hK K
     refine norm_ (a' := ?_) ?_ ?_
     rotate_left
     ·show Act.put _ (some 26) _ = _
      simp only [Act.put, List.setIfInBounds_toArray, List.set_cons_zero, List.set_cons_succ, Zx, ZA]
      rfl
     refine ZM (i := 4) (N := some 27) (v := ?_) (a' := ?_) #[true, true, true, true, true, false] rfl rfl (by kernel_rfl) (fun _ _ _ h => h) (Or.inl ⟨by rfl, ?_⟩) ?_ ?_
     rotate_left
     ·intro w'
      go_simp
      with_reducible rfl
     rotate_left
     ·simp only [Act.put, List.setIfInBounds_toArray, List.set_cons_zero, List.set_cons_succ, Zx, ZA]
      rfl
     refine ZM (i := 5) (N := some 22) (v := ?_) (a' := ?_) #[true, true, true, true, true, true] rfl rfl (by kernel_rfl) (fun _ _ _ h => h) (Or.inl ⟨by rfl, ?_⟩) ?_ ?_
     rotate_left
     ·intro w'
      go_simp
      with_reducible rfl
     rotate_left
     ·simp only [Act.put, List.setIfInBounds_toArray, List.set_cons_zero, List.set_cons_succ, Zx, ZA]
      rfl
     refine done_ (by kernel_rfl) ?_
     try go_wp2
     go_ret
     exact ⟨by first | rfl | (simp [errW_none, errW_some] <;> rfl) | (simp [*, errW_none, errW_some] <;> rfl), by repeat (with_reducible first | exact HB.out | apply Zc | apply Za | apply Zd | refine Zh ?_ GE101.out | refine Zh ?_ GE102.out)⟩
    ·rw [if_neg c10] at H
     have c10b0 : decide (t105 < t106) = false := decide_eq_false c10
     clear c10
     replace H := Option.bind_eq_some_iff.mp H
     obtain ⟨t107, A190, H⟩ := H
     replace H : ((r00Num_Top.f k a1_0 l1_1 a1_2).bind fun t108 => (if t107 > t108 then (none) else ((r00Less.f k a0_0 l0_1 a0_2 a1_0 l1_1 a1_2).bind fun bt109 => ((r00Num_Sign.f k bt109.1 bt109.2.1 bt109.2.2).bind fun t114 => (some t114))))) = some r := H
     have A19 := Zb.mk A190
     clear A190
     replace H := Option.bind_eq_some_iff.mp H
     obtain ⟨t108, A200, H⟩ := H
     replace H : (if t107 > t108 then (none) else ((r00Less.f k a0_0 l0_1 a0_2 a1_0 l1_1 a1_2).bind fun bt109 => ((r00Num_Sign.f k bt109.1 bt109.2.1 bt109.2.2).bind fun t114 => (some t114)))) = some r := H
     have A20 := Zb.mk A200
     clear A200
     by_cases c21 : t107 > t108
     ·rw [if_pos c21] at H
      exact absurd H (by simp)
     ·rw [if_neg c21] at H
      have c21b0 : decide (t108 < t107) = false := decide_eq_false c21
      clear c21
      replace H := Option.bind_eq_some_iff.mp H
      obtain ⟨⟨t109, t110, t113⟩, A220, H⟩ := H
      replace H : ((r00Num_Sign.f k t109 t110 t113).bind fun t114 => (some t114)) = some r := H
      have A22 := Zb.mk A220
      clear A220
      replace H := Option.bind_eq_some_iff.mp H
      obtain ⟨t114, A230, H⟩ := H
      replace H : (some t114) = some r := H
      have A23 := Zb.mk A230
      clear A230
      obtain rfl := Option.some.inj H
      go_enter Try.func28, Try.ntmps28
      try go_wp2_with (first | ((with_reducible refine Zt (N := 2) rfl ?_); refine Zs ?hg (N := 2) ?hd (cs := #[.bool a0_0, .slice A0_1 l0_1.length c0_1, .int .i64 a0_2]) (t := 48) ?hr ?_; (case hd => rfl); (case hg => rfl); (case hr => first | (go_simp; done) | (go_simp; rfl)); intro gb101 hg w24 hbox hb; have n0_ := Zb.mk (Zl (by repeat (with_reducible first | exact HB.out | apply Zc | apply Za | apply Zd)) hb); have n1_ := Zb.mk (hbox); have n2_ := Zb.mk ((by rw [hg]; exact (Zi (by repeat (with_reducible first | exact HB.out | apply Zc | apply Za | apply Zd))) : w.heap.size ≤ gb101)); have n3_ := Zb.mk ((by rw [hg]; exact (Zi (by repeat (with_reducible first | exact HB.out | apply Zc | apply Za | apply Zd))) : w.heap.size ≤ gb101)); clear HB; have HB := n0_; have BK101 := n1_; have GW101 := n2_; have GE101 := n3_; clear n0_ n1_ n2_ n3_; clear hb hbox hg) | ((with_reducible refine Zt (N := 3) rfl ?_); refine Zs ?hg (N := 3) ?hd (cs := #[.bool a1_0, .slice A1_1 l1_1.length c1_1, .int .i64 a1_2]) (t := 48) ?hr ?_; (case hd => rfl); (case hg => rfl); (case hr => first | (go_simp; done) | (go_simp; rfl)); intro gb102 hg w25 hbox hb; have n0_ := Zb.mk (Zn (g := gb101) (o := .cells #[.bool a0_0, .slice A0_1 l0_1.length c0_1, .int .i64 a0_2] 48 (0, 0)) (by (with_reducible repeat first | refine Ze ?_ _ | refine Zg ?_ | refine Zf ?_ _); exact BK101.out) hb); have n1_ := Zb.mk (Zl (by repeat (with_reducible first | exact HB.out | apply Zc | apply Za | apply Zd | refine Zh ?_ GE101.out)) hb); have n2_ := Zb.mk (hbox); have n3_ := Zb.mk ((by rw [hg]; exact (Zi (by repeat (with_reducible first | exact HB.out | apply Zc | apply Za | apply Zd | refine Zh ?_ GE101.out))) : w.heap.size ≤ gb102)); have n4_ := Zb.mk ((by rw [hg]; exact (Zi (by repeat (with_reducible first | exact HB.out | apply Zc | apply Za | apply Zd | refine Zh ?_ GE101.out))) : w.heap.size ≤ gb102)); have n5_ := Zb.mk ((by rw [hg]; exact Nat.ne_of_lt (Zw (g := gb101) (o := .cells #[.bool a0_0, .slice A0_1 l0_1.length c0_1, .int .i64 a0_2] 48 (0, 0)) (by (with_reducible repeat first | refine Ze ?_ _ | refine Zg ?_ | refine Zf ?_ _); exact BK101.out)) : gb101 ≠ gb102)); have n6_ := Zb.mk ((by rw [hg]; exact Nat.ne_of_gt (Zw (g := gb101) (o := .cells #[.bool a0_0, .slice A0_1 l0_1.length c0_1, .int .i64 a0_2] 48 (0, 0)) (by (with_reducible repeat first | refine Ze ?_ _ | refine Zg ?_ | refine Zf ?_ _); exact BK101.out)) : gb102 ≠ gb101)); clear BK101; clear HB; have BK101 := n0_; have HB := n1_; have BK102 := n2_; have GW102 := n3_; have GE102 := n4_; have NB101_102 := n5_; have NB102_101 := n6_; clear n0_ n1_ n2_ n3_ n4_ n5_ n6_; clear hb hbox hg))
      have n0_ := Zb.mk (Zg BK101.out)
      have n1_ := Zb.mk (Zg BK102.out)
      have n2_ := Zb.mk (Zd HB.out)
      clear BK101
      clear BK102
      clear HB
      have BK101 := n0_
      have BK102 := n1_
      have HB := n2_
      clear n0_ n1_ n2_
      refine start_ (n := 6) (S := fun w' => w'.cell? ⟨gb101, 0, none⟩ = some (.bool a0_0) ∧ w'.cell? ⟨gb101, 1, none⟩ = some (.slice A0_1 l0_1.length c0_1) ∧ w'.cell? ⟨gb101, 2, none⟩ = some (.int .i64 a0_2) ∧ w'.cell? ⟨gb102, 0, none⟩ = some (.bool a1_0) ∧ w'.cell? ⟨gb102, 1, none⟩ = some (.slice A1_1 l1_1.length c1_1) ∧ w'.cell? ⟨gb102, 2, none⟩ = some (.int .i64 a1_2)) (ds := []) #[false, false, false, false, false, false] (by kernel_rfl) rfl rfl ⟨(Zk BK101.out 0).trans rfl, (Zk BK101.out 1).trans rfl, (Zk BK101.out 2).trans rfl, (Zk BK102.out 0).trans rfl, (Zk BK102.out 1).trans rfl, (Zk BK102.out 2).trans rfl⟩ (fun hHeld => ?_)
      generalize w25.drew = w26 at BK101 BK102 HB hHeld ⊢
      refine take_ (i := 0) (N := some 7) (v := ?_) (a' := ?_) #[true, false, false, false, false, false] rfl rfl (by kernel_rfl) (fun _ _ _ h => h) (Or.inl ⟨by rfl, ?_⟩) hHeld ?_ ?_
      rotate_left
      ·rintro w' ⟨s0, s1, s2, s3, s4, s5⟩
       go_simp
       with_reducible rfl
      rotate_left
      ·simp only [Act.put, List.setIfInBounds_toArray, List.set_cons_zero, List.set_cons_succ, Zx, ZA]
       rfl
      refine take_ (i := 2) (N := some 9) (v := ?_) (a' := ?_) #[true, false, true, false, false, false] rfl rfl (by kernel_rfl) (fun _ _ _ h => h) (Or.inl ⟨by rfl, ?_⟩) hHeld ?_ ?_
      rotate_left
      ·rintro w' ⟨s0, s1, s2, s3, s4, s5⟩
       go_simp
       with_reducible rfl
      rotate_left
      ·simp only [Act.put, List.setIfInBounds_toArray, List.set_cons_zero, List.set_cons_succ, Zx, ZA]
       rfl
      refine one_ (i := 1) (N := some 8) #[true, true, true, false, false, false] rfl rfl (by kernel_rfl) (by decide) (fun K hK => ?_)
      refine goes_ Try.func60 (by kernel_rfl) rfl #[.agg #[.bool a0_0, .slice A0_1 l0_1.length c0_1, .int .i64 a0_2]] (by rfl) rfl rfl (by (try simp only [List.map_toArray, List.map_cons, List.map_nil]); first | done | rfl | (simp only [List.length_drop, List.length_take]; rfl)) ?_
      with_reducible refine (r00Num_Sign.calls k a0_0 _ _ l0_1 a0_2 t103 _ ?side1 ?side2 A3.out).mono ?_
      (case side1 => repeat (first | exact (Kd.C_below HR0_1.out HB.out) | (with_reducible refine Kd.ZC ?_ _) | (with_reducible refine Kd.ZF ?_ _) | (with_reducible refine Kd.ZN ?_)))
      (case side2 => exact HC0_1.out)
      rintro e w27 ⟨rfl, hb⟩
      refine ⟨_, rfl, ?_⟩
      have n0_ := Zb.mk (Zn (g := gb101) (o := .cells #[.bool a0_0, .slice A0_1 l0_1.length c0_1, .int .i64 a0_2] 48 (0, 0)) (by (with_reducible repeat first | refine Ze ?_ _ | refine Zg ?_ | refine Zf ?_ _); exact BK101.out) hb)
      have n1_ := Zb.mk (Zn (g := gb102) (o := .cells #[.bool a1_0, .slice A1_1 l1_1.length c1_1, .int .i64 a1_2] 48 (0, 0)) (by (with_reducible repeat first | refine Ze ?_ _ | refine Zg ?_ | refine Zf ?_ _); exact BK102.out) hb)
      have n2_ := Zb.mk (Zl (by repeat (with_reducible first | exact HB.out | apply Zc | apply Za | apply Zd | refine Zh ?_ GE101.out | refine Zh ?_ GE102.out)) hb)
      clear BK101
      clear BK102
      clear HB
      have BK101 := n0_
      have BK102 := n1_
      have HB := n2_
      clear n0_ n1_ n2_
      (try clear hb)
      (try clear hb2)
      (try clear hk)
      (try clear hi)
      refine hK.out _ _ ⟨(Zk BK101.out 0).trans rfl, (Zk BK101.out 1).trans rfl, (Zk BK101.out 2).trans rfl, (Zk BK102.out 0).trans rfl, (Zk BK102.out 1).trans rfl, (Zk BK102.out 2).trans rfl⟩ (fun hHeld => ?_)
      clear hK K
      refine norm_ (a' := ?_) ?_ ?_
      rotate_left
      ·show Act.put _ (some 8) _ = _
       simp only [Act.put, List.setIfInBounds_toArray, List.set_cons_zero, List.set_cons_succ, Zx, ZA]
       rfl
      refine one_ (i := 3) (N := some 10) #[true, true, true, true, false, false] rfl rfl (by kernel_rfl) (by decide) (fun K hK => ?_)
      refine goes_ Try.func60 (by kernel_rfl) rfl #[.agg #[.bool a1_0, .slice A1_1 l1_1.length c1_1, .int .i64 a1_2]] (by rfl) rfl rfl (by (try simp only [List.map_toArray, List.map_cons, List.map_nil]); first | done | rfl | (simp only [List.length_drop, List.length_take]; rfl)) ?_
      with_reducible refine (r00Num_Sign.calls k a1_0 _ _ l1_1 a1_2 t104 _ ?side1 ?side2 A4.out).mono ?_
      (case side1 => repeat (first | exact (Kd.C_below HR1_1.out HB.out) | (with_reducible refine Kd.ZC ?_ _) | (with_reducible refine Kd.ZF ?_ _) | (with_reducible refine Kd.ZN ?_)))
      (case side2 => exact HC1_1.out)
      rintro e w28 ⟨rfl, hb⟩
      refine ⟨_, rfl, ?_⟩
      have n0_ := Zb.mk (Zn (g := gb101) (o := .cells #[.bool a0_0, .slice A0_1 l0_1.length c0_1, .int .i64 a0_2] 48 (0, 0)) (by (with_reducible repeat first | refine Ze ?_ _ | refine Zg ?_ | refine Zf ?_ _); exact BK101.out) hb)
      have n1_ := Zb.mk (Zn (g := gb102) (o := .cells #[.bool a1_0, .slice A1_1 l1_1.length c1_1, .int .i64 a1_2] 48 (0, 0)) (by (with_reducible repeat first | refine Ze ?_ _ | refine Zg ?_ | refine Zf ?_ _); exact BK102.out) hb)
      have n2_ := Zb.mk (Zl (by repeat (with_reducible first | exact HB.out | apply Zc | apply Za | apply Zd | refine Zh ?_ GE101.out | refine Zh ?_ GE102.out)) hb)
      clear BK101
      clear BK102
      clear HB
      have BK101 := n0_
      have BK102 := n1_
      have HB := n2_
      clear n0_ n1_ n2_
      (try clear hb)
      (try clear hb2)
      (try clear hk)
      (try clear hi)
      refine hK.out _ _ ⟨(Zk BK101.out 0).trans rfl, (Zk BK101.out 1).trans rfl, (Zk BK101.out 2).trans rfl, (Zk BK102.out 0).trans rfl, (Zk BK102.out 1).trans rfl, (Zk BK102.out 2).trans rfl⟩ (fun hHeld => ?_)
      clear hK K
      refine norm_ (a' := ?_) ?_ ?_
      rotate_left
      ·show Act.put _ (some 10) _ = _
       simp only [Act.put, List.setIfInBounds_toArray, List.set_cons_zero, List.set_cons_succ, Zx, ZA]
       rfl
      refine ZM (i := 4) (N := some 5) (v := ?_) (a' := ?_) #[true, true, true, true, true, false] rfl rfl (by kernel_rfl) (fun _ _ _ h => h) (Or.inl ⟨by rfl, ?_⟩) ?_ ?_
      rotate_left
      ·intro w'
       go_simp
       with_reducible rfl
      rotate_left
      ·simp only [Act.put, List.setIfInBounds_toArray, List.set_cons_zero, List.set_cons_succ, Zx, ZA]
       rfl
      refine ZM (i := 5) (N := some 6) (v := ?_) (a' := ?_) #[true, true, true, true, true, true] rfl rfl (by kernel_rfl) (fun _ _ _ h => h) (Or.inl ⟨by rfl, ?_⟩) ?_ ?_
      rotate_left
      ·intro w'
       go_simp
       with_reducible rfl
      rotate_left
      ·simp only [Act.put, List.setIfInBounds_toArray, List.set_cons_zero, List.set_cons_succ, Zx, ZA]
       rfl
      refine done_ (by kernel_rfl) ?_
      try go_wp2
      have n0_ := Zb.mk (Zg BK101.out)
      have n1_ := Zb.mk (Zg BK102.out)
      have n2_ := Zb.mk (Zd HB.out)
      clear BK101
      clear BK102
      clear HB
      have BK101 := n0_
      have BK102 := n1_
      have HB := n2_
      clear n0_ n1_ n2_
      refine start_ (n := 6) (S := fun w' => w'.cell? ⟨gb101, 0, none⟩ = some (.bool a0_0) ∧ w'.cell? ⟨gb101, 1, none⟩ = some (.slice A0_1 l0_1.length c0_1) ∧ w'.cell? ⟨gb101, 2, none⟩ = some (.int .i64 a0_2) ∧ w'.cell? ⟨gb102, 0, none⟩ = some (.bool a1_0) ∧ w'.cell? ⟨gb102, 1, none⟩ = some (.slice A1_1 l1_1.length c1_1) ∧ w'.cell? ⟨gb102, 2, none⟩ = some (.int .i64 a1_2)) (ds := []) #[false, false, false, false, false, false] (by kernel_rfl) rfl rfl ⟨(Zk BK101.out 0).trans rfl, (Zk BK101.out 1).trans rfl, (Zk BK101.out 2).trans rfl, (Zk BK102.out 0).trans rfl, (Zk BK102.out 1).trans rfl, (Zk BK102.out 2).trans rfl⟩ (fun hHeld => ?_)
      generalize w28.drew = w29 at BK101 BK102 HB hHeld ⊢
      refine take_ (i := 0) (N := some 23) (v := ?_) (a' := ?_) #[true, false, false, false, false, false] rfl rfl (by kernel_rfl) (fun _ _ _ h => h) (Or.inl ⟨by rfl, ?_⟩) hHeld ?_ ?_
      rotate_left
      ·rintro w' ⟨s0, s1, s2, s3, s4, s5⟩
       go_simp
       with_reducible rfl
      rotate_left
      ·simp only [Act.put, List.setIfInBounds_toArray, List.set_cons_zero, List.set_cons_succ, Zx, ZA]
       rfl
      refine take_ (i := 2) (N := some 25) (v := ?_) (a' := ?_) #[true, false, true, false, false, false] rfl rfl (by kernel_rfl) (fun _ _ _ h => h) (Or.inl ⟨by rfl, ?_⟩) hHeld ?_ ?_
      rotate_left
      ·rintro w' ⟨s0, s1, s2, s3, s4, s5⟩
       go_simp
       with_reducible rfl
      rotate_left
      ·simp only [Act.put, List.setIfInBounds_toArray, List.set_cons_zero, List.set_cons_succ, Zx, ZA]
       rfl
      refine one_ (i := 1) (N := some 24) #[true, true, true, false, false, false] rfl rfl (by kernel_rfl) (by decide) (fun K hK => ?_)
      refine goes_ Try.func61 (by kernel_rfl) rfl #[.agg #[.bool a0_0, .slice A0_1 l0_1.length c0_1, .int .i64 a0_2]] (by rfl) rfl rfl (by (try simp only [List.map_toArray, List.map_cons, List.map_nil]); first | done | rfl | (simp only [List.length_drop, List.length_take]; rfl)) ?_
      with_reducible refine (r00Num_Top.calls k a0_0 _ _ l0_1 a0_2 t105 _ ?side1 ?side2 A8.out).mono ?_
      (case side1 => repeat (first | exact (Kd.C_below HR0_1.out HB.out) | (with_reducible refine Kd.ZC ?_ _) | (with_reducible refine Kd.ZF ?_ _) | (with_reducible refine Kd.ZN ?_)))
      (case side2 => exact HC0_1.out)
      rintro e w30 ⟨rfl, hb⟩
      refine ⟨_, rfl, ?_⟩
      have n0_ := Zb.mk (Zn (g := gb101) (o := .cells #[.bool a0_0, .slice A0_1 l0_1.length c0_1, .int .i64 a0_2] 48 (0, 0)) (by (with_reducible repeat first | refine Ze ?_ _ | refine Zg ?_ | refine Zf ?_ _); exact BK101.out) hb)
      have n1_ := Zb.mk (Zn (g := gb102) (o := .cells #[.bool a1_0, .slice A1_1 l1_1.length c1_1, .int .i64 a1_2] 48 (0, 0)) (by (with_reducible repeat first | refine Ze ?_ _ | refine Zg ?_ | refine Zf ?_ _); exact BK102.out) hb)
      have n2_ := Zb.mk (Zl (by repeat (with_reducible first | exact HB.out | apply Zc | apply Za | apply Zd | refine Zh ?_ GE101.out | refine Zh ?_ GE102.out)) hb)
      clear BK101
      clear BK102
      clear HB
      have BK101 := n0_
      have BK102 := n1_
      have HB := n2_
      clear n0_ n1_ n2_
      (try clear hb)
      (try clear hb2)
      (try clear hk)
      (try clear hi)
      refine hK.out _ _ ⟨(Zk BK101.out 0).trans rfl, (Zk BK101.out 1).trans rfl, (Zk BK101.out 2).trans rfl, (Zk BK102.out 0).trans rfl, (Zk BK102.out 1).trans rfl, (Zk BK102.out 2).trans rfl⟩ (fun hHeld => ?_)
      clear hK K
      refine norm_ (a' := ?_) ?_ ?_
      rotate_left
      ·show Act.put _ (some 24) _ = _
       simp only [Act.put, List.setIfInBounds_toArray, List.set_cons_zero, List.set_cons_succ, Zx, ZA]
       rfl
      refine one_ (i := 3) (N := some 26) #[true, true, true, true, false, false] rfl rfl (by kernel_rfl) (by decide) (fun K hK => ?_)
      refine goes_ Try.func61 (by kernel_rfl) rfl #[.agg #[.bool a1_0, .slice A1_1 l1_1.length c1_1, .int .i64 a1_2]] (by rfl) rfl rfl (by (try simp only [List.map_toArray, List.map_cons, List.map_nil]); first | done | rfl | (simp only [List.length_drop, List.length_take]; rfl)) ?_
      with_reducible refine (r00Num_Top.calls k a1_0 _ _ l1_1 a1_2 t106 _ ?side1 ?side2 A9.out).mono ?_
      (case side1 => repeat (first | exact (Kd.C_below HR1_1.out HB.out) | (with_reducible refine Kd.ZC ?_ _) | (with_reducible refine Kd.ZF ?_ _) | (with_reducible refine Kd.ZN ?_)))
      (case side2 => exact HC1_1.out)
      rintro e w31 ⟨rfl, hb⟩
      refine ⟨_, rfl, ?_⟩
      have n0_ := Zb.mk (Zn (g := gb101) (o := .cells #[.bool a0_0, .slice A0_1 l0_1.length c0_1, .int .i64 a0_2] 48 (0, 0)) (by (with_reducible repeat first | refine Ze ?_ _ | refine Zg ?_ | refine Zf ?_ _); exact BK101.out) hb)
      have n1_ := Zb.mk (Zn (g := gb102) (o := .cells #[.bool a1_0, .slice A1_1 l1_1.length c1_1, .int .i64 a1_2] 48 (0, 0)) (by (with_reducible repeat first | refine Ze ?_ _ | refine Zg ?_ | refine Zf ?_ _); exact BK102.out) hb)
      have n2_ := Zb.mk (Zl (by repeat (with_reducible first | exact HB.out | apply Zc | apply Za | apply Zd | refine Zh ?_ GE101.out | refine Zh ?_ GE102.out)) hb)
      clear BK101
      clear BK102
      clear HB
      have BK101 := n0_
      have BK102 := n1_
      have HB := n2_
      clear n0_ n1_ n2_
      (try clear hb)
      (try clear hb2)
      (try clear hk)
      (try clear hi)
      refine hK.out _ _ ⟨(Zk BK101.out 0).trans rfl, (Zk BK101.out 1).trans rfl, (Zk BK101.out 2).trans rfl, (Zk BK102.out 0).trans rfl, (Zk BK102.out 1).trans rfl, (Zk BK102.out 2).trans rfl⟩ (fun hHeld => ?_)
      clear hK K
      refine norm_ (a' := ?_) ?_ ?_
      rotate_left
      ·show Act.put _ (some 26) _ = _
       simp only [Act.put, List.setIfInBounds_toArray, List.set_cons_zero, List.set_cons_succ, Zx, ZA]
       rfl
      refine ZM (i := 4) (N := some 27) (v := ?_) (a' := ?_) #[true, true, true, true, true, false] rfl rfl (by kernel_rfl) (fun _ _ _ h => h) (Or.inl ⟨by rfl, ?_⟩) ?_ ?_
      rotate_left
      ·intro w'
       go_simp
       with_reducible rfl
      rotate_left
      ·simp only [Act.put, List.setIfInBounds_toArray, List.set_cons_zero, List.set_cons_succ, Zx, ZA]
       rfl
      refine ZM (i := 5) (N := some 22) (v := ?_) (a' := ?_) #[true, true, true, true, true, true] rfl rfl (by kernel_rfl) (fun _ _ _ h => h) (Or.inl ⟨by rfl, ?_⟩) ?_ ?_
      rotate_left
      ·intro w'
       go_simp
       with_reducible rfl
      rotate_left
      ·simp only [Act.put, List.setIfInBounds_toArray, List.set_cons_zero, List.set_cons_succ, Zx, ZA]
       rfl
      refine done_ (by kernel_rfl) ?_
      try go_wp2
      have n0_ := Zb.mk (Zg BK101.out)
      have n1_ := Zb.mk (Zg BK102.out)
      have n2_ := Zb.mk (Zd HB.out)
      clear BK101
      clear BK102
      clear HB
      have BK101 := n0_
      have BK102 := n1_
      have HB := n2_
      clear n0_ n1_ n2_
      refine start_ (n := 6) (S := fun w' => w'.cell? ⟨gb101, 0, none⟩ = some (.bool a0_0) ∧ w'.cell? ⟨gb101, 1, none⟩ = some (.slice A0_1 l0_1.length c0_1) ∧ w'.cell? ⟨gb101, 2, none⟩ = some (.int .i64 a0_2) ∧ w'.cell? ⟨gb102, 0, none⟩ = some (.bool a1_0) ∧ w'.cell? ⟨gb102, 1, none⟩ = some (.slice A1_1 l1_1.length c1_1) ∧ w'.cell? ⟨gb102, 2, none⟩ = some (.int .i64 a1_2)) (ds := []) #[false, false, false, false, false, false] (by kernel_rfl) rfl rfl ⟨(Zk BK101.out 0).trans rfl, (Zk BK101.out 1).trans rfl, (Zk BK101.out 2).trans rfl, (Zk BK102.out 0).trans rfl, (Zk BK102.out 1).trans rfl, (Zk BK102.out 2).trans rfl⟩ (fun hHeld => ?_)
      generalize w31.drew = w32 at BK101 BK102 HB hHeld ⊢
      refine take_ (i := 0) (N := some 31) (v := ?_) (a' := ?_) #[true, false, false, false, false, false] rfl rfl (by kernel_rfl) (fun _ _ _ h => h) (Or.inl ⟨by rfl, ?_⟩) hHeld ?_ ?_
      rotate_left
      ·rintro w' ⟨s0, s1, s2, s3, s4, s5⟩
       go_simp
       with_reducible rfl
      rotate_left
      ·simp only [Act.put, List.setIfInBounds_toArray, List.set_cons_zero, List.set_cons_succ, Zx, ZA]
       rfl
      refine take_ (i := 2) (N := some 33) (v := ?_) (a' := ?_) #[true, false, true, false, false, false] rfl rfl (by kernel_rfl) (fun _ _ _ h => h) (Or.inl ⟨by rfl, ?_⟩) hHeld ?_ ?_
      rotate_left
      ·rintro w' ⟨s0, s1, s2, s3, s4, s5⟩
       go_simp
       with_reducible rfl
      rotate_left
      ·simp only [Act.put, List.setIfInBounds_toArray, List.set_cons_zero, List.set_cons_succ, Zx, ZA]
       rfl
      refine one_ (i := 1) (N := some 32) #[true, true, true, false, false, false] rfl rfl (by kernel_rfl) (by decide) (fun K hK => ?_)
      refine goes_ Try.func61 (by kernel_rfl) rfl #[.agg #[.bool a0_0, .slice A0_1 l0_1.length c0_1, .int .i64 a0_2]] (by rfl) rfl rfl (by (try simp only [List.map_toArray, List.map_cons, List.map_nil]); first | done | rfl | (simp only [List.length_drop, List.length_take]; rfl)) ?_
      with_reducible refine (r00Num_Top.calls k a0_0 _ _ l0_1 a0_2 t107 _ ?side1 ?side2 A19.out).mono ?_
      (case side1 => repeat (first | exact (Kd.C_below HR0_1.out HB.out) | (with_reducible refine Kd.ZC ?_ _) | (with_reducible refine Kd.ZF ?_ _) | (with_reducible refine Kd.ZN ?_)))
      (case side2 => exact HC0_1.out)
      rintro e w33 ⟨rfl, hb⟩
      refine ⟨_, rfl, ?_⟩
      have n0_ := Zb.mk (Zn (g := gb101) (o := .cells #[.bool a0_0, .slice A0_1 l0_1.length c0_1, .int .i64 a0_2] 48 (0, 0)) (by (with_reducible repeat first | refine Ze ?_ _ | refine Zg ?_ | refine Zf ?_ _); exact BK101.out) hb)
      have n1_ := Zb.mk (Zn (g := gb102) (o := .cells #[.bool a1_0, .slice A1_1 l1_1.length c1_1, .int .i64 a1_2] 48 (0, 0)) (by (with_reducible repeat first | refine Ze ?_ _ | refine Zg ?_ | refine Zf ?_ _); exact BK102.out) hb)
      have n2_ := Zb.mk (Zl (by repeat (with_reducible first | exact HB.out | apply Zc | apply Za | apply Zd | refine Zh ?_ GE101.out | refine Zh ?_ GE102.out)) hb)
      clear BK101
      clear BK102
      clear HB
      have BK101 := n0_
      have BK102 := n1_
      have HB := n2_
      clear n0_ n1_ n2_
      (try clear hb)
      (try clear hb2)
      (try clear hk)
      (try clear hi)
      refine hK.out _ _ ⟨(Zk BK101.out 0).trans rfl, (Zk BK101.out 1).trans rfl, (Zk BK101.out 2).trans rfl, (Zk BK102.out 0).trans rfl, (Zk BK102.out 1).trans rfl, (Zk BK102.out 2).trans rfl⟩ (fun hHeld => ?_)
      clear hK K
      refine norm_ (a' := ?_) ?_ ?_
      rotate_left
      ·show Act.put _ (some 32) _ = _
       simp only [Act.put, List.setIfInBounds_toArray, List.set_cons_zero, List.set_cons_succ, Zx, ZA]
       rfl
      refine one_ (i := 3) (N := some 34) #[true, true, true, true, false, false] rfl rfl (by kernel_rfl) (by decide) (fun K hK => ?_)
      refine goes_ Try.func61 (by kernel_rfl) rfl #[.agg #[.bool a1_0, .slice A1_1 l1_1.length c1_1, .int .i64 a1_2]] (by rfl) rfl rfl (by (try simp only [List.map_toArray, List.map_cons, List.map_nil]); first | done | rfl | (simp only [List.length_drop, List.length_take]; rfl)) ?_
      with_reducible refine (r00Num_Top.calls k a1_0 _ _ l1_1 a1_2 t108 _ ?side1 ?side2 A20.out).mono ?_
      (case side1 => repeat (first | exact (Kd.C_below HR1_1.out HB.out) | (with_reducible refine Kd.ZC ?_ _) | (with_reducible refine Kd.ZF ?_ _) | (with_reducible refine Kd.ZN ?_)))
      (case side2 => exact HC1_1.out)
      rintro e w34 ⟨rfl, hb⟩
      refine ⟨_, rfl, ?_⟩
      have n0_ := Zb.mk (Zn (g := gb101) (o := .cells #[.bool a0_0, .slice A0_1 l0_1.length c0_1, .int .i64 a0_2] 48 (0, 0)) (by (with_reducible repeat first | refine Ze ?_ _ | refine Zg ?_ | refine Zf ?_ _); exact BK101.out) hb)
      have n1_ := Zb.mk (Zn (g := gb102) (o := .cells #[.bool a1_0, .slice A1_1 l1_1.length c1_1, .int .i64 a1_2] 48 (0, 0)) (by (with_reducible repeat first | refine Ze ?_ _ | refine Zg ?_ | refine Zf ?_ _); exact BK102.out) hb)
      have n2_ := Zb.mk (Zl (by repeat (with_reducible first | exact HB.out | apply Zc | apply Za | apply Zd | refine Zh ?_ GE101.out | refine Zh ?_ GE102.out)) hb)
      clear BK101
      clear BK102
      clear HB
      have BK101 := n0_
      have BK102 := n1_
      have HB := n2_
      clear n0_ n1_ n2_
      (try clear hb)
      (try clear hb2)
      (try clear hk)
      (try clear hi)
      refine hK.out _ _ ⟨(Zk BK101.out 0).trans rfl, (Zk BK101.out 1).trans rfl, (Zk BK101.out 2).trans rfl, (Zk BK102.out 0).trans rfl, (Zk BK102.out 1).trans rfl, (Zk BK102.out 2).trans rfl⟩ (fun hHeld => ?_)
      clear hK K
      refine norm_ (a' := ?_) ?_ ?_
      rotate_left
      ·show Act.put _ (some 34) _ = _
       simp only [Act.put, List.setIfInBounds_toArray, List.set_cons_zero, List.set_cons_succ, Zx, ZA]
       rfl
      refine ZM (i := 4) (N := some 35) (v := ?_) (a' := ?_) #[true, true, true, true, true, false] rfl rfl (by kernel_rfl) (fun _ _ _ h => h) (Or.inl ⟨by rfl, ?_⟩) ?_ ?_
      rotate_left
      ·intro w'
       go_simp
       with_reducible rfl
      rotate_left
      ·simp only [Act.put, List.setIfInBounds_toArray, List.set_cons_zero, List.set_cons_succ, Zx, ZA]
       rfl
      refine ZM (i := 5) (N := some 30) (v := ?_) (a' := ?_) #[true, true, true, true, true, true] rfl rfl (by kernel_rfl) (fun _ _ _ h => h) (Or.inl ⟨by rfl, ?_⟩) ?_ ?_
      rotate_left
      ·intro w'
       go_simp
       with_reducible rfl
      rotate_left
      ·simp only [Act.put, List.setIfInBounds_toArray, List.set_cons_zero, List.set_cons_succ, Zx, ZA]
       rfl
      refine done_ (by kernel_rfl) ?_
      have hnb35 := NB101_102.out
      have hnc35 := NB102_101.out
      have hcz36_0 : w34.cell? ⟨gb101, 0, none⟩ = some (.bool a0_0) := (Zk BK101.out 0).trans rfl
      have hcz36_1 : w34.cell? ⟨gb101, 1, none⟩ = some (.slice A0_1 l0_1.length c0_1) := (Zk BK101.out 1).trans rfl
      have hcz36_2 : w34.cell? ⟨gb101, 2, none⟩ = some (.int .i64 a0_2) := (Zk BK101.out 2).trans rfl
      have hfz36_0 := Zj BK101.out 0
      have hfz36_1 := Zj BK101.out 1
      have hfz36_2 := Zj BK101.out 2
      have hcz37_0 : w34.cell? ⟨gb102, 0, none⟩ = some (.bool a1_0) := (Zk BK102.out 0).trans rfl
      have hcz37_1 : w34.cell? ⟨gb102, 1, none⟩ = some (.slice A1_1 l1_1.length c1_1) := (Zk BK102.out 1).trans rfl
      have hcz37_2 : w34.cell? ⟨gb102, 2, none⟩ = some (.int .i64 a1_2) := (Zk BK102.out 2).trans rfl
      have hfz37_0 := Zj BK102.out 0
      have hfz37_1 := Zj BK102.out 1
      have hfz37_2 := Zj BK102.out 2
      try go_wp2_with (first | ((with_reducible refine Zp (f := 62) rfl ?_); refine ZB (some 39) rfl rfl Try.func62 (by kernel_rfl) rfl #[.agg #[.bool a0_0, .slice A0_1 l0_1.length c0_1, .int .i64 a0_2], .agg #[.bool a1_0, .slice A1_1 l1_1.length c1_1, .int .i64 a1_2]] rfl (by (try simp only [List.map_toArray, List.map_cons, List.map_nil]); first | done | rfl | (simp only [List.length_drop, List.length_take]; rfl)) ?_; (with_reducible refine (r00Less.calls k a0_0 _ _ l0_1 a0_2 a1_0 _ _ l1_1 a1_2 t109 t110 t113 _ ?side1 ?side2 ?side3 ?side4 A22.out).mono ?_); (case side1 => repeat (first | exact (Kd.C_below HR0_1.out HB.out) | (with_reducible refine Kd.ZC ?_ _) | (with_reducible refine Kd.ZF ?_ _) | (with_reducible refine Kd.ZN ?_))); (case side2 => exact HC0_1.out); (case side3 => repeat (first | exact (Kd.C_below HR1_1.out HB.out) | (with_reducible refine Kd.ZC ?_ _) | (with_reducible refine Kd.ZF ?_ _) | (with_reducible refine Kd.ZN ?_))); (case side4 => exact HC1_1.out); rintro e w38 ⟨v111, rfl, ho0, hb⟩; refine ⟨_, rfl, ?_⟩; have n0_ := Zb.mk (Kd.ZG ho0 (Zi (by repeat (with_reducible first | exact HB.out | apply Zc | apply Za | apply Zd | refine Zh ?_ GE101.out | refine Zh ?_ GE102.out)))); have n1_ := Zb.mk (Zn (g := gb101) (o := .cells #[.bool a0_0, .slice A0_1 l0_1.length c0_1, .int .i64 a0_2] 48 (0, 0)) (by (with_reducible repeat first | refine Ze ?_ _ | refine Zg ?_ | refine Zf ?_ _); exact BK101.out) hb); have n2_ := Zb.mk (Zn (g := gb102) (o := .cells #[.bool a1_0, .slice A1_1 l1_1.length c1_1, .int .i64 a1_2] 48 (0, 0)) (by (with_reducible repeat first | refine Ze ?_ _ | refine Zg ?_ | refine Zf ?_ _); exact BK102.out) hb); have n3_ := Zb.mk (Zl (by repeat (with_reducible first | exact HB.out | apply Zc | apply Za | apply Zd | refine Zh ?_ GE101.out | refine Zh ?_ GE102.out)) hb); clear BK101; clear BK102; clear HB; have HO112 := n0_; have BK101 := n1_; have BK102 := n2_; have HB := n3_; clear n0_ n1_ n2_ n3_; (try clear hb); (try clear hb2); (try clear hk); (try clear hi); (try clear ho0); obtain ⟨Ao39, co39, eo39⟩ := Kd.Zy HO112.out; subst eo39) | ((with_reducible refine Zp (f := 60) rfl ?_); refine ZB (some 40) rfl rfl Try.func60 (by kernel_rfl) rfl #[.agg #[.bool t109, .slice Ao39 t110.length co39, .int .i64 t113]] rfl (by (try simp only [List.map_toArray, List.map_cons, List.map_nil]); first | done | rfl | (simp only [List.length_drop, List.length_take]; rfl)) ?_; (with_reducible refine (r00Num_Sign.calls k t109 _ _ t110 t113 t114 _ ?side1 ?side2 A23.out).mono ?_); (case side1 => repeat (first | exact (Kd.Zv HO112.out).2.2 | (with_reducible refine Kd.ZC ?_ _) | (with_reducible refine Kd.ZF ?_ _) | (with_reducible refine Kd.ZN ?_))); (case side2 => exact (Kd.Zv HO112.out).2.1); rintro e w40 ⟨rfl, hb⟩; refine ⟨_, rfl, ?_⟩; have n0_ := Zb.mk (Kd.Zz (by (with_reducible repeat first | apply Kd.Zm | apply Kd.Zo); exact HO112.out) hb); have n1_ := Zb.mk (Zn (g := gb101) (o := .cells #[.bool a0_0, .slice A0_1 l0_1.length c0_1, .int .i64 a0_2] 48 (0, 0)) (by (with_reducible repeat first | refine Ze ?_ _ | refine Zg ?_ | refine Zf ?_ _); exact BK101.out) hb); have n2_ := Zb.mk (Zn (g := gb102) (o := .cells #[.bool a1_0, .slice A1_1 l1_1.length c1_1, .int .i64 a1_2] 48 (0, 0)) (by (with_reducible repeat first | refine Ze ?_ _ | refine Zg ?_ | refine Zf ?_ _); exact BK102.out) hb); have n3_ := Zb.mk (Zl (by repeat (with_reducible first | exact HB.out | apply Zc | apply Za | apply Zd | refine Zh ?_ GE101.out | refine Zh ?_ GE102.out)) hb); clear HO112; clear BK101; clear BK102; clear HB; have HO112 := n0_; have BK101 := n1_; have BK102 := n2_; have HB := n3_; clear n0_ n1_ n2_ n3_; (try clear hb); (try clear hb2); (try clear hk); (try clear hi)))
      go_ret
      exact ⟨by first | rfl | (simp [errW_none, errW_some] <;> rfl) | (simp [*, errW_none, errW_some] <;> rfl), by repeat (with_reducible first | exact HB.out | apply Zc | apply Za | apply Zd | refine Zh ?_ GE101.out | refine Zh ?_ GE102.out)⟩
end Go.Proofs.Ytbmddlldadbfnaa.BC
end
section
namespace Go.Proofs.Ytbmddlldadbfnaa.BM
open Go.RowKit Go.Proofs.YtbmddlldadbfnaaW.PrintWords Go.Proofs.YtbmddlldadbfnaaW.PrintLast Go.Proofs.YtbmddlldadbfnaaW.PrintMore
open Go.Proofs.Ytbmddlldadbfnaa.BB
open Go.Proofs.Ytbmddlldadbfnaa.BE Go.Proofs.Ytbmddlldadbfnaa.BC
theorem bitsOf_spec {l : List Int} {n : Int} (h : Can 18446744073709551616 l n) (hl : l ≠ []) : ∃ m : Nat, bitsOf l = (m : Int) + 1 ∧ (2 : Int) ^ m ≤ n ∧ n < 2 ^ (m + 1) := by
 have h0 : 0 < l.length := List.length_pos_iff.2 hl
 obtain ⟨j, hj⟩ : ∃ j, l.length = j + 1 := ⟨l.length - 1, by omega⟩
 have hr := rd_dig h.1.1 (i := (l.length : Int) - 1) (by omega) (by omega)
 have ht := h.2 hl
 rw [getLast_rd] at ht
 obtain ⟨x, hx⟩ : ∃ x, x = rd l ((l.length : Int) - 1) := ⟨_, rfl⟩
 rw [← hx] at hr ht
 have hs := bitLen_spec x.toNat
 have hb1 : bitLen x.toNat ≠ 0 := by unfold bitLen; rw [if_neg (by omega)]; omega
 obtain ⟨c, hc⟩ : ∃ c, bitLen x.toNat = c + 1 := ⟨bitLen x.toNat - 1, by omega⟩
 rw [hc] at hs
 have hv : n = V 18446744073709551616 (l.take j) + 18446744073709551616 ^ j * x := by
  have := V_take 18446744073709551616 l (i := j) (by omega)
  rw [List.take_of_length_le (by omega), h.1.2, show (j : Int) = (l.length : Int) - 1 by omega, ← hx] at this
  exact this
 have hlo := V_nonneg (B := 18446744073709551616) (by omega) (Dig_take h.1.1 j)
 have hhi := V_lt (B := 18446744073709551616) (by omega) (Dig_take h.1.1 j)
 rw [show (l.take j).length = j by rw [List.length_take]; omega] at hhi
 have hp : (18446744073709551616 : Int) ^ j = 2 ^ (64 * j) := by rw [Int.pow_mul]; rfl
 have h1 : (2 : Int) ^ c ≤ x := by
  have := hs.2 (by omega)
  have h2 : ((2 ^ (c + 1 - 1) : Nat) : Int) ≤ (x.toNat : Int) := Int.ofNat_le.2 this
  rw [Int.natCast_pow, show c + 1 - 1 = c by omega] at h2
  have h3 : ((2 : Nat) : Int) = 2 := rfl
  rw [h3] at h2
  omega
 have h2 : x + 1 ≤ (2 : Int) ^ (c + 1) := by
  have := hs.1
  have h2 : (x.toNat : Int) < ((2 ^ (c + 1) : Nat) : Int) := Int.ofNat_lt.2 this
  rw [Int.natCast_pow] at h2
  have h3 : ((2 : Nat) : Int) = 2 := rfl
  rw [h3] at h2
  omega
 refine ⟨64 * j + c, ?_, ?_, ?_⟩
 ·unfold bitsOf
  rw [if_neg hl, ← hx, hc]
  omega
 ·rw [hv, hp, Int.pow_add]
  have := Int.mul_le_mul_of_nonneg_left h1 (Int.le_of_lt (pow_pos' (B := 2) (by omega) (64 * j)))
  omega
 ·rw [hv, hp, show 64 * j + c + 1 = 64 * j + (c + 1) by omega, Int.pow_add]
  rw [hp] at hhi
  have := Int.mul_le_mul_of_nonneg_left h2 (Int.le_of_lt (pow_pos' (B := 2) (by omega) (64 * j)))
  rw [Int.mul_add, Int.mul_one] at this
  omega
theorem bitsOf_mono {a b : List Int} {x y : Int} (ha : Can 18446744073709551616 a x) (hb : Can 18446744073709551616 b y) (h1 : a ≠ []) (h2 : b ≠ []) (h : x ≤ y) : bitsOf a ≤ bitsOf b := by
 obtain ⟨m, hm, h3, h4⟩ := bitsOf_spec ha h1
 obtain ⟨p, hp, h5, h6⟩ := bitsOf_spec hb h2
 have : m ≤ p := by
  refine Nat.le_of_not_lt fun hlt => ?_
  have := pow_le' (B := 2) (by omega) (show p + 1 ≤ m by omega)
  omega
 omega
theorem sign_ev {l : List Int} {n : Int} (h : Can 18446744073709551616 l n) (hb : l.length < 1073741824) (neg : Bool) (e : Int) : Ev (fun k => r00Num_Sign.f k neg l e) (if l = [] then 0 else if neg = true then -1 else 1) := by
 refine Late.step (zero_ev h hb neg e).late (fun k hk => ?_) (Ev.pure _)
 have hk' : r00Num_Zero.f k neg l e = some (decide (l = [])) := hk
 unfold r00Num_Sign.f
 rw [hk', Option.bind_some]
 by_cases hl : l = []
 ·rw [if_pos hl, if_pos (decide_eq_true hl)]
 ·rw [if_neg hl, if_neg (by simpa using hl)]
  cases neg <;> rfl
theorem cmp_loop {a b : List Int} (ha : Dig 18446744073709551616 a) (hb : Dig 18446744073709551616 b) (hl : a.length = b.length) (hs : a.length < 1099511627776) : ∀ (i : Nat), i ≤ a.length →
  Ev (fun k => r00NatCmp.l0 k a b ((i : Int) - 1)) (if V 18446744073709551616 (a.take i) < V 18446744073709551616 (b.take i) then -1 else if V 18446744073709551616 (a.take i) > V 18446744073709551616 (b.take i) then 1 else 0)
 | 0, _ => by
  refine Ev.succ (Ev.congr (Ev.pure _) fun k => ?_)
  rw [r00NatCmp.l0, if_neg (by omega)]
  simp [V]
 | i + 1, hi => by
  have ih := cmp_loop ha hb hl hs i (by omega)
  have hva := V_take 18446744073709551616 a (i := i) (by omega)
  have hvb := V_take 18446744073709551616 b (i := i) (by omega)
  have la := V_lt (B := 18446744073709551616) (by omega) (Dig_take ha i)
  have lb := V_lt (B := 18446744073709551616) (by omega) (Dig_take hb i)
  have na := V_nonneg (B := 18446744073709551616) (by omega) (Dig_take ha i)
  have nb := V_nonneg (B := 18446744073709551616) (by omega) (Dig_take hb i)
  rw [show (a.take i).length = i by rw [List.length_take]; omega] at la
  rw [show (b.take i).length = i by rw [List.length_take]; omega] at lb
  have ei : (((i + 1 : Nat) : Int) - 1) = (i : Int) := by omega
  have key : ∀ (P x y p q : Int), 0 < P → p < P → 0 ≤ q → x < y → p + P * x < q + P * y := by
   intro P x y p q hP hp hq hxy
   have := Int.mul_le_mul_of_nonneg_left (show x + 1 ≤ y by omega) (Int.le_of_lt hP)
   rw [Int.mul_add, Int.mul_one] at this
   omega
  have hP := pow_pos' (B := 18446744073709551616) (by omega) i
  by_cases h1 : rd a (i : Int) < rd b (i : Int)
  ·have hlt := key _ _ _ _ _ hP la nb h1
   rw [← hva, ← hvb] at hlt
   rw [if_pos hlt]
   refine Ev.succ (Ev.congr (Ev.pure _) fun k => ?_)
   rw [ei, r00NatCmp.l0, if_pos (by omega), if_pos (by omega), if_pos (by omega), if_pos (by omega), if_pos h1]
  ·by_cases h2 : rd a (i : Int) > rd b (i : Int)
   ·have hlt := key _ _ _ _ _ hP lb na h2
    rw [← hva, ← hvb] at hlt
    rw [if_neg (by omega), if_pos hlt]
    refine Ev.succ (Ev.congr (Ev.pure _) fun k => ?_)
    rw [ei, r00NatCmp.l0, if_pos (by omega), if_pos (by omega), if_pos (by omega), if_pos (by omega), if_neg h1, if_pos h2]
   ·have h3 : rd a (i : Int) = rd b (i : Int) := by omega
    have e : (if V 18446744073709551616 (a.take (i + 1)) < V 18446744073709551616 (b.take (i + 1)) then (-1 : Int) else if V 18446744073709551616 (a.take (i + 1)) > V 18446744073709551616 (b.take (i + 1)) then 1 else 0) = (if V 18446744073709551616 (a.take i) < V 18446744073709551616 (b.take i) then -1 else if V 18446744073709551616 (a.take i) > V 18446744073709551616 (b.take i) then 1 else 0) := by
     rw [hva, hvb, h3]
     obtain ⟨P, hPe⟩ : ∃ P, P = (18446744073709551616 : Int) ^ i * rd b (i : Int) := ⟨_, rfl⟩
     rw [← hPe]
     have c1 : (V 18446744073709551616 (a.take i) + P < V 18446744073709551616 (b.take i) + P) = (V 18446744073709551616 (a.take i) < V 18446744073709551616 (b.take i)) := by apply propext; omega
     have c2 : (V 18446744073709551616 (a.take i) + P > V 18446744073709551616 (b.take i) + P) = (V 18446744073709551616 (a.take i) > V 18446744073709551616 (b.take i)) := by apply propext; omega
     simp only [c1, c2]
    rw [e]
    refine Ev.succ (Ev.congr ih fun k => ?_)
    rw [ei, r00NatCmp.l0, if_pos (by omega), if_pos (by omega), if_pos (by omega), if_pos (by omega), if_neg h1, if_neg h2, w64 (by omega) (by omega)]
theorem cmp_ev {a b : List Int} {x y : Int} (ha : Can 18446744073709551616 a x) (hb : Can 18446744073709551616 b y) (hla : a.length < 1073741824) (hlb : b.length < 1073741824) :
  Ev (fun k => r00NatCmp.f k a b) (if x < y then -1 else if x > y then 1 else 0) := by
 have hlt : ∀ {a b : List Int} {x y : Int}, Can 18446744073709551616 a x → Can 18446744073709551616 b y → a.length < b.length → x < y := by
  intro a b x y ha hb h
  have h1 := V_lt (B := 18446744073709551616) (by omega) ha.1.1
  rw [ha.1.2] at h1
  have h2 := Can_low (by omega) hb (by intro h'; rw [h'] at h; simp at h)
  have h3 := pow_le' (B := 18446744073709551616) (by omega) (show a.length ≤ b.length - 1 by omega)
  omega
 by_cases hl : a.length = b.length
 ·have h := cmp_loop ha.1.1 hb.1.1 hl (by omega) a.length (Nat.le_refl _)
  rw [List.take_of_length_le (Nat.le_refl _), List.take_of_length_le (by omega), ha.1.2, hb.1.2] at h
  refine Late.step ((nattrim_can (by omega) ha (by omega)).late.and (nattrim_can (by omega) hb (by omega)).late) (fun k hk => ?_) h
  have hk1 : r00NatTrim.f k a = some a := hk.1
  have hk2 : r00NatTrim.f k b = some b := hk.2
  unfold r00NatCmp.f
  rw [hk1, Option.bind_some, hk2, Option.bind_some, if_pos (by omega), w64 (by omega) (by omega)]
 ·refine Late.step (g := fun _ => some _) ((nattrim_can (by omega) ha (by omega)).late.and (nattrim_can (by omega) hb (by omega)).late) (fun k hk => ?_) (Ev.pure _)
  have hk1 : r00NatTrim.f k a = some a := hk.1
  have hk2 : r00NatTrim.f k b = some b := hk.2
  unfold r00NatCmp.f
  rw [hk1, Option.bind_some, hk2, Option.bind_some, if_neg (by omega)]
  by_cases h : a.length < b.length
  ·rw [if_pos (by omega), if_pos (hlt ha hb h)]
  ·have := hlt hb ha (by omega)
   rw [if_neg (by omega), if_neg (by omega), if_pos (by omega)]
theorem sub_alg (B P vp w va vb d w2 x y : Int) (h : vp = va - vb + P * w) (h2 : B * w2 + (x - y - w) = d) : vp + P * d = va + P * x - (vb + P * y) + P * B * w2 := by
 rw [h, ← h2]; grind
theorem sub_loop {a b : List Int} (ha : Dig 4294967296 a) (hb : Dig 4294967296 b) (hla : a.length < 100000000) (hlb : b.length ≤ a.length) (hge : V 4294967296 b ≤ V 4294967296 a) : ∀ (m i : Nat) (p : List Int) (c : Int),
  i + m = a.length → p.length = i → Dig 4294967296 p → 0 ≤ c → c ≤ 1 → V 4294967296 p = V 4294967296 (a.take i) - V 4294967296 (b.take i) + 4294967296 ^ i * c →
  ∃ r, Ev (fun k => r00NatSub.l0 k a b p c i) r ∧ Can 18446744073709551616 r (V 4294967296 a - V 4294967296 b) := by
 intro m
 induction m with
 | zero =>
  intro i p c hi hp hd hc0 hc1 hv
  rw [List.take_of_length_le (by omega), List.take_of_length_le (by omega)] at hv
  have hlt := V_lt (B := 4294967296) (by omega) hd
  rw [hp] at hlt
  have hc : c = 0 := by
   rcases Int.lt_or_le 0 c with h | h
   ·have : c = 1 := by omega
    subst this
    rw [Int.mul_one] at hv
    omega
   ·omega
  subst hc
  rw [Int.mul_zero, Int.add_zero] at hv
  obtain ⟨r, he, hcan, hlen⟩ := limbs2_ev (l := p) ⟨hd, hv⟩ (by omega)
  refine ⟨r, Ev.succ (Ev.congr (Ev.bind (g := fun _ t => some t) he (Ev.pure _)) fun k => ?_), hcan⟩
  rw [r00NatSub.l0, if_neg (by omega)]
 | succ m ih =>
  intro i p c hi hp hd hc0 hc1 hv
  have hx := rd_dig ha (i := (i : Int)) (by omega) (by omega)
  have hy := dg_range (by omega) hb i
  have hva := V_take 4294967296 a (i := i) (by omega)
  have hvb := V_dg 4294967296 b i
  obtain ⟨x, hxe⟩ : ∃ x, x = rd a (i : Int) := ⟨_, rfl⟩
  obtain ⟨y, hye⟩ : ∃ y, y = dg b i := ⟨_, rfl⟩
  rw [← hxe] at hx hva
  rw [← hye] at hy hvb
  obtain ⟨s, hs⟩ : ∃ s, s = 4294967296 + x - y - c := ⟨_, rfl⟩
  obtain ⟨r, he, hcan⟩ := ih (i + 1) (p ++ [s % 4294967296]) (1 - s / 4294967296) (by omega) (by simp [hp]) (Dig_snoc hd (by omega) (by omega)) (by omega) (by omega) (by
   rw [V_snoc, hp, hva, hvb, Int.pow_succ]
   exact sub_alg _ _ _ _ _ _ _ _ _ _ hv (by omega))
  refine ⟨r, Ev.succ (Ev.congr he fun k => ?_), hcan⟩
  have e0 : IntKind.u64.wrap (4294967296 + x) = 4294967296 + x := u64 (by omega) (by omega)
  have e1 : IntKind.u64.wrap (4294967296 + x - y) = 4294967296 + x - y := u64 (by omega) (by omega)
  have e2 : IntKind.u64.wrap (4294967296 + x - y - c) = s := by rw [u64 (by omega) (by omega), hs]
  have e3 : Int.tmod s 4294967296 = s % 4294967296 := Int.tmod_eq_emod_of_nonneg (by omega)
  have e4 : IntKind.u64.wrap (Int.tdiv s 4294967296) = s / 4294967296 := by rw [Int.tdiv_eq_ediv_of_nonneg (by omega)]; exact u64 (by omega) (by omega)
  have e5 : IntKind.u64.wrap (1 - s / 4294967296) = 1 - s / 4294967296 := u64 (by omega) (by omega)
  have e6 : wrap64 ((i : Int) + 1) = ((i + 1 : Nat) : Int) := by rw [w64 (by omega) (by omega)]; omega
  have c1 : p.length < 17592186044416 := by rw [hp]; clear e0 e1 e2 e3 e4 e5 e6; omega
  have c2 : i < a.length := by clear e0 e1 e2 e3 e4 e5 e6; omega
  rw [r00NatSub.l0, if_pos (Int.ofNat_lt.2 c2), if_pos (Int.natCast_nonneg _), digit_f, Option.bind_some, if_pos c1, ← hxe, ← hye, e0, e1, e2, e3, e4, e5, e6]
theorem sub_ev {a b : List Int} {x y : Int} (ha : Can 18446744073709551616 a x) (hb : Can 18446744073709551616 b y) (hla : a.length < 10000000) (hlb : b.length < 10000000) (hle : y ≤ x) :
  ∃ r, Ev (fun k => r00NatSub.f k a b) r ∧ Can 18446744073709551616 r (x - y) := by
 obtain ⟨p, hp, hcp, hlp⟩ := halves_ev ha.1 (by omega)
 obtain ⟨q, hq, hcq, hlq⟩ := halves_ev hb.1 (by omega)
 have hlen : q.length ≤ p.length := by
  refine Nat.le_of_not_lt fun h => ?_
  have h1 := V_lt (B := 4294967296) (by omega) hcp.1.1
  rw [hcp.1.2] at h1
  have h2 := Can_low (by omega) hcq (by intro h'; rw [h'] at h; simp at h)
  have h3 := pow_le' (B := 4294967296) (by omega) (show p.length ≤ q.length - 1 by omega)
  omega
 obtain ⟨r, hr, hc⟩ := sub_loop hcp.1.1 hcq.1.1 (by omega) hlen (by rw [hcp.1.2, hcq.1.2]; exact hle) p.length 0 [] 0 (by omega) rfl (Dig_nil _) (by omega) (by omega) (by simp [V])
 rw [hcp.1.2, hcq.1.2] at hc
 refine ⟨r, Late.step (hp.late.and hq.late) (fun k hk => ?_) hr, hc⟩
 have hk1 : r00halves.f k a = some p := hk.1
 have hk2 : r00halves.f k b = some q := hk.2
 unfold r00NatSub.f
 rw [hk1, Option.bind_some, hk2, Option.bind_some]
 rfl
theorem compare_ev {a b : List Int} {x y : Int} (ha : Can 18446744073709551616 a x) (hb : Can 18446744073709551616 b y) (hla : a.length < 10000000) (hlb : b.length < 10000000) (h1 : a ≠ []) (hle : x ≤ y) (neg : Bool) :
  Ev (fun k => r00Compare.f k neg a 0 neg b 0) (if x = y then 0 else if neg = true then 1 else -1) := by
 have hx := Can_pos (by omega) ha h1
 have h2 : b ≠ [] := by
  intro h; subst h
  have : y = 0 := by rw [← hb.1.2]; rfl
  omega
 have hb1 := bitsOf_le ha
 have hb2 := bitsOf_le hb
 have hmono := bitsOf_mono ha hb h1 h2 hle
 have s1 := sign_ev ha (by omega) neg 0
 have s2 := sign_ev hb (by omega) neg 0
 rw [if_neg h1] at s1
 rw [if_neg h2] at s2
 have t1 : ∀ k {l : List Int}, 0 ≤ bitsOf l → bitsOf l ≤ 64 * 10000000 → r00NatBits.f k l = some (bitsOf l) → r00Num_Top.f k neg l 0 = some (bitsOf l) := by
  intro k l hl0 hl hk
  unfold r00Num_Top.f
  rw [hk, Option.bind_some, w64 (by omega) (by omega), Int.zero_add]
 have hsg : ¬ (if neg = true then (-1 : Int) else 1) = 0 := by cases neg <;> decide
 by_cases hbit : bitsOf a < bitsOf b
 ·have hne : ¬ x = y := by
   intro h; subst h
   rw [Can_unique (by omega) ha hb] at hbit
   omega
  refine Late.step (g := fun _ => some _) (s1.late.and (s2.late.and ((natbits_ev ha (by omega)).late.and (natbits_ev hb (by omega)).late))) (fun k hk => ?_) (Ev.pure _)
  obtain ⟨k1, k2, k3, k4⟩ := hk
  unfold r00Compare.f
  rw [k1, Option.bind_some, k2, Option.bind_some, if_neg (by omega), if_neg (by omega), if_neg hsg, t1 k hb1.1 (by omega) k3, Option.bind_some, t1 k hb2.1 (by omega) k4, Option.bind_some, if_pos hbit, if_neg hne]
  cases neg
  ·show some (wrap64 (-1)) = some (-1)
   rw [w64 (by omega) (by omega)]
  ·show some (wrap64 (- -1)) = some 1
   rw [w64 (by omega) (by omega)]
   rfl
 ·have hcmp := cmp_ev ha hb (by omega) (by omega)
  have hup := natup_ev hb (by omega)
  have e0 : wrap64 (0 - 0) = 0 := w64 (by omega) (by omega)
  have nn : (neg == !neg) = false := by cases neg <;> rfl
  have less : ∃ (sg : Bool) (r : List Int) (n : Int), Late (fun k => BE.r00Plus.f k neg a 0 (!neg) b 0 = some (sg, r, 0)) ∧ Can 18446744073709551616 r n ∧ (x = y → n = 0) ∧ (¬ x = y → n ≠ 0 ∧ sg = !neg) ∧ r.length < 1073741824 := by
   by_cases hxy : x = y
   ·obtain ⟨r, hr, hc⟩ := sub_ev ha hb hla hlb (by omega)
    rw [show x - y = 0 by omega] at hc
    rw [if_neg (by omega), if_neg (by omega)] at hcmp
    refine ⟨neg, r, 0, (Ev.succ (Late.step (g := fun _ => some (neg, r, 0)) ((zero_ev ha (by omega) neg 0).late.and ((zero_ev hb (by omega) (!neg) 0).late.and (hup.late.and (hcmp.late.and hr.late)))) (fun k hk => ?_) (Ev.pure _))).late, hc, fun _ => rfl, fun h => absurd hxy h, by rw [Can_zero (by omega) hc]; decide⟩
    obtain ⟨k1, k2, k3, k4, k5⟩ := hk
    rw [decide_eq_false h1] at k1
    rw [decide_eq_false h2] at k2
    rw [BE.r00Plus.f, k1, Option.bind_some, if_neg (by decide), k2, Option.bind_some, if_neg (by decide), if_neg (by decide), e0, k3, Option.bind_some, nn, if_neg (by decide), k4, Option.bind_some, if_pos (by decide), k5, Option.bind_some]
   ·obtain ⟨r, hr, hc⟩ := sub_ev hb ha hlb hla (by omega)
    rw [if_pos (by omega)] at hcmp
    have hrl : r.length ≤ b.length := Can_len (by omega) hc (by
     have := V_lt (B := 18446744073709551616) (by omega) hb.1.1
     rw [hb.1.2] at this
     omega)
    refine ⟨!neg, r, y - x, (Ev.succ (Late.step (g := fun _ => some (!neg, r, 0)) ((zero_ev ha (by omega) neg 0).late.and ((zero_ev hb (by omega) (!neg) 0).late.and (hup.late.and (hcmp.late.and hr.late)))) (fun k hk => ?_) (Ev.pure _))).late, hc, fun h => absurd h hxy, fun _ => ⟨by omega, rfl⟩, by omega⟩
    obtain ⟨k1, k2, k3, k4, k5⟩ := hk
    rw [decide_eq_false h1] at k1
    rw [decide_eq_false h2] at k2
    rw [BE.r00Plus.f, k1, Option.bind_some, if_neg (by decide), k2, Option.bind_some, if_neg (by decide), if_neg (by decide), e0, k3, Option.bind_some, nn, if_neg (by decide), k4, Option.bind_some, if_neg (by decide), k5, Option.bind_some]
  obtain ⟨sg, r, n, hp, hc, hz, hnz, hrl⟩ := less
  have s3 := sign_ev hc hrl sg 0
  have hrr : (if r = [] then (0 : Int) else if sg = true then -1 else 1) = (if x = y then 0 else if neg = true then 1 else -1) := by
   by_cases hxy : x = y
   ·rw [if_pos hxy, if_pos]
    have := hz hxy
    subst this
    exact Can_zero (by omega) hc
   ·obtain ⟨q1, q2⟩ := hnz hxy
    rw [if_neg hxy, if_neg, q2]
    ·cases neg <;> rfl
    ·intro h
     subst h
     exact q1 (by rw [← hc.1.2]; rfl)
  rw [hrr] at s3
  refine Late.step (g := fun _ => some _) (s1.late.and (s2.late.and ((natbits_ev ha (by omega)).late.and ((natbits_ev hb (by omega)).late.and (hp.and s3.late))))) (fun k hk => ?_) (Ev.pure _)
  obtain ⟨k1, k2, k3, k4, k5, k6⟩ := hk
  have k7 : r00Less.f k neg a 0 neg b 0 = some (sg, r, 0) := k5
  unfold r00Compare.f
  rw [k1, Option.bind_some, k2, Option.bind_some, if_neg (by omega), if_neg (by omega), if_neg hsg, t1 k hb1.1 (by omega) k3, Option.bind_some, t1 k hb2.1 (by omega) k4, Option.bind_some, if_neg hbit, Option.bind_some, Option.bind_some, if_neg (by omega), k7, Option.bind_some]
  show (r00Num_Sign.f k sg r 0).bind _ = _
  rw [k6, Option.bind_some]
end Go.Proofs.Ytbmddlldadbfnaa.BM
end
section
namespace Go.Proofs.Ytbmddlldadbfnaa.BR
open Go.RowKit Go.Proofs.Ytbmddlldadbfnaa.BB Go.Proofs.YtbmddlldadbfnaaW.PrintWords Go.Proofs.YtbmddlldadbfnaaW.PrintLast Go.Proofs.YtbmddlldadbfnaaW.PrintMore
attribute [local go_sem] ZU ZS max_two min_two ZP ZO ZT ZR
set_option linter.unusedVariables false
set_option linter.unusedSimpArgs false
theorem three_boxes {w w1 : World} {o1 o2 o3 : Obj} (hb : Below (((w.alloc o1).alloc o2).alloc o3).heap.size (((w.alloc o1).alloc o2).alloc o3) w1) : w1.heap[w.heap.size]? = some o1 ∧ w1.heap[w.heap.size + 1]? = some o2 ∧ w1.heap[w.heap.size + 1 + 1]? = some o3 ∧ Below w.heap.size w w1 := by
 have h2 := Zn (Zf (blk_new (w.alloc o1) o2) o3) hb
 rw [show (w.alloc o1).heap.size = w.heap.size + 1 by simp] at h2
 have h3 := Zn (blk_new ((w.alloc o1).alloc o2) o3) hb
 rw [show ((w.alloc o1).alloc o2).heap.size = w.heap.size + 1 + 1 by simp] at h3
 exact ⟨Zn (Zf (Zf (blk_new w o1) o2) o3) hb, h2, h3, (Zc (Zc (Zc (Below.refl w.heap.size w) _) _) _).trans (hb.mono (by simp; omega))⟩
def Three (b0 b1 : Bool) (s0 s1 : Value) (e0 e1 : Int) (w W : World) : Prop :=
 W.heap[w.heap.size]? = some (.cells #[.bool b0, s0, .int .i64 e0] 48 (0, 0)) ∧ W.heap[w.heap.size + 1]? = some (.cells #[.bool b1, s1, .int .i64 e1] 48 (0, 0)) ∧ W.heap[w.heap.size + 1 + 1]? = some (.cells #[.bool false, .slice none 0 0, .int .i64 0] 48 (0, 0)) ∧ Below w.heap.size w W
theorem Three.next {b0 b1 : Bool} {s0 s1 : Value} {e0 e1 : Int} {w W W' : World} (h : Three b0 b1 s0 s1 e0 e1 w W) (hb : Below W.heap.size W W') : Three b0 b1 s0 s1 e0 e1 w W' := by
 obtain ⟨h1, h2, h3, h5⟩ := h
 exact ⟨Zn h1 hb, Zn h2 hb, Zn h3 hb, h5.trans (hb.mono h5.size)⟩
theorem Three.cells {b0 b1 : Bool} {s0 s1 : Value} {e0 e1 : Int} {w W : World} (h : Three b0 b1 s0 s1 e0 e1 w W) :
  (W.cell? ⟨w.heap.size, 0, none⟩ = some (.bool b0) ∧ W.cell? ⟨w.heap.size, 1, none⟩ = some s0 ∧ W.cell? ⟨w.heap.size, 2, none⟩ = some (.int .i64 e0)) ∧ (W.cell? ⟨w.heap.size + 1, 0, none⟩ = some (.bool b1) ∧ W.cell? ⟨w.heap.size + 1, 1, none⟩ = some s1 ∧ W.cell? ⟨w.heap.size + 1, 2, none⟩ = some (.int .i64 e1)) ∧
  (W.cell? ⟨w.heap.size + 1 + 1, 0, none⟩ = some (.bool false) ∧ W.cell? ⟨w.heap.size + 1 + 1, 1, none⟩ = some (.slice none 0 0) ∧ W.cell? ⟨w.heap.size + 1 + 1, 2, none⟩ = some (.int .i64 0)) ∧ W.frozen? ⟨w.heap.size + 1 + 1, 0, none⟩ = false ∧ W.frozen? ⟨w.heap.size + 1 + 1, 1, none⟩ = false ∧ W.frozen? ⟨w.heap.size + 1 + 1, 2, none⟩ = false := by
 obtain ⟨h1, h2, h3, _⟩ := h
 exact ⟨⟨(Zk h1 0).trans rfl, (Zk h1 1).trans rfl, (Zk h1 2).trans rfl⟩, ⟨(Zk h2 0).trans rfl, (Zk h2 1).trans rfl, (Zk h2 2).trans rfl⟩, ⟨(Zk h3 0).trans rfl, (Zk h3 1).trans rfl, (Zk h3 2).trans rfl⟩, Zj h3 0, Zj h3 1, Zj h3 2⟩
theorem Three.put {b0 b1 : Bool} {s0 s1 : Value} {e0 e1 : Int} {w W : World} (h : Three b0 b1 s0 s1 e0 e1 w W) (u0 u1 u2 : Value) : (((W.setCell ⟨w.heap.size + 1 + 1, 0, none⟩ u0).setCell ⟨w.heap.size + 1 + 1, 1, none⟩ u1).setCell ⟨w.heap.size + 1 + 1, 2, none⟩ u2).heap[w.heap.size + 1 + 1]? = some (.cells #[u0, u1, u2] 48 (0, 0)) ∧
  Below w.heap.size w (((W.setCell ⟨w.heap.size + 1 + 1, 0, none⟩ u0).setCell ⟨w.heap.size + 1 + 1, 1, none⟩ u1).setCell ⟨w.heap.size + 1 + 1, 2, none⟩ u2) := by
 obtain ⟨_, _, h3, h5⟩ := h
 exact ⟨Zu (Zu (Zu h3 0 u0 rfl) 1 u1 rfl) 2 u2 rfl, Zh (Zh (Zh h5 (by show w.heap.size ≤ w.heap.size + 1 + 1; omega)) (by show w.heap.size ≤ w.heap.size + 1 + 1; omega)) (by show w.heap.size ≤ w.heap.size + 1 + 1; omega)⟩
set_option maxHeartbeats 4000000 in
set_option maxRecDepth 100000 in
theorem plus_zero (k : Nat) (n0 n1 : Bool) (A0 A1 : Option Addr) (c0 c1 : Nat) (l0 l1 : List Int) (e0 e1 : Int) (w : World) (hr0 : Kd.C (Kd.int .u64) w A0 l0.length l0) (hc0 : l0.length ≤ c0) (hr1 : Kd.C (Kd.int .u64) w A1 l1.length l1) (hc1 : l1.length ≤ c1)
  (h0 : r00Num_Zero.f k n0 l0 e0 = some false) (h1 : r00Num_Zero.f k n1 l1 e1 = some true) :
  Calls Try.prog 24 #[.agg #[.bool n0, .slice A0 l0.length c0, .int .i64 e0], .agg #[.bool n1, .slice A1 l1.length c1, .int .i64 e1]] w fun e w' => e = .returned (.agg #[.bool n0, .slice A0 l0.length c0, .int .i64 e0]) ∧ Below w.heap.size w w' := by
 have H0 := Zb.mk h0
 have H1 := Zb.mk h1
 have HR0 := Zb.mk hr0
 have HR1 := Zb.mk hr1
 clear h0 h1 hr0 hr1
 have hu48 := Try.underlying48
 go_enter Try.func24, Try.ntmps24
 go_wp2_with fail
 refine (r00Num_Zero.calls k n0 A0 c0 l0 e0 false _ (Kd.ZC (Kd.ZC (Kd.ZC HR0.out _) _) _) hc0 H0.out).mono ?_
 rintro ev w1 ⟨rfl, hb⟩
 have ST : Zb (Three n0 n1 (.slice A0 l0.length c0) (.slice A1 l1.length c1) e0 e1 w w1) := ⟨three_boxes hb⟩
 obtain ⟨⟨hx0, hx1, hx2⟩, ⟨hy0, hy1, hy2⟩, ⟨hz0, hz1, hz2⟩, f0, f1, f2⟩ := ST.out.cells
 clear hb
 go_wp2_with fail
 refine (r00Num_Zero.calls k n1 A1 c1 l1 e1 true _ (Kd.C_below HR1.out ST.out.2.2.2) hc1 H1.out).mono ?_
 rintro ev w2 ⟨rfl, hb⟩
 replace ST := Zb.mk (ST.out.next hb)
 clear hb hx0 hx1 hx2 hy0 hy1 hy2 hz0 hz1 hz2 f0 f1 f2
 obtain ⟨⟨hx0, hx1, hx2⟩, ⟨hy0, hy1, hy2⟩, ⟨hz0, hz1, hz2⟩, f0, f1, f2⟩ := ST.out.cells
 go_wp2_with fail
 obtain ⟨hp, hbl⟩ := ST.out.put (.bool n0) (.slice A0 l0.length c0) (.int .i64 e0)
 refine bodyPost_ret (results_cell_row rfl _ _ (w.heap.size + 1 + 1) 48 #[.bool n0, .slice A0 l0.length c0, .int .i64 e0] (0, 0) _ rfl hp Try.underlying48 rfl (by kernel_rfl)) rfl ?_
 exact ⟨rfl, hbl⟩
def Apart48 (w : World) (A : Option Addr) : Prop := ∀ ad, A = some ad → ad.block < w.heap.size ∧ ∀ g cells, w.heap[g]? = some (.cells cells 48 (0, 0)) → ad.block ≠ g
theorem Apart48.of {w : World} {base c : Nat} {ok : Nat → Prop} {A : Option Addr} {xs : List Int} (h : Kd.R (Kd.int .u64) 46 w base ok (.slice A xs.length c) xs) : Apart48 w A := by
 intro ad ha
 subst ha
 refine ⟨Kd.R_lt h _ rfl, fun g cells hg e => ?_⟩
 have := Kd.R_ne h hg (by decide)
 exact this (by rw [← e]; rfl)
theorem Apart48.next {w w' : World} {A : Option Addr} (h : Apart48 w A) (hb : Below w.heap.size w w') : Apart48 w' A := by
 intro ad ha
 obtain ⟨h1, h2⟩ := h ad ha
 refine ⟨Nat.lt_of_lt_of_le h1 hb.size, fun g cells hg e => ?_⟩
 subst e
 exact h2 _ cells ((hb.block _ h1).symm.trans hg) rfl
set_option maxHeartbeats 4000000 in
set_option maxRecDepth 100000 in
theorem plus_same (k : Nat) (n : Bool) (A0 A1 : Option Addr) (c0 c1 : Nat) (l0 l1 u r : List Int) (w : World) (hr0 : Kd.C (Kd.int .u64) w A0 l0.length l0) (hc0 : l0.length ≤ c0) (hr1 : Kd.C (Kd.int .u64) w A1 l1.length l1) (hc1 : l1.length ≤ c1)
  (h0 : r00Num_Zero.f k n l0 0 = some false) (h1 : r00Num_Zero.f k n l1 0 = some false) (h2 : r00NatUp.f k l1 0 = some u) (h3 : r00NatAdd.f k l0 u = some r) :
  Calls Try.prog 24 #[.agg #[.bool n, .slice A0 l0.length c0, .int .i64 0], .agg #[.bool n, .slice A1 l1.length c1, .int .i64 0]] w fun e w' => ∃ A c, e = .returned (.agg #[.bool n, .slice A r.length c, .int .i64 0]) ∧ r.length ≤ c ∧ Kd.C (Kd.int .u64) w' A r.length r ∧ Below w.heap.size w w' ∧ Apart48 w' A := by
 have H0 := Zb.mk h0
 have H1 := Zb.mk h1
 have H2 := Zb.mk h2
 have H3 := Zb.mk h3
 have HR0 := Zb.mk hr0
 have HR1 := Zb.mk hr1
 clear h0 h1 h2 h3 hr0 hr1
 have hu48 := Try.underlying48
 have ew : wrap64 (0 - 0) = 0 := by decide +kernel
 go_enter Try.func24, Try.ntmps24
 go_wp2_with fail
 refine (r00Num_Zero.calls k n A0 c0 l0 0 false _ (Kd.ZC (Kd.ZC (Kd.ZC HR0.out _) _) _) hc0 H0.out).mono ?_
 rintro ev w1 ⟨rfl, hb⟩
 have ST : Zb (Three n n (.slice A0 l0.length c0) (.slice A1 l1.length c1) 0 0 w w1) := ⟨three_boxes hb⟩
 obtain ⟨⟨hx0, hx1, hx2⟩, ⟨hy0, hy1, hy2⟩, ⟨hz0, hz1, hz2⟩, f0, f1, f2⟩ := ST.out.cells
 clear hb
 go_wp2_with fail
 refine (r00Num_Zero.calls k n A1 c1 l1 0 false _ (Kd.C_below HR1.out ST.out.2.2.2) hc1 H1.out).mono ?_
 rintro ev w2 ⟨rfl, hb⟩
 replace ST := Zb.mk (ST.out.next hb)
 clear hb hx0 hx1 hx2 hy0 hy1 hy2 hz0 hz1 hz2 f0 f1 f2
 obtain ⟨⟨hx0, hx1, hx2⟩, ⟨hy0, hy1, hy2⟩, ⟨hz0, hz1, hz2⟩, f0, f1, f2⟩ := ST.out.cells
 go_wp2_with fail
 have ST' := Zb.mk (ST.out.next (Zd (Below.refl w2.heap.size w2)))
 clear ST hx0 hx1 hx2 hy0 hy1 hy2 hz0 hz1 hz2 f0 f1 f2
 obtain ⟨⟨hx0, hx1, hx2⟩, ⟨hy0, hy1, hy2⟩, ⟨hz0, hz1, hz2⟩, f0, f1, f2⟩ := ST'.out.cells
 go_region_held3 (fun w' => w'.cell? ⟨w.heap.size, 1, none⟩ = some (.slice A0 l0.length c0) ∧ w'.cell? ⟨w.heap.size + 1, 1, none⟩ = some (.slice A1 l1.length c1) ∧ w'.cell? ⟨w.heap.size + 1, 2, none⟩ = some (.int .i64 0) ∧ w'.cell? ⟨w.heap.size, 2, none⟩ = some (.int .i64 0)) (first | exact ⟨hx1, hy1, hy2, hx2⟩ | exact ⟨kx1, ky1, ky2, kx2⟩)
  (first | (go_at_call 55; refine (r00NatUp.calls k A1 c1 l1 0 u _ (Kd.C_below HR1.out ST'.out.2.2.2) hc1 H2.out).mono ?_; rintro ev w3 ⟨v, rfl, hv, hb⟩; obtain ⟨Au, cu, rfl, hcu, hCu⟩ := Kd.R_reads hv; have ST := Zb.mk (ST'.out.next hb); have HU := Zb.mk hCu; obtain ⟨⟨kx0, kx1, kx2⟩, ⟨ky0, ky1, ky2⟩, ⟨kz0, kz1, kz2⟩, g0, g1, g2⟩ := ST.out.cells))
 clear hx0 hx1 hx2 hy0 hy1 hy2 hz0 hz1 hz2 f0 f1 f2 hv hCu hb ST'
 go_wp2_with fail
 have ST' := Zb.mk (ST.out.next (Zd (Below.refl w3.heap.size w3)))
 have HU' := Zb.mk (Kd.C_below HU.out (Zd (Below.refl w3.heap.size w3)))
 clear ST HU kx0 kx1 kx2 ky0 ky1 ky2 kz0 kz1 kz2 g0 g1 g2
 obtain ⟨⟨hx0, hx1, hx2⟩, ⟨hy0, hy1, hy2⟩, ⟨hz0, hz1, hz2⟩, f0, f1, f2⟩ := ST'.out.cells
 have hnx : w.heap.size ≠ w.heap.size + 1 + 1 := by omega
 have FX : ∀ (W : World) (i : Nat) (u0 u1 u2 : Value), (((W.setCell ⟨w.heap.size + 1 + 1, 0, none⟩ u0).setCell ⟨w.heap.size + 1 + 1, 1, none⟩ u1).setCell ⟨w.heap.size + 1 + 1, 2, none⟩ u2).cell? ⟨w.heap.size, i, none⟩ = W.cell? ⟨w.heap.size, i, none⟩ := fun W i u0 u1 u2 =>
  (cell_far (p := ⟨w.heap.size + 1 + 1, _, none⟩) hnx _).trans ((cell_far (p := ⟨w.heap.size + 1 + 1, _, none⟩) hnx _).trans (cell_far (p := ⟨w.heap.size + 1 + 1, _, none⟩) hnx _))
 go_region_held3 (fun w' => w'.cell? ⟨w.heap.size, 0, none⟩ = some (.bool n) ∧ w'.cell? ⟨w.heap.size, 2, none⟩ = some (.int .i64 0)) (first | exact ⟨hx0, hx2⟩ | exact ⟨kx0, kx2⟩ | exact ⟨(FX _ _ _ _ _).trans kx0, (FX _ _ _ _ _).trans kx2⟩)
  (first | (go_at_call 56; refine (r00NatAdd.calls k A0 c0 l0 Au cu u r _ (Kd.C_below HR0.out ST'.out.2.2.2) hc0 HU'.out hcu H3.out).mono ?_; rintro ev w4 ⟨v, rfl, hv, hb⟩; have HV := Zb.mk hv; have NE := Kd.R_ne hv (Zn ST'.out.2.2.1 hb) (by decide); obtain ⟨Ar, cr, rfl, hcr, hCr⟩ := Kd.R_reads hv; have ST := Zb.mk (ST'.out.next hb); have HC := Zb.mk hCr; obtain ⟨⟨kx0, kx1, kx2⟩, ⟨ky0, ky1, ky2⟩, ⟨kz0, kz1, kz2⟩, g0, g1, g2⟩ := ST.out.cells))
 clear hx0 hx1 hx2 hy0 hy1 hy2 hz0 hz1 hz2 f0 f1 f2 hv hCr hb ST'
 go_wp2_with fail
 obtain ⟨hp, hbl⟩ := ST.out.put (.bool n) (.slice Ar r.length cr) (.int .i64 0)
 refine bodyPost_ret (results_cell_row rfl _ _ (w.heap.size + 1 + 1) 48 #[.bool n, .slice Ar r.length cr, .int .i64 0] (0, 0) _ rfl hp Try.underlying48 rfl (by kernel_rfl)) rfl ?_
 have HR := Kd.ZH (p := ⟨w.heap.size + 1 + 1, 2, none⟩) (Kd.ZH (p := ⟨w.heap.size + 1 + 1, 1, none⟩) (Kd.ZH (p := ⟨w.heap.size + 1 + 1, 0, none⟩) (Kd.R_far1 HV.out rfl NE) (fun _ hk => hk.2) (.bool n)) (fun _ hk => hk.2) (.slice Ar r.length cr)) (fun _ hk => hk.2) (.int .i64 0)
 exact ⟨Ar, cr, rfl, hcr, (Kd.Zv HR).2.2, hbl, Apart48.of HR⟩
end Go.Proofs.Ytbmddlldadbfnaa.BR
end
section
namespace Go.Proofs.Ytbmddlldadbfnaa.BP
open Go.RowKit Go.Proofs.Ytbmddlldadbfnaa.BA Go.Proofs.Ytbmddlldadbfnaa.BB Go.Proofs.YtbmddlldadbfnaaW.PrintWords Go.Proofs.YtbmddlldadbfnaaW.PrintLast Go.Proofs.YtbmddlldadbfnaaW.PrintMore
attribute [local go_sem] ZU ZS max_two min_two ZP ZO ZT ZR
set_option linter.unusedVariables false
set_option linter.unusedSimpArgs false
def errW : Option Int → Value
 | none => .nilIface
 | some c => .iface 0 (.int .i64 c)
theorem errW_none : errW none = .nilIface := rfl
theorem errW_some (c : Int) : errW (some c) = .iface 0 (.int .i64 c) := rfl
theorem info5 : (Try.prog.info? 5).map (fun i => (i.zero, i.size, i.bytes)) = some (some (.int .u8 0), 1, 1) := by kernel_rfl
theorem info46 : (Try.prog.info? 46).map (fun i => (i.zero, i.size, i.bytes)) = some (some (.int .u64 0), 1, 8) := by kernel_rfl
end Go.Proofs.Ytbmddlldadbfnaa.BP
end
section
namespace Go.Proofs.Ytbmddlldadbfnaa.BP
open Go.RowKit Go.Proofs.Ytbmddlldadbfnaa.BA Go.Proofs.Ytbmddlldadbfnaa.BB Go.Proofs.YtbmddlldadbfnaaW.PrintWords Go.Proofs.YtbmddlldadbfnaaW.PrintLast Go.Proofs.YtbmddlldadbfnaaW.PrintMore
attribute [local go_sem] ZU ZS max_two min_two ZP ZO ZT ZR
set_option linter.unusedVariables false
set_option linter.unusedSimpArgs false
def r00Int.f (k : Nat) (a0_0 : Bool) (l0_1 : List Int) : Option (Bool × List Int × Int) := (r00NatTrim.f k l0_1).bind fun t103 => (some (a0_0, t103, 0))
set_option maxHeartbeats 8000000 in
set_option maxRecDepth 100000 in
theorem r00Int.calls (k : Nat) (a0_0 : Bool) (A0_1 : Option Addr) (c0_1 : Nat) (l0_1 : List Int) (r1 : Bool) (r2 : List Int) (r3 : Int) (w : World) (hr0_1 : Kd.C (Kd.int .u64) w A0_1 l0_1.length l0_1) (hc0_1 : l0_1.length ≤ c0_1) (h : r00Int.f k a0_0 l0_1 = some (r1, r2, r3)) :
  Calls Try.prog 26 #[.agg #[.bool a0_0, .slice A0_1 l0_1.length c0_1]] w fun e w' => ∃ v1_ : Value, e = .returned (.agg #[.bool r1, v1_, .int .i64 r3]) ∧ Kd.R (Kd.int .u64) 46 w' w.heap.size (fun _ => True) v1_ r2 ∧ Below w.heap.size w w' := by
 have hu24 := Try.underlying24
 have hu48 := Try.underlying48
 have HR0_1 := Zb.mk hr0_1
 have HC0_1 := Zb.mk hc0_1
 clear hr0_1 hc0_1
 have HB := Zb.mk (Below.refl w.heap.size w)
 have H : ((r00NatTrim.f k l0_1).bind fun t103 => (some (a0_0, t103, 0))) = some (r1, r2, r3) := h
 clear h
 replace H := Option.bind_eq_some_iff.mp H
 obtain ⟨t103, A20, H⟩ := H
 replace H : (some (a0_0, t103, 0)) = some (r1, r2, r3) := H
 have A2 := Zb.mk A20
 clear A20
 simp only [Option.some.injEq, Prod.mk.injEq] at H
 obtain ⟨rfl, rfl, rfl⟩ := H
 go_enter Try.func26, Try.ntmps26
 try go_wp2_with (first | ((with_reducible refine Zt (N := 1) rfl ?_); refine Zs ?hg (N := 1) ?hd (cs := #[.bool a0_0, .slice A0_1 l0_1.length c0_1]) (t := 24) ?hr ?_; (case hd => rfl); (case hg => rfl); (case hr => first | (go_simp; done) | (go_simp; rfl)); intro gb101 hg w3 hbox hb; have n0_ := Zb.mk (Zl (by repeat (with_reducible first | exact HB.out | apply Zc | apply Za | apply Zd)) hb); have n1_ := Zb.mk (hbox); have n2_ := Zb.mk ((by rw [hg]; exact (Zi (by repeat (with_reducible first | exact HB.out | apply Zc | apply Za | apply Zd))) : w.heap.size ≤ gb101)); have n3_ := Zb.mk ((by rw [hg]; exact (Zi (by repeat (with_reducible first | exact HB.out | apply Zc | apply Za | apply Zd))) : w.heap.size ≤ gb101)); clear HB; have HB := n0_; have BK101 := n1_; have GW101 := n2_; have GE101 := n3_; clear n0_ n1_ n2_ n3_; clear hb hbox hg) | ((with_reducible refine Zt (N := 2) rfl ?_); refine Zs ?hg (N := 2) ?hd (cs := #[.bool false, .slice none 0 0, .int .i64 0]) (t := 48) ?hr ?_; (case hd => rfl); (case hg => rfl); (case hr => first | (go_simp; done) | (go_simp; rfl)); intro gb102 hg w4 hbox hb; have n0_ := Zb.mk (Zn (g := gb101) (o := .cells #[.bool a0_0, .slice A0_1 l0_1.length c0_1] 24 (0, 0)) (by (with_reducible repeat first | refine Ze ?_ _ | refine Zg ?_ | refine Zf ?_ _); exact BK101.out) hb); have n1_ := Zb.mk (Zl (by repeat (with_reducible first | exact HB.out | apply Zc | apply Za | apply Zd | refine Zh ?_ GE101.out)) hb); have n2_ := Zb.mk (hbox); have n3_ := Zb.mk ((by rw [hg]; exact (Zi (by repeat (with_reducible first | exact HB.out | apply Zc | apply Za | apply Zd | refine Zh ?_ GE101.out))) : w.heap.size ≤ gb102)); have n4_ := Zb.mk ((by rw [hg]; exact (Zi (by repeat (with_reducible first | exact HB.out | apply Zc | apply Za | apply Zd | refine Zh ?_ GE101.out))) : w.heap.size ≤ gb102)); have n5_ := Zb.mk ((by rw [hg]; exact Nat.ne_of_lt (Zw (g := gb101) (o := .cells #[.bool a0_0, .slice A0_1 l0_1.length c0_1] 24 (0, 0)) (by (with_reducible repeat first | refine Ze ?_ _ | refine Zg ?_ | refine Zf ?_ _); exact BK101.out)) : gb101 ≠ gb102)); have n6_ := Zb.mk ((by rw [hg]; exact Nat.ne_of_gt (Zw (g := gb101) (o := .cells #[.bool a0_0, .slice A0_1 l0_1.length c0_1] 24 (0, 0)) (by (with_reducible repeat first | refine Ze ?_ _ | refine Zg ?_ | refine Zf ?_ _); exact BK101.out)) : gb102 ≠ gb101)); clear BK101; clear HB; have BK101 := n0_; have HB := n1_; have BK102 := n2_; have GW102 := n3_; have GE102 := n4_; have NB101_102 := n5_; have NB102_101 := n6_; clear n0_ n1_ n2_ n3_ n4_ n5_ n6_; clear hb hbox hg))
 have n0_ := Zb.mk (Zg BK101.out)
 have n1_ := Zb.mk (Zg BK102.out)
 have n2_ := Zb.mk (Zd HB.out)
 clear BK101
 clear BK102
 clear HB
 have BK101 := n0_
 have BK102 := n1_
 have HB := n2_
 clear n0_ n1_ n2_
 refine start_ (n := 7) (S := fun w' => w'.cell? ⟨gb101, 0, none⟩ = some (.bool a0_0) ∧ w'.cell? ⟨gb101, 1, none⟩ = some (.slice A0_1 l0_1.length c0_1)) (ds := []) #[false, false, false, false, false, false, false] (by kernel_rfl) rfl rfl ⟨(Zk BK101.out 0).trans rfl, (Zk BK101.out 1).trans rfl⟩ (fun hHeld => ?_)
 generalize w4.drew = w5 at BK101 BK102 HB hHeld ⊢
 refine ZM (i := 0) (N := some 3) (v := ?_) (a' := ?_) #[true, false, false, false, false, false, false] rfl rfl (by kernel_rfl) (fun _ _ _ h => h) (Or.inl ⟨by rfl, ?_⟩) ?_ ?_
 rotate_left
 ·intro w'
  go_simp
  with_reducible rfl
 rotate_left
 ·simp only [Act.put, List.setIfInBounds_toArray, List.set_cons_zero, List.set_cons_succ, Zx, ZA]
  rfl
 refine ZM (i := 2) (N := some 5) (v := ?_) (a' := ?_) #[true, false, true, false, false, false, false] rfl rfl (by kernel_rfl) (fun _ _ _ h => h) (Or.inl ⟨by rfl, ?_⟩) ?_ ?_
 rotate_left
 ·intro w'
  go_simp
  with_reducible rfl
 rotate_left
 ·simp only [Act.put, List.setIfInBounds_toArray, List.set_cons_zero, List.set_cons_succ, Zx, ZA]
  rfl
 refine take_ (i := 1) (N := some 4) (v := ?_) (a' := ?_) #[true, true, true, false, false, false, false] rfl rfl (by kernel_rfl) (fun _ _ _ h => h) (Or.inl ⟨by rfl, ?_⟩) hHeld ?_ ?_
 rotate_left
 ·rintro w' ⟨s0, s1⟩
  go_simp
  with_reducible rfl
 rotate_left
 ·simp only [Act.put, List.setIfInBounds_toArray, List.set_cons_zero, List.set_cons_succ, Zx, ZA]
  rfl
 refine take_ (i := 3) (N := some 6) (v := ?_) (a' := ?_) #[true, true, true, true, false, false, false] rfl rfl (by kernel_rfl) (fun _ _ _ h => h) (Or.inl ⟨by rfl, ?_⟩) hHeld ?_ ?_
 rotate_left
 ·rintro w' ⟨s0, s1⟩
  go_simp
  with_reducible rfl
 rotate_left
 ·simp only [Act.put, List.setIfInBounds_toArray, List.set_cons_zero, List.set_cons_succ, Zx, ZA]
  rfl
 refine one_ (i := 4) (N := some 7) #[true, true, true, true, true, false, false] rfl rfl (by kernel_rfl) (by decide) (fun K hK => ?_)
 refine goes_ Try.func53 (by kernel_rfl) rfl #[.slice A0_1 l0_1.length c0_1] (by rfl) rfl rfl (by (try simp only [List.map_toArray, List.map_cons, List.map_nil]); first | done | rfl | (simp only [List.length_drop, List.length_take]; rfl)) ?_
 with_reducible refine (r00NatTrim.calls k _ _ l0_1 t103 _ ?side1 ?side2 A2.out).mono ?_
 (case side1 => repeat (first | exact (Kd.C_below HR0_1.out HB.out) | (with_reducible refine Kd.ZC ?_ _) | (with_reducible refine Kd.ZF ?_ _) | (with_reducible refine Kd.ZN ?_)))
 (case side2 => exact HC0_1.out)
 rintro e w6 ⟨v104, rfl, ho0, hb⟩
 refine ⟨_, rfl, ?_⟩
 have n0_ := Zb.mk (Kd.ZG ho0 (Zi (by repeat (with_reducible first | exact HB.out | apply Zc | apply Za | apply Zd | refine Zh ?_ GE101.out | refine Zh ?_ GE102.out))))
 have n1_ := Zb.mk (Zn (g := gb101) (o := .cells #[.bool a0_0, .slice A0_1 l0_1.length c0_1] 24 (0, 0)) (by (with_reducible repeat first | refine Ze ?_ _ | refine Zg ?_ | refine Zf ?_ _); exact BK101.out) hb)
 have n2_ := Zb.mk (Zn (g := gb102) (o := .cells #[.bool false, .slice none 0 0, .int .i64 0] 48 (0, 0)) (by (with_reducible repeat first | refine Ze ?_ _ | refine Zg ?_ | refine Zf ?_ _); exact BK102.out) hb)
 have n3_ := Zb.mk (Zl (by repeat (with_reducible first | exact HB.out | apply Zc | apply Za | apply Zd | refine Zh ?_ GE101.out | refine Zh ?_ GE102.out)) hb)
 clear BK101
 clear BK102
 clear HB
 have HO105 := n0_
 have BK101 := n1_
 have BK102 := n2_
 have HB := n3_
 clear n0_ n1_ n2_ n3_
 (try clear hb)
 (try clear hb2)
 (try clear hk)
 (try clear hi)
 (try clear ho0)
 obtain ⟨Ao7, co7, eo7⟩ := Kd.Zy HO105.out
 (first | subst eo7 | (injection eo7 with f1_ f2_ f3_; have f4_ := f1_.symm; have f5_ := f3_.symm; clear f1_ f2_ f3_; subst f4_; subst f5_))
 refine hK.out _ _ ⟨(Zk BK101.out 0).trans rfl, (Zk BK101.out 1).trans rfl⟩ (fun hHeld => ?_)
 clear hK K
 refine norm_ (a' := ?_) ?_ ?_
 rotate_left
 ·show Act.put _ (some 7) _ = _
  simp only [Act.put, List.setIfInBounds_toArray, List.set_cons_zero, List.set_cons_succ, Zx, ZA]
  rfl
 refine ZM (i := 5) (N := some 8) (v := ?_) (a' := ?_) #[true, true, true, true, true, true, false] rfl rfl (by kernel_rfl) (fun _ _ _ h => h) (Or.inl ⟨by rfl, ?_⟩) ?_ ?_
 rotate_left
 ·intro w'
  go_simp
  with_reducible rfl
 rotate_left
 ·simp only [Act.put, List.setIfInBounds_toArray, List.set_cons_zero, List.set_cons_succ, Zx, ZA]
  rfl
 refine one_ (i := 6) (N := none) #[true, true, true, true, true, true, true] rfl rfl (by kernel_rfl) (by decide) (fun K hK => ?_)
 have hs8 : w6.cell? ⟨gb102, 0, none⟩ = some (.bool false) := (Zk BK102.out 0).trans rfl
 have hfs8 := Zj BK102.out 0
 have hns8_0 := NB101_102.out
 have hms8_0 := NB102_101.out
 have hs9 : w6.cell? ⟨gb102, 1, none⟩ = some (.slice none 0 0) := (Zk BK102.out 1).trans rfl
 have hfs9 := Zj BK102.out 1
 have hns9_0 := NB101_102.out
 have hms9_0 := NB102_101.out
 have hs10 : w6.cell? ⟨gb102, 2, none⟩ = some (.int .i64 0) := (Zk BK102.out 2).trans rfl
 have hfs10 := Zj BK102.out 2
 have hns10_0 := NB101_102.out
 have hms10_0 := NB102_101.out
 refine skip_ (w1 := ?_) (by rfl) rfl ?_ ?_
 rotate_left
 ·go_simp
  rfl
 refine hK.out _ _ ⟨((cell_far (p := ⟨gb102, _, none⟩) NB101_102.out _).trans (((cell_far (p := ⟨gb102, _, none⟩) NB101_102.out _).trans (((cell_far (p := ⟨gb102, _, none⟩) NB101_102.out _).trans (hHeld.1)))))), ((cell_far (p := ⟨gb102, _, none⟩) NB101_102.out _).trans (((cell_far (p := ⟨gb102, _, none⟩) NB101_102.out _).trans (((cell_far (p := ⟨gb102, _, none⟩) NB101_102.out _).trans (hHeld.2))))))⟩ (fun hHeld => ?_)
 clear hK K
 refine done_ (by kernel_rfl) ?_
 try go_wp2
 refine bodyPost_ret (results_cell_row rfl _ _ gb102 48 #[.bool a0_0, .slice Ao7 t103.length co7, .int .i64 0] (0, 0) _ rfl (by (with_reducible repeat first | refine Ze ?_ _ | refine Zg ?_ | refine Zf ?_ _); refine Zu (cs := #[.bool a0_0, .slice Ao7 t103.length co7, .int .i64 0]) ?_ 2 _ rfl; (with_reducible repeat first | refine Ze ?_ _ | refine Zg ?_ | refine Zf ?_ _); refine Zu (cs := #[.bool a0_0, .slice none 0 0, .int .i64 0]) ?_ 1 _ rfl; (with_reducible repeat first | refine Ze ?_ _ | refine Zg ?_ | refine Zf ?_ _); refine Zu (cs := #[.bool false, .slice none 0 0, .int .i64 0]) ?_ 0 _ rfl; (with_reducible repeat first | refine Ze ?_ _ | refine Zg ?_ | refine Zf ?_ _); exact BK102.out) Try.underlying48 rfl (by kernel_rfl)) rfl ?_
 exact ⟨_, by first | rfl | (simp [errW_none, errW_some] <;> rfl) | (simp [*, errW_none, errW_some] <;> rfl), by (with_reducible repeat first | apply Kd.Zm | apply Kd.Zo); exact Kd.ZE (Kd.ZH (p := ⟨gb102, 2, none⟩) (Kd.ZH (p := ⟨gb102, 1, none⟩) (Kd.ZH (p := ⟨gb102, 0, none⟩) (Kd.ZI HO105.out BK102.out (by decide)) (fun _ hk => hk.2) (.bool a0_0)) (fun _ hk => hk.2) (.slice Ao7 t103.length co7)) (fun _ hk => hk.2) (.int .i64 0)) (fun _ hk => trivial), by repeat (with_reducible first | exact HB.out | apply Zc | apply Za | apply Zd | refine Zh ?_ GE101.out | refine Zh ?_ GE102.out)⟩
end Go.Proofs.Ytbmddlldadbfnaa.BP
end
section
namespace Go.Proofs.Ytbmddlldadbfnaa.BR
open Go.RowKit Go.Proofs.Ytbmddlldadbfnaa.BB Go.Proofs.Ytbmddlldadbfnaa.BD Go.Proofs.YtbmddlldadbfnaaW.PrintWords Go.Proofs.YtbmddlldadbfnaaW.PrintLast Go.Proofs.YtbmddlldadbfnaaW.PrintMore
open Go.Proofs.Ytbmddlldadbfnaa.BA (base_Parse.f base_Parse.calls)
attribute [local go_sem] ZU ZS max_two min_two ZP ZO ZT ZR
set_option linter.unusedVariables false
set_option linter.unusedSimpArgs false
set_option maxHeartbeats 4000000 in
set_option maxRecDepth 100000 in
theorem way_long (k : Nat) (s t : ByteArray) (a m b : Int) (w : World) (hof : w19of.f a = some b) (hs : s.size ≤ 140737488351232) (ht : t.size ≤ 140737488351232) (h : 2999 < s.size + t.size) (ha : w19awake.f k = some true) :
  Calls Try.prog 6 #[.string s, .string t, .int .i64 a, .int .i64 m] w fun e w' => e = .returned (.bool true) ∧ Below w.heap.size w w' := by
 have HA := Zb.mk ha
 have HO := Zb.mk hof
 have e0 : wrap64 ((s.size : Int) + (t.size : Int)) = (s.size : Int) + (t.size : Int) := by unfold wrap64; omega
 have d1 : decide ((2999 : Int) < (s.size : Int) + (t.size : Int)) = true := decide_eq_true (by omega)
 clear ha hof h
 go_enter Try.func6, Try.ntmps6
 go_wp2_with fail
 refine (w19of.calls a b _ HO.out).mono ?_
 rintro ev w1 ⟨rfl, ⟨nd, rfl⟩⟩
 go_wp2_with fail
 refine (w19awake.calls k true _ HA.out).mono ?_
 rintro ev w2 ⟨rfl, hb⟩
 go_wp2_with fail
 go_ret
 exact ⟨rfl, (Za (Below.refl _ _) nd).trans (hb.mono (by simp))⟩
def Two (n : Bool) (sx : Value) (f at_ : Int) (g1 g2 : Nat) (w W : World) : Prop :=
 W.heap[g1]? = some (.cells #[.bool n, sx] 24 (0, 0)) ∧ W.heap[g2]? = some (.cells #[.int .i64 f, .int .i64 at_] 35 (0, 0)) ∧ Below w.heap.size w W
theorem Two.next {n : Bool} {sx : Value} {f at_ : Int} {g1 g2 : Nat} {w W W' : World} (h : Two n sx f at_ g1 g2 w W) (hb : Below W.heap.size W W') : Two n sx f at_ g1 g2 w W' := by
 obtain ⟨h1, h2, h5⟩ := h
 exact ⟨Zn h1 hb, Zn h2 hb, h5.trans (hb.mono h5.size)⟩
theorem Two.cells {n : Bool} {sx : Value} {f at_ : Int} {g1 g2 : Nat} {w W : World} (h : Two n sx f at_ g1 g2 w W) :
  W.cell? ⟨g1, 0, none⟩ = some (.bool n) ∧ W.cell? ⟨g1, 1, none⟩ = some sx ∧ W.cell? ⟨g2, 0, none⟩ = some (.int .i64 f) ∧ W.cell? ⟨g2, 1, none⟩ = some (.int .i64 at_) := by
 obtain ⟨h1, h2, _⟩ := h
 exact ⟨(Zk h1 0).trans rfl, (Zk h1 1).trans rfl, (Zk h2 0).trans rfl, (Zk h2 1).trans rfl⟩
theorem Two.below {n : Bool} {sx : Value} {f at_ : Int} {g1 g2 : Nat} {w W : World} (h : Two n sx f at_ g1 g2 w W) : Below w.heap.size w W := h.2.2
set_option maxHeartbeats 4000000 in
set_option maxRecDepth 100000 in
theorem way_bad (k : Nat) (s t : ByteArray) (a m b at_ : Int) (n n' : Bool) (l l' : List Int) (w : World) (hof : w19of.f a = some b) (hs : s.size + t.size ≤ 2999) (h : at_ < (s.size : Int))
  (hp : base_Parse.f k s b = some (n, l, 9, at_)) (hq : base_Parse.f k (s ++ t) b = some (n', l', 9, at_)) (ha : w19awake.f k = some true) :
  Calls Try.prog 6 #[.string s, .string t, .int .i64 a, .int .i64 m] w fun e w' => e = .returned (.bool true) ∧ Below w.heap.size w w' := by
 have HA := Zb.mk ha
 have HO := Zb.mk hof
 have HP := Zb.mk hp
 have HQ := Zb.mk hq
 have hu24 := Try.underlying24
 have hu35 := Try.underlying35
 have e0 : wrap64 ((s.size : Int) + (t.size : Int)) = (s.size : Int) + (t.size : Int) := by unfold wrap64; omega
 have d1 : decide ((2999 : Int) < (s.size : Int) + (t.size : Int)) = false := decide_eq_false (by omega)
 have d2 : decide (at_ < (s.size : Int)) = true := decide_eq_true h
 have hcat : ¬ (9223372036854775807 < s.size + t.size) := by omega
 clear ha hof h hp hq hs
 go_enter Try.func6, Try.ntmps6
 go_wp2_with fail
 refine (w19of.calls a b _ HO.out).mono ?_
 rintro ev w1 ⟨rfl, ⟨nd, rfl⟩⟩
 go_wp2_with fail
 refine (base_Parse.calls k s b n l 9 at_ _ HP.out).mono ?_
 rintro ev w2 ⟨v, rfl, hv, hb⟩
 obtain ⟨Ax, cx, rfl, hcx, hCx⟩ := Kd.R_reads hv
 have HB := Zb.mk ((Za (Below.refl w.heap.size w) nd).trans (hb.mono (by simp)))
 clear hv hb hCx
 go_wp2_with fail
 refine (base_Parse.calls k (s ++ t) b n' l' 9 at_ _ HQ.out).mono ?_
 rintro ev w3 ⟨v, rfl, hv, hb⟩
 obtain ⟨Ay, cy, rfl, hcy, hCy⟩ := Kd.R_reads hv
 have ST : Zb (Two n (.slice Ax l.length cx) 9 at_ w2.heap.size (w2.heap.size + 1) w w3) := ⟨⟨Zn (Zf (blk_new _ _) _) hb, Zn (by have := blk_new (w2.alloc (Obj.cells #[Value.bool n, Value.slice Ax l.length cx] 24)) (Obj.cells #[Value.int IntKind.i64 9, Value.int IntKind.i64 at_] 35); rw [show (w2.alloc (Obj.cells #[Value.bool n, Value.slice Ax l.length cx] 24)).heap.size = w2.heap.size + 1 by simp] at this; exact this) hb, (Zc (Zc HB.out _) _).trans (hb.mono (by have := HB.out.size; simp; omega))⟩⟩
 clear hv hb hCy HB
 obtain ⟨hx0, hx1, hf0, hf1⟩ := ST.out.cells
 have lt1 : w2.heap.size + 1 < w3.heap.size := Zw ST.out.2.1
 have lt2 : w2.heap.size + 1 < w3.heap.size + 1 := by omega
 have lt3 : w2.heap.size < w3.heap.size := by omega
 have lt4 : w2.heap.size < w3.heap.size + 1 := by omega
 go_wp2_with fail
 refine (w19awake.calls k true _ HA.out).mono ?_
 rintro ev w4 ⟨rfl, hb⟩
 go_wp2_with fail
 go_ret
 exact ⟨rfl, (Zc (Zc ST.out.below _) _).trans (hb.mono (by have := ST.out.below.size; simp; omega))⟩
set_option maxHeartbeats 4000000 in
set_option maxRecDepth 100000 in
theorem way_end (k : Nat) (s t : ByteArray) (a m b at_ : Int) (n : Bool) (l : List Int) (w : World) (hof : w19of.f a = some b) (hs : s.size + t.size ≤ 2999) (h : at_ = (s.size : Int))
  (hp : base_Parse.f k s b = some (n, l, 9, at_)) (ha : w19awake.f k = some true) :
  Calls Try.prog 6 #[.string s, .string t, .int .i64 a, .int .i64 m] w fun e w' => e = .returned (.bool true) ∧ Below w.heap.size w w' := by
 have HA := Zb.mk ha
 have HO := Zb.mk hof
 have HP := Zb.mk hp
 have hu24 := Try.underlying24
 have hu35 := Try.underlying35
 have e0 : wrap64 ((s.size : Int) + (t.size : Int)) = (s.size : Int) + (t.size : Int) := by unfold wrap64; omega
 have d1 : decide ((2999 : Int) < (s.size : Int) + (t.size : Int)) = false := decide_eq_false (by omega)
 have d2 : decide (at_ < (s.size : Int)) = false := decide_eq_false (by omega)
 have d3 : (at_ == (s.size : Int)) = true := by simp [h]
 clear ha hof h hp hs
 go_enter Try.func6, Try.ntmps6
 go_wp2_with fail
 refine (w19of.calls a b _ HO.out).mono ?_
 rintro ev w1 ⟨rfl, ⟨nd, rfl⟩⟩
 go_wp2_with fail
 refine (base_Parse.calls k s b n l 9 at_ _ HP.out).mono ?_
 rintro ev w2 ⟨v, rfl, hv, hb⟩
 obtain ⟨Ax, cx, rfl, hcx, hCx⟩ := Kd.R_reads hv
 have HB := Zb.mk ((Za (Below.refl w.heap.size w) nd).trans (hb.mono (by simp)))
 clear hv hb hCx
 go_wp2_with fail
 refine (w19awake.calls k true _ HA.out).mono ?_
 rintro ev w4 ⟨rfl, hb⟩
 go_wp2_with fail
 go_ret
 exact ⟨rfl, (Zc (Zc HB.out _) _).trans (hb.mono (by have := HB.out.size; simp; omega))⟩
theorem after_drew {X w5 : World} (hb : Below X.drew.heap.size X.drew w5) : Below X.heap.size X w5 := (Zd (Below.refl X.heap.size X)).trans hb
theorem after_alloc {X w5 : World} {o : Obj} (hb : Below (X.alloc o).drew.heap.size (X.alloc o).drew w5) : Below X.heap.size X w5 := (Zd (Zc (Below.refl X.heap.size X) o)).trans (hb.mono (by show X.heap.size ≤ (X.alloc o).heap.size; simp))
theorem after_new {X w5 : World} {o : Obj} (hb : Below (X.alloc o).drew.heap.size (X.alloc o).drew w5) : w5.heap[X.heap.size]? = some o := Zn (Zg (blk_new X o)) hb
theorem after_alloc2 {X w5 : World} {o : Obj} (hb : Below (X.alloc o).heap.size (X.alloc o) w5) : Below X.heap.size X w5 := (Zc (Below.refl X.heap.size X) o).trans (hb.mono (by simp))
theorem after_new2 {X w5 : World} {o : Obj} (hb : Below (X.alloc o).heap.size (X.alloc o) w5) : w5.heap[X.heap.size]? = some o := Zn (blk_new X o) hb
theorem C_put {w : World} {A : Option Addr} {xs : List Int} {g : Nat} {cells : Array Value} (h : Kd.C (Kd.int .u64) w A xs.length xs) (ha : Apart48 w A) (hg : w.heap[g]? = some (.cells cells 48 (0, 0))) (u0 u1 u2 : Value) :
  Kd.C (Kd.int .u64) (((w.setCell ⟨g, 0, none⟩ u0).setCell ⟨g, 1, none⟩ u1).setCell ⟨g, 2, none⟩ u2) A xs.length xs := by
 obtain ⟨h1, h2, h3⟩ := Kd.reads_of_C (d := (0 : Int)) h
 refine Kd.C_of_reads (d := (0 : Int)) (h1 := fun _ => rfl) ⟨h1, h2, fun hn => ?_⟩
 obtain ⟨a2, e2, hd⟩ := h3 hn
 have hne := (ha a2 e2).2 g cells hg
 refine ⟨a2, e2, fun j hj => ?_⟩
 have e : (a2.add j).block = a2.block := by unfold Addr.add; split <;> rfl
 have hf : ∀ (W : World) (i : Nat) (u : Value), (W.setCell ⟨g, i, none⟩ u).cell? (a2.add j) = W.cell? (a2.add j) := fun W i u => cell_far (a := a2.add j) (p := ⟨g, i, none⟩) (by rw [e]; exact hne) u
 rw [hf, hf, hf]
 exact hd j hj
theorem plus_any (k : Nat) (n : Bool) (A0 A1 : Option Addr) (c0 c1 : Nat) (l0 l1 u : List Int) (w : World) (hr0 : Kd.C (Kd.int .u64) w A0 l0.length l0) (hc0 : l0.length ≤ c0) (hr1 : Kd.C (Kd.int .u64) w A1 l1.length l1) (hc1 : l1.length ≤ c1) (hap : Apart48 w A0)
  (hz : r00Num_Zero.f k n l0 0 = some false) (h : (r00Num_Zero.f k n l1 0 = some true ∧ u = l0) ∨ (∃ du, r00Num_Zero.f k n l1 0 = some false ∧ r00NatUp.f k l1 0 = some du ∧ r00NatAdd.f k l0 du = some u)) :
  Calls Try.prog 24 #[.agg #[.bool n, .slice A0 l0.length c0, .int .i64 0], .agg #[.bool n, .slice A1 l1.length c1, .int .i64 0]] w fun e w' => ∃ A c, e = .returned (.agg #[.bool n, .slice A u.length c, .int .i64 0]) ∧ u.length ≤ c ∧ Kd.C (Kd.int .u64) w' A u.length u ∧ Below w.heap.size w w' ∧ Apart48 w' A := by
 rcases h with ⟨h1, rfl⟩ | ⟨du, h1, h2, h3⟩
 ·refine (plus_zero k n n A0 A1 c0 c1 u l1 0 0 w hr0 hc0 hr1 hc1 hz h1).mono ?_
  rintro e w' ⟨rfl, hb⟩
  exact ⟨A0, c0, rfl, hc0, Kd.C_below hr0 hb, hb, hap.next hb⟩
 ·refine (plus_same k n A0 A1 c0 c1 l0 l1 du u w hr0 hc0 hr1 hc1 hz h1 h2 h3).mono ?_
  rintro e w' ⟨A, c, rfl, hc, hC, hb, ha⟩
  exact ⟨A, c, rfl, hc, hC, hb, ha⟩
def digs : ByteArray := (⟨#[48, 49, 50, 51, 52, 53, 54, 55, 56, 57, 97, 98, 99, 100, 101, 102, 103, 104, 105, 106, 107, 108, 109, 110, 111, 112, 113, 114, 115, 116, 117, 118, 119, 120, 121, 122]⟩ : ByteArray)
set_option maxHeartbeats 4000000 in
set_option maxRecDepth 100000 in
theorem way_nought (k : Nat) (s t : ByteArray) (a m b d : Int) (n n' : Bool) (l' : List Int) (w : World) (hof : w19of.f a = some b) (hs : s.size + t.size ≤ 2999) (hpk : rkPick.f m b = some d) (hd0 : 0 ≤ d) (hd1 : d < 36)
  (hp : base_Parse.f k s b = some (n, [], 0, 0)) (hq : base_Parse.f k (s ++ digs.extract d.toNat (d + 1).toNat) b = some (n', l', 9, 1)) (ha : w19awake.f k = some true) :
  Calls Try.prog 6 #[.string s, .string t, .int .i64 a, .int .i64 m] w fun e w' => e = .returned (.bool true) ∧ Below w.heap.size w w' := by
 have HA := Zb.mk ha
 have HO := Zb.mk hof
 have HP := Zb.mk hp
 have HQ := Zb.mk hq
 have HK := Zb.mk hpk
 have hu24 := Try.underlying24
 have hu35 := Try.underlying35
 have e0 : wrap64 ((s.size : Int) + (t.size : Int)) = (s.size : Int) + (t.size : Int) := by unfold wrap64; omega
 have d1 : decide ((2999 : Int) < (s.size : Int) + (t.size : Int)) = false := decide_eq_false (by omega)
 have e1 : wrap64 (d + 1) = d + 1 := by unfold wrap64; omega
 have d2 : 0 ≤ d + 1 := by omega
 have d3 : d ≤ d + 1 := by omega
 have d4 : d + 1 ≤ 36 := by omega
 have hcat : ∀ x : ByteArray, x.size ≤ 36 → ¬ (9223372036854775807 < s.size + x.size) := by intro x hx; omega
 clear ha hof hp hq hpk
 go_enter Try.func6, Try.ntmps6
 go_wp2_with fail
 refine (w19of.calls a b _ HO.out).mono ?_
 rintro ev w1 ⟨rfl, ⟨nd, rfl⟩⟩
 go_wp2_with fail
 refine (base_Parse.calls k s b n [] 0 0 _ HP.out).mono ?_
 rintro ev w2 ⟨v, rfl, hv, hb⟩
 obtain ⟨Ax, cx, rfl, hcx, hCx⟩ := Kd.R_reads hv
 have HB := Zb.mk ((Za (Below.refl w.heap.size w) nd).trans (hb.mono (by simp)))
 clear hv hb hCx
 go_wp2_with fail
 refine (rkPick.calls m b d _ HK.out).mono ?_
 rintro ev w3 ⟨rfl, ⟨nd2, rfl⟩⟩
 go_wp2_with fail
 have ST : Zb (Two n (.slice Ax 0 cx) 0 0 w2.heap.size (w2.heap.size + 1) w (((w2.alloc (Obj.cells #[Value.bool n, Value.slice Ax 0 cx] 24)).alloc (Obj.cells #[Value.int IntKind.i64 0, Value.int IntKind.i64 0] 35)).drewN nd2)) := ⟨⟨Ze (Zf (blk_new _ _) _) _, Ze (by have := blk_new (w2.alloc (Obj.cells #[Value.bool n, Value.slice Ax 0 cx] 24)) (Obj.cells #[Value.int IntKind.i64 0, Value.int IntKind.i64 0] 35); rw [show (w2.alloc (Obj.cells #[Value.bool n, Value.slice Ax 0 cx] 24)).heap.size = w2.heap.size + 1 by simp] at this; exact this) _, Za (Zc (Zc HB.out _) _) _⟩⟩
 refine (base_Parse.calls k (s ++ digs.extract d.toNat (d + 1).toNat) b n' l' 9 1 _ HQ.out).mono ?_
 rintro ev w4 ⟨v, rfl, hv, hb⟩
 obtain ⟨Ay, cy, rfl, hcy, hCy⟩ := Kd.R_reads hv
 replace ST := Zb.mk (ST.out.next hb)
 clear hv hb hCy HB
 obtain ⟨hx0, hx1, hf0, hf1⟩ := ST.out.cells
 have lt1 : w2.heap.size + 1 < w4.heap.size := Zw ST.out.2.1
 have lt2 : w2.heap.size + 1 < w4.heap.size + 1 := by omega
 have lt3 : w2.heap.size < w4.heap.size := by omega
 have lt4 : w2.heap.size < w4.heap.size + 1 := by omega
 go_wp2_with fail
 refine (w19awake.calls k true _ HA.out).mono ?_
 rintro ev w5 ⟨rfl, hb⟩
 go_wp2_with fail
 go_ret
 exact ⟨rfl, (Zc (Zc ST.out.below _) _).trans (hb.mono (by have := ST.out.below.size; simp; omega))⟩
end Go.Proofs.Ytbmddlldadbfnaa.BR
end
section
namespace Go.Proofs.Ytbmddlldadbfnaa.BR
open Go.RowKit Go.Proofs.Ytbmddlldadbfnaa.BB Go.Proofs.Ytbmddlldadbfnaa.BD Go.Proofs.YtbmddlldadbfnaaW.PrintWords Go.Proofs.YtbmddlldadbfnaaW.PrintLast Go.Proofs.YtbmddlldadbfnaaW.PrintMore
open Go.Proofs.Ytbmddlldadbfnaa.BA (base_Parse.f base_Parse.calls)
attribute [local go_sem] ZU ZS max_two min_two ZP ZO ZT ZR
set_option linter.unusedVariables false
set_option linter.unusedSimpArgs false
set_option maxHeartbeats 8000000 in
set_option maxRecDepth 100000 in
theorem way_more (k : Nat) (s t : ByteArray) (a m b d : Int) (n : Bool) (l bl tl dl ul yl : List Int) (w : World) (hof : w19of.f a = some b) (hs : s.size + t.size ≤ 2999) (hpk : rkPick.f m b = some d) (hd0 : 0 ≤ d) (hd1 : d < 36) (hne : 0 < l.length)
  (hp : base_Parse.f k s b = some (n, l, 0, 0)) (hq : base_Parse.f k (s ++ digs.extract d.toNat (d + 1).toNat) b = some (n, yl, 0, 0))
  (hdl : r00NatOf.f k d = some dl) (hil : BP.r00Int.f k n l = some (n, l, 0)) (hbl : r00Whole.f k b = some (false, bl, 0)) (htl : r00Times.f k n l 0 false bl 0 = some (n, tl, 0))
  (hz : r00Num_Zero.f k n tl 0 = some false) (hpl : (r00Num_Zero.f k n dl 0 = some true ∧ ul = tl) ∨ (∃ du, r00Num_Zero.f k n dl 0 = some false ∧ r00NatUp.f k dl 0 = some du ∧ r00NatAdd.f k tl du = some ul))
  (hyl : BP.r00Int.f k n yl = some (n, yl, 0)) (hcm : BC.r00Compare.f k n yl 0 n ul 0 = some 0) (ha : w19awake.f k = some true) :
  Calls Try.prog 6 #[.string s, .string t, .int .i64 a, .int .i64 m] w fun e w' => e = .returned (.bool true) ∧ Below w.heap.size w w' := by
 have HA := Zb.mk ha
 have HO := Zb.mk hof
 have HP := Zb.mk hp
 have HQ := Zb.mk hq
 have HK := Zb.mk hpk
 have HDL := Zb.mk hdl
 have HIL := Zb.mk hil
 have HBL := Zb.mk hbl
 have HTL := Zb.mk htl
 have HZ := Zb.mk hz
 have HPL := Zb.mk hpl
 have HYL := Zb.mk hyl
 have HCM := Zb.mk hcm
 have hu24 := Try.underlying24
 have hu35 := Try.underlying35
 have hu48 := Try.underlying48
 have e0 : wrap64 ((s.size : Int) + (t.size : Int)) = (s.size : Int) + (t.size : Int) := by unfold wrap64; omega
 have d1 : decide ((2999 : Int) < (s.size : Int) + (t.size : Int)) = false := decide_eq_false (by omega)
 have e1 : wrap64 (d + 1) = d + 1 := by unfold wrap64; omega
 have eu : IntKind.u64.wrap d = d := by rw [IntKind.wrap_u64]; omega
 have d2 : 0 ≤ d + 1 := by omega
 have d3 : d ≤ d + 1 := by omega
 have d4 : d + 1 ≤ 36 := by omega
 have d5 : ((l.length : Int) == 0) = false := beq_false_of_ne (by omega)
 have d6 : (l.length == 0) = false := beq_false_of_ne (by omega)
 have hcat : ∀ x : ByteArray, x.size ≤ 36 → ¬ (9223372036854775807 < s.size + x.size) := by intro x hx; omega
 clear ha hof hp hq hpk hdl hil hbl htl hz hpl hyl hcm
 go_enter Try.func6, Try.ntmps6
 go_wp2_with fail
 refine (w19of.calls a b _ HO.out).mono ?_
 rintro ev w1 ⟨rfl, ⟨nd, rfl⟩⟩
 go_wp2_with fail
 refine (base_Parse.calls k s b n l 0 0 _ HP.out).mono ?_
 rintro ev w2 ⟨v, rfl, hv, hb⟩
 obtain ⟨Ax, cx, rfl, hcx, hCx⟩ := Kd.R_reads hv
 have HX := Zb.mk hCx
 have HB := Zb.mk ((Za (Below.refl w.heap.size w) nd).trans (hb.mono (by simp)))
 clear hv hb hCx
 go_wp2_with fail
 refine (rkPick.calls m b d _ HK.out).mono ?_
 rintro ev w3 ⟨rfl, ⟨nd2, rfl⟩⟩
 go_wp2_with fail
 have ST : Zb (Two n (.slice Ax l.length cx) 0 0 w2.heap.size (w2.heap.size + 1) w (((w2.alloc (Obj.cells #[Value.bool n, Value.slice Ax l.length cx] 24)).alloc (Obj.cells #[Value.int IntKind.i64 0, Value.int IntKind.i64 0] 35)).drewN nd2)) := ⟨⟨Ze (Zf (blk_new _ _) _) _, Ze (by have := blk_new (w2.alloc (Obj.cells #[Value.bool n, Value.slice Ax l.length cx] 24)) (Obj.cells #[Value.int IntKind.i64 0, Value.int IntKind.i64 0] 35); rw [show (w2.alloc (Obj.cells #[Value.bool n, Value.slice Ax l.length cx] 24)).heap.size = w2.heap.size + 1 by simp] at this; exact this) _, Za (Zc (Zc HB.out _) _) _⟩⟩
 replace HX := Zb.mk (Kd.ZF (Kd.ZC (Kd.ZC HX.out (Obj.cells #[Value.bool n, Value.slice Ax l.length cx] 24)) (Obj.cells #[Value.int IntKind.i64 0, Value.int IntKind.i64 0] 35)) nd2)
 refine (base_Parse.calls k (s ++ digs.extract d.toNat (d + 1).toNat) b n yl 0 0 _ HQ.out).mono ?_
 rintro ev w4 ⟨v, rfl, hv, hb⟩
 obtain ⟨Ay, cy, rfl, hcy, hCy⟩ := Kd.R_reads hv
 replace ST := Zb.mk (ST.out.next hb)
 replace HX := Zb.mk (Kd.C_below HX.out hb)
 have HY := Zb.mk hCy
 clear hv hb hCy HB
 obtain ⟨hx0, hx1, hf0, hf1⟩ := ST.out.cells
 have lt1 : w2.heap.size + 1 < w4.heap.size := Zw ST.out.2.1
 have lt2 : w2.heap.size + 1 < w4.heap.size + 1 := by omega
 have lt3 : w2.heap.size < w4.heap.size := by omega
 have lt4 : w2.heap.size < w4.heap.size + 1 := by omega
 go_wp2_with fail
 clear lt1 lt2 lt3 lt4 hx0 hx1 hf0 hf1
 have ex : ∃ X : World, X = ((w4.alloc (Obj.cells #[Value.bool n, Value.slice Ay yl.length cy] 24)).alloc (Obj.cells #[Value.int IntKind.i64 0, Value.int IntKind.i64 0] 35)) := ⟨_, rfl⟩
 obtain ⟨X, hX⟩ := ex
 have BX := Zb.mk (show X.heap[w2.heap.size]? = some (.cells #[.bool n, .slice Ax l.length cx] 24 (0, 0)) from by rw [hX]; exact Zf (Zf ST.out.1 _) _)
 have BY := Zb.mk (show X.heap[w4.heap.size]? = some (.cells #[.bool n, .slice Ay yl.length cy] 24 (0, 0)) from by rw [hX]; exact Zf (blk_new _ _) _)
 have BF := Zb.mk (show X.heap[w4.heap.size + 1]? = some (.cells #[.int .i64 0, .int .i64 0] 35 (0, 0)) from by
  rw [hX]
  have := blk_new (w4.alloc (Obj.cells #[Value.bool n, Value.slice Ay yl.length cy] 24)) (Obj.cells #[Value.int IntKind.i64 0, Value.int IntKind.i64 0] 35)
  rw [show (w4.alloc (Obj.cells #[Value.bool n, Value.slice Ay yl.length cy] 24)).heap.size = w4.heap.size + 1 by simp] at this
  exact this)
 have HB := Zb.mk (show Below w.heap.size w X from by rw [hX]; exact Zc (Zc ST.out.below _) _)
 replace HX := Zb.mk (show Kd.C (Kd.int .u64) X Ax l.length l from by rw [hX]; exact Kd.ZC (Kd.ZC HX.out _) _)
 replace HY := Zb.mk (show Kd.C (Kd.int .u64) X Ay yl.length yl from by rw [hX]; exact Kd.ZC (Kd.ZC HY.out _) _)
 rw [← hX]
 have hx0 : X.cell? ⟨w2.heap.size, 0, none⟩ = some (.bool n) := (Zk BX.out 0).trans rfl
 have hx0' : X.drew.cell? ⟨w2.heap.size, 0, none⟩ = some (.bool n) := hx0
 have ne0 := World.new_ne X _ hx0
 clear hX ST
 go_upto_region 14 with fail
 go_cut [16] (fun s16 wx => ∃ (gp : Nat) (Ad : Option Addr) (cd : Nat), s16 = .pointer (some ⟨gp, 0, none⟩) ∧ Zb (wx.heap[gp]? = some (.cells #[.bool n, .slice Ad dl.length cd, .int .i64 0] 48 (0, 0))) ∧ Zb (dl.length ≤ cd) ∧ Zb (Kd.C (Kd.int .u64) wx Ad dl.length dl) ∧ Zb (Below X.heap.size X wx))
 case first =>
  go_region_held3 (fun w' => w'.cell? ⟨w2.heap.size, 0, none⟩ = some (.bool n)) (first | exact hx0' | exact kx0 | go_keep)
   (first | (go_at_call 23; refine (r00NatOf.calls k d dl _ HDL.out).mono ?_; rintro ev w5 ⟨v, rfl, hv, hb⟩; obtain ⟨Ad, cd, rfl, hcd, hCd⟩ := Kd.R_reads hv; have HB5 : Below X.heap.size X w5 := (by first | exact after_drew hb | exact after_alloc hb); have kx0 : w5.cell? ⟨w2.heap.size, 0, none⟩ = some (.bool n) := (Zk (Zn BX.out HB5) 0).trans rfl; (first | have BPz : w5.heap[X.heap.size]? = some (Obj.cells #[Value.bool false, Value.slice none 0 0, Value.int IntKind.i64 0] 48) := after_new hb | skip); (first | have p0 : w5.cell? ⟨X.heap.size, 0, none⟩ = some (.bool false) := (Zk BPz 0).trans rfl | skip); (first | have p1 : w5.cell? ⟨X.heap.size, 1, none⟩ = some (.slice none 0 0) := (Zk BPz 1).trans rfl | skip); (first | have p2 : w5.cell? ⟨X.heap.size, 2, none⟩ = some (.int .i64 0) := (Zk BPz 2).trans rfl | skip); (first | have q0 := Zj BPz 0 | skip); (first | have q1 := Zj BPz 1 | skip); (first | have q2 := Zj BPz 2 | skip); have ne5 := World.new_ne w5 _ kx0))
  all_goals
   go_wp2_with fail
   go_meet
   first
    | exact ⟨w5.heap.size, Ad, cd, rfl, ⟨blk_new _ _⟩, ⟨hcd⟩, ⟨Kd.ZC hCd _⟩, ⟨Zc HB5 _⟩⟩
    | exact ⟨X.heap.size, Ad, cd, rfl, ⟨Zu (Zu (Zu BPz 0 _ rfl) 1 _ rfl) 2 _ rfl⟩, ⟨hcd⟩, ⟨C_put hCd (Apart48.of hv) BPz _ _ _⟩, ⟨Zh (Zh (Zh HB5 (Nat.le_refl _)) (Nat.le_refl _)) (Nat.le_refl _)⟩⟩
 case rest =>
  obtain ⟨gp, Ad, cd, rfl, BU, HCD, HD, HBc⟩ := hcut
  replace BX := Zb.mk (Zn BX.out HBc.out)
  replace BY := Zb.mk (Zn BY.out HBc.out)
  replace BF := Zb.mk (Zn BF.out HBc.out)
  replace HX := Zb.mk (Kd.C_below HX.out HBc.out)
  replace HY := Zb.mk (Kd.C_below HY.out HBc.out)
  replace HB := Zb.mk (HB.out.trans (HBc.out.mono HB.out.size))
  clear HBc hx0 hx0' ne0
  have hx0 : wc.cell? ⟨w2.heap.size, 0, none⟩ = some (.bool n) := (Zk BX.out 0).trans rfl
  have hx1 : wc.cell? ⟨w2.heap.size, 1, none⟩ = some (.slice Ax l.length cx) := (Zk BX.out 1).trans rfl
  have hp0 : wc.cell? ⟨gp, 0, none⟩ = some (.bool n) := (Zk BU.out 0).trans rfl
  have hp1 : wc.cell? ⟨gp, 1, none⟩ = some (.slice Ad dl.length cd) := (Zk BU.out 1).trans rfl
  have hp2 : wc.cell? ⟨gp, 2, none⟩ = some (.int .i64 0) := (Zk BU.out 2).trans rfl
  have ne1 := World.new_ne wc _ hx0
  have ne2 := World.new_ne wc _ hp0
  have Kw : Zb (∀ W : World, W = wc.drew → W.cell? ⟨w2.heap.size, 0, none⟩ = some (.bool n) ∧ W.cell? ⟨w2.heap.size, 1, none⟩ = some (.slice Ax l.length cx) ∧ W.cell? ⟨gp, 0, none⟩ = some (.bool n) ∧ W.cell? ⟨gp, 1, none⟩ = some (.slice Ad dl.length cd) ∧ W.cell? ⟨gp, 2, none⟩ = some (.int .i64 0)) := ⟨fun W h => by subst h; exact ⟨hx0, hx1, hp0, hp1, hp2⟩⟩
  go_upto_region 15 with fail
  go_cut [17] (fun s17 wx => ∃ (gw : Nat) (Aw : Option Addr) (cw : Nat), s17 = .pointer (some ⟨gw, 0, none⟩) ∧ Zb (wx.heap[gw]? = some (.cells #[.bool n, .slice Aw ul.length cw, .int .i64 0] 48 (0, 0))) ∧ Zb (ul.length ≤ cw) ∧ Zb (Kd.C (Kd.int .u64) wx Aw ul.length ul) ∧ Zb (Below wc.heap.size wc wx))
  case first =>
   go_region_held3 (fun w' => w'.cell? ⟨w2.heap.size, 0, none⟩ = some (.bool n) ∧ w'.cell? ⟨w2.heap.size, 1, none⟩ = some (.slice Ax l.length cx) ∧ w'.cell? ⟨gp, 0, none⟩ = some (.bool n) ∧ w'.cell? ⟨gp, 1, none⟩ = some (.slice Ad dl.length cd) ∧ w'.cell? ⟨gp, 2, none⟩ = some (.int .i64 0)) (first | exact Kw.out _ rfl | exact ⟨k0w9, k1w9, k2w9, k3w9, k4w9⟩ | exact ⟨k0w8, k1w8, k2w8, k3w8, k4w8⟩ | exact ⟨k0w7, k1w7, k2w7, k3w7, k4w7⟩ | exact ⟨k0w6, k1w6, k2w6, k3w6, k4w6⟩ | go_keep)
    (first | (go_at_call 26; refine (BP.r00Int.calls k n Ax cx l n l 0 _ (by first | exact Kd.C_below HX.out (Zd (Below.refl wc.heap.size wc)) | exact Kd.C_below HX.out (Zd (Zc (Below.refl wc.heap.size wc) _))) hcx HIL.out).mono ?_; rintro ev w6 ⟨v, rfl, hv, hb⟩; obtain ⟨Ai, ci, rfl, hci, hCi⟩ := Kd.R_reads hv; have HBn : Below wc.heap.size wc w6 := (by first | exact after_drew hb | exact after_alloc hb); have HYw6 : Below wc.heap.size wc w6 := HBn; have k0w6 : w6.cell? ⟨w2.heap.size, 0, none⟩ = some (.bool n) := (Zk (Zn BX.out HYw6) 0).trans rfl; have k1w6 : w6.cell? ⟨w2.heap.size, 1, none⟩ = some (.slice Ax l.length cx) := (Zk (Zn BX.out HYw6) 1).trans rfl; have k2w6 : w6.cell? ⟨gp, 0, none⟩ = some (.bool n) := (Zk (Zn BU.out HYw6) 0).trans rfl; have k3w6 : w6.cell? ⟨gp, 1, none⟩ = some (.slice Ad dl.length cd) := (Zk (Zn BU.out HYw6) 1).trans rfl; have k4w6 : w6.cell? ⟨gp, 2, none⟩ = some (.int .i64 0) := (Zk (Zn BU.out HYw6) 2).trans rfl; have ne1w6 := World.new_ne w6 _ k0w6; have ne2w6 := World.new_ne w6 _ k2w6; (first | have BZ := Zn BZ HBn | have BZ : w6.heap[wc.heap.size]? = some (Obj.cells #[Value.bool false, Value.slice none 0 0, Value.int IntKind.i64 0] 48) := after_new hb | skip); clear hb hv HBn) | (go_at_call 27; refine (r00Whole.calls k b false bl 0 _ HBL.out).mono ?_; rintro ev w7 ⟨v, rfl, hv, hb⟩; obtain ⟨Ab, cb, rfl, hcb, hCb⟩ := Kd.R_reads hv; have HBn : Below w6.heap.size w6 w7 := (by first | exact hb | exact after_alloc2 hb); have HYw7 : Below wc.heap.size wc w7 := HYw6.trans (HBn.mono HYw6.size); have k0w7 : w7.cell? ⟨w2.heap.size, 0, none⟩ = some (.bool n) := (Zk (Zn BX.out HYw7) 0).trans rfl; have k1w7 : w7.cell? ⟨w2.heap.size, 1, none⟩ = some (.slice Ax l.length cx) := (Zk (Zn BX.out HYw7) 1).trans rfl; have k2w7 : w7.cell? ⟨gp, 0, none⟩ = some (.bool n) := (Zk (Zn BU.out HYw7) 0).trans rfl; have k3w7 : w7.cell? ⟨gp, 1, none⟩ = some (.slice Ad dl.length cd) := (Zk (Zn BU.out HYw7) 1).trans rfl; have k4w7 : w7.cell? ⟨gp, 2, none⟩ = some (.int .i64 0) := (Zk (Zn BU.out HYw7) 2).trans rfl; have ne1w7 := World.new_ne w7 _ k0w7; have ne2w7 := World.new_ne w7 _ k2w7; (first | have BZ := Zn BZ HBn | have BZ : w7.heap[w6.heap.size]? = some (Obj.cells #[Value.bool false, Value.slice none 0 0, Value.int IntKind.i64 0] 48) := after_new2 hb | skip); have hCi7 := Kd.C_below hCi HBn; clear hb hv HBn) | (go_at_call 25; refine (r00Times.calls k n Ai ci l 0 false Ab cb bl 0 n tl 0 _ (by first | exact hCi7 | exact Kd.ZC hCi7 _) hci (by first | exact hCb | exact Kd.ZC hCb _) hcb HTL.out).mono ?_; rintro ev w8 ⟨v, rfl, hv, hb⟩; have hv' := hv; obtain ⟨At, ct, rfl, hct, hCt⟩ := Kd.R_reads hv; have hAt := Apart48.of hv'; have HBn : Below w7.heap.size w7 w8 := (by first | exact hb | exact after_alloc2 hb); have HYw8 : Below wc.heap.size wc w8 := HYw7.trans (HBn.mono HYw7.size); have k0w8 : w8.cell? ⟨w2.heap.size, 0, none⟩ = some (.bool n) := (Zk (Zn BX.out HYw8) 0).trans rfl; have k1w8 : w8.cell? ⟨w2.heap.size, 1, none⟩ = some (.slice Ax l.length cx) := (Zk (Zn BX.out HYw8) 1).trans rfl; have k2w8 : w8.cell? ⟨gp, 0, none⟩ = some (.bool n) := (Zk (Zn BU.out HYw8) 0).trans rfl; have k3w8 : w8.cell? ⟨gp, 1, none⟩ = some (.slice Ad dl.length cd) := (Zk (Zn BU.out HYw8) 1).trans rfl; have k4w8 : w8.cell? ⟨gp, 2, none⟩ = some (.int .i64 0) := (Zk (Zn BU.out HYw8) 2).trans rfl; have ne1w8 := World.new_ne w8 _ k0w8; have ne2w8 := World.new_ne w8 _ k2w8; (first | have BZ := Zn BZ HBn | have BZ : w8.heap[w7.heap.size]? = some (Obj.cells #[Value.bool false, Value.slice none 0 0, Value.int IntKind.i64 0] 48) := after_new2 hb | skip); clear hb hv hv' HBn) | (go_at_call 24; refine (plus_any k n At Ad ct cd tl dl ul _ (by first | exact hCt | exact Kd.ZC hCt _) hct (by first | exact Kd.C_below HD.out HYw8 | exact Kd.ZC (Kd.C_below HD.out HYw8) _) HCD.out (by first | exact hAt | exact hAt.next (Zc (Below.refl _ _) _)) HZ.out HPL.out).mono ?_; rintro ev w9 ⟨Aw, cw, rfl, hcw, hCw, hb, hAw⟩; have HBn : Below w8.heap.size w8 w9 := (by first | exact hb | exact after_alloc2 hb); have HYw9 : Below wc.heap.size wc w9 := HYw8.trans (HBn.mono HYw8.size); have k0w9 : w9.cell? ⟨w2.heap.size, 0, none⟩ = some (.bool n) := (Zk (Zn BX.out HYw9) 0).trans rfl; have k1w9 : w9.cell? ⟨w2.heap.size, 1, none⟩ = some (.slice Ax l.length cx) := (Zk (Zn BX.out HYw9) 1).trans rfl; have k2w9 : w9.cell? ⟨gp, 0, none⟩ = some (.bool n) := (Zk (Zn BU.out HYw9) 0).trans rfl; have k3w9 : w9.cell? ⟨gp, 1, none⟩ = some (.slice Ad dl.length cd) := (Zk (Zn BU.out HYw9) 1).trans rfl; have k4w9 : w9.cell? ⟨gp, 2, none⟩ = some (.int .i64 0) := (Zk (Zn BU.out HYw9) 2).trans rfl; have ne1w9 := World.new_ne w9 _ k0w9; have ne2w9 := World.new_ne w9 _ k2w9; (first | have BZ := Zn BZ HBn | have BZ : w9.heap[w8.heap.size]? = some (Obj.cells #[Value.bool false, Value.slice none 0 0, Value.int IntKind.i64 0] 48) := after_new2 hb | skip); (first | have z0 : w9.cell? ⟨_, 0, none⟩ = some (.bool false) := (Zk BZ 0).trans rfl | skip); (first | have z1 : w9.cell? ⟨_, 1, none⟩ = some (.slice none 0 0) := (Zk BZ 1).trans rfl | skip); (first | have z2 : w9.cell? ⟨_, 2, none⟩ = some (.int .i64 0) := (Zk BZ 2).trans rfl | skip); (first | have y0 := Zj BZ 0 | skip); (first | have y1 := Zj BZ 1 | skip); (first | have y2 := Zj BZ 2 | skip); clear hb HBn))
   ·go_wp2_with fail
    go_meet
    exact ⟨w9.heap.size, Aw, cw, rfl, ⟨blk_new _ _⟩, ⟨hcw⟩, ⟨Kd.ZC hCw _⟩, ⟨Zc HYw9 _⟩⟩
   ·go_wp2_with fail
    go_meet
    exact ⟨w8.heap.size, Aw, cw, rfl, ⟨Zu (Zu (Zu BZ 0 _ rfl) 1 _ rfl) 2 _ rfl⟩, ⟨hcw⟩, ⟨C_put hCw hAw BZ _ _ _⟩, ⟨Zh (Zh (Zh HYw9 HYw8.size) HYw8.size) HYw8.size⟩⟩
   ·go_wp2_with fail
    go_meet
    exact ⟨w7.heap.size, Aw, cw, rfl, ⟨Zu (Zu (Zu BZ 0 _ rfl) 1 _ rfl) 2 _ rfl⟩, ⟨hcw⟩, ⟨C_put hCw hAw BZ _ _ _⟩, ⟨Zh (Zh (Zh HYw9 HYw7.size) HYw7.size) HYw7.size⟩⟩
   ·go_wp2_with fail
    go_meet
    exact ⟨w6.heap.size, Aw, cw, rfl, ⟨Zu (Zu (Zu BZ 0 _ rfl) 1 _ rfl) 2 _ rfl⟩, ⟨hcw⟩, ⟨C_put hCw hAw BZ _ _ _⟩, ⟨Zh (Zh (Zh HYw9 HYw6.size) HYw6.size) HYw6.size⟩⟩
   ·go_wp2_with fail
    go_meet
    exact ⟨wc.heap.size, Aw, cw, rfl, ⟨Zu (Zu (Zu BZ 0 _ rfl) 1 _ rfl) 2 _ rfl⟩, ⟨hcw⟩, ⟨C_put hCw hAw BZ _ _ _⟩, ⟨Zh (Zh (Zh HYw9 (Nat.le_refl _)) (Nat.le_refl _)) (Nat.le_refl _)⟩⟩
  case rest =>
   clear Kw hx0 hx1 hp0 hp1 hp2 ne1 ne2 HX
   obtain ⟨gw, Aw, cw, rfl, BW, HCW, HW, HBc⟩ := hcut
   replace BY := Zb.mk (Zn BY.out HBc.out)
   replace BF := Zb.mk (Zn BF.out HBc.out)
   replace HY := Zb.mk (Kd.C_below HY.out HBc.out)
   replace HB := Zb.mk (HB.out.trans (HBc.out.mono HB.out.size))
   clear HBc BX BU HD HCD
   have Kc : ∀ W : World, Below wc.heap.size wc W → W.cell? ⟨w4.heap.size + 1, 0, none⟩ = some (.int .i64 0) ∧ W.cell? ⟨w4.heap.size + 1, 1, none⟩ = some (.int .i64 0) ∧ W.cell? ⟨w4.heap.size, 0, none⟩ = some (.bool n) ∧ W.cell? ⟨w4.heap.size, 1, none⟩ = some (.slice Ay yl.length cy) ∧ W.cell? ⟨gw, 0, none⟩ = some (.bool n) ∧ W.cell? ⟨gw, 1, none⟩ = some (.slice Aw ul.length cw) ∧ W.cell? ⟨gw, 2, none⟩ = some (.int .i64 0) := fun W h => ⟨(Zk (Zn BF.out h) 0).trans rfl, (Zk (Zn BF.out h) 1).trans rfl, (Zk (Zn BY.out h) 0).trans rfl, (Zk (Zn BY.out h) 1).trans rfl, (Zk (Zn BW.out h) 0).trans rfl, (Zk (Zn BW.out h) 1).trans rfl, (Zk (Zn BW.out h) 2).trans rfl⟩
   have KC := Zb.mk Kc
   clear Kc
   go_upto_region 16 with fail
   go_region_held3 (fun w' => w'.cell? ⟨w4.heap.size + 1, 0, none⟩ = some (.int .i64 0) ∧ w'.cell? ⟨w4.heap.size + 1, 1, none⟩ = some (.int .i64 0) ∧ w'.cell? ⟨w4.heap.size, 0, none⟩ = some (.bool n) ∧ w'.cell? ⟨w4.heap.size, 1, none⟩ = some (.slice Ay yl.length cy) ∧ w'.cell? ⟨gw, 0, none⟩ = some (.bool n) ∧ w'.cell? ⟨gw, 1, none⟩ = some (.slice Aw ul.length cw) ∧ w'.cell? ⟨gw, 2, none⟩ = some (.int .i64 0)) (first | exact KC.out _ (Zd (Below.refl wc.heap.size wc)) | exact KC.out _ HY7 | exact KC.out _ HY6 | exact KC.out _ HY8)
    (first | (go_at_call 26; refine (BP.r00Int.calls k n Ay cy yl n yl 0 _ (Kd.C_below HY.out (Zd (Below.refl wc.heap.size wc))) hcy HYL.out).mono ?_; rintro ev w6 ⟨v, rfl, hv, hb⟩; obtain ⟨Ai, ci, rfl, hci, hCi⟩ := Kd.R_reads hv; have HY6 : Below wc.heap.size wc w6 := after_drew hb; clear hb hv) | (go_at_call 28; refine (BC.r00Compare.calls k n Ai ci yl 0 n Aw cw ul 0 0 _ hCi hci (Kd.C_below HW.out HY6) HCW.out HCM.out).mono ?_; rintro ev w7 ⟨rfl, hb⟩; have HY7 := HY6.trans (hb.mono HY6.size); clear hb) | (go_at_call 10; refine (w19awake.calls k true _ HA.out).mono ?_; rintro ev w8 ⟨rfl, hb⟩; have HY8 := HY7.trans (hb.mono HY7.size); clear hb))
   go_wp2_with fail
   go_ret
   exact ⟨rfl, HB.out.trans (HY8.mono HB.out.size)⟩
end Go.Proofs.Ytbmddlldadbfnaa.BR
end
section
namespace Go.Proofs.Ytbmddlldadbfnaa.BM
open Go.RowKit Go.Proofs.YtbmddlldadbfnaaW.PrintWords Go.Proofs.YtbmddlldadbfnaaW.PrintLast Go.Proofs.YtbmddlldadbfnaaW.PrintMore
open Go.Proofs.Ytbmddlldadbfnaa.BA (base_Parse.f)
open Go.Proofs.Ytbmddlldadbfnaa.BB Go.Proofs.Ytbmddlldadbfnaa.BD
theorem pick_f (a b : Int) (hb : 2 ≤ b) (hb' : b ≤ 36) : ∃ d, rkPick.f a b = some d ∧ 0 ≤ d ∧ d < b := by
 have h2 := Int.tmod_lt_of_pos a (show (0 : Int) < b by omega)
 have h3 := Int.lt_tmod_of_pos a (show (0 : Int) < b by omega)
 unfold rkPick.f
 rw [if_neg (by omega), if_neg (by omega)]
 by_cases h : Int.tmod a b < 0
 ·rw [if_pos h, w64 (by omega) (by omega)]
  exact ⟨_, rfl, by omega, by omega⟩
 ·rw [if_neg h]
  exact ⟨_, rfl, by omega, by omega⟩
theorem bt_left (s t : ByteArray) (i : Nat) (h : i < s.size) : bt (s ++ t) (i : Int) = bt s (i : Int) := by
 unfold bt
 have h1 : ((i : Nat) : Int).toNat = i := by omega
 simp only [h1]
 rw [dif_pos h, dif_pos (by rw [ByteArray.size_append]; omega), ByteArray.getElem_append_left h]
theorem bt_right (s t : ByteArray) (i : Nat) (h : i < t.size) : bt (s ++ t) ((s.size + i : Nat) : Int) = bt t (i : Int) := by
 unfold bt
 have h1 : ((i : Nat) : Int).toNat = i := by omega
 have h2 : ((s.size + i : Nat) : Int).toNat = s.size + i := by omega
 simp only [h1, h2]
 rw [dif_pos h, dif_pos (by rw [ByteArray.size_append]; omega), ByteArray.getElem_append_right (by omega)]
 congr 2
 congr 1
 omega
theorem scan_prefix {s s' : ByteArray} {b : Int} {st e : Nat} (hs : s'.size = s.size + e) (hbt : ∀ i : Nat, i < s.size → bt s' (i : Int) = bt s (i : Int)) : ∀ (m i : Nat), i + m = s.size → st ≤ i → 0 ≤ scan s b st m i → scan s b st m i < s.size → scan s' b st (m + e) i = scan s b st m i
 | 0, i, hi, hst, h0, h1 => by
  unfold scan at h0 h1
  split at h0
  ·rename_i h; rw [if_pos h] at h1; omega
  ·omega
 | m + 1, i, hi, hst, h0, h1 => by
  rw [show m + 1 + e = (m + e) + 1 by omega]
  unfold scan at h0 h1 ⊢
  rw [hbt i (by omega), hbt st (by omega)]
  split
  ·rfl
  ·rename_i c1
   rw [if_neg c1] at h0 h1
   split
   ·rfl
   ·rename_i c2
    rw [if_neg c2] at h0 h1
    split
    ·rfl
    ·rename_i c3
     rw [if_neg c3] at h0 h1
     exact scan_prefix hs hbt m (i + 1) (by omega) (by omega) h0 h1
theorem dig_size (d : Int) (h0 : 0 ≤ d) (h1 : d < 36) : (BR.digs.extract d.toNat (d + 1).toNat).size = 1 := by
 have : BR.digs.size = 36 := rfl
 rw [ByteArray.size_extract]
 omega
theorem dig_bt (d : Int) (h0 : 0 ≤ d) (h1 : d < 36) : bt (BR.digs.extract d.toNat (d + 1).toNat) ((0 : Nat) : Int) = dgt d := by
 have hsz : BR.digs.size = 36 := rfl
 have h := bt_extract BR.digs (i := d.toNat) (j := (d + 1).toNat) (t := 0) (by omega) (by omega)
 rw [h]
 have h2 := allDigits_bt ⟨d.toNat, by omega⟩
 have h3 : ((d.toNat : Nat) : Int) = d := by omega
 simp only [h3] at h2
 rw [Nat.add_zero, h3]
 exact h2
theorem awake_k : Late fun k => w19awake.f k = some true := awake_ev.late
theorem places_true (s t : ByteArray) (a m : Int) (w : World) (hs : s.size ≤ 140737488351232) (ht : t.size ≤ 140737488351232) :
  Calls Try.prog 6 #[.string s, .string t, .int .i64 a, .int .i64 m] w fun e w' => e = .returned (.bool true) ∧ Below w.heap.size w w' := by
 obtain ⟨b, hof, hb, hb'⟩ := of_f a
 by_cases hlong : 2999 < s.size + t.size
 ·obtain ⟨k, hk⟩ := Ev.ex awake_ev
  exact BR.way_long k s t a m b w hof hs ht hlong hk
 have hsz : s.size + t.size ≤ 2999 := by omega
 have hst := start_le s
 by_cases hbad : scan s b (startOf s) (s.size - startOf s) (startOf s) ≥ 0
 ·have hle := scan_le (s := s) (b := b) (st := startOf s) (s.size - startOf s) (startOf s) (by omega)
  have hp := parse_bad s b hb hb' (by omega) hbad
  by_cases hend : scan s b (startOf s) (s.size - startOf s) (startOf s) < s.size
  ·have hpos : 0 < s.size := by omega
   have hcat : (s ++ t).size = s.size + t.size := ByteArray.size_append
   have h0 : bt (s ++ t) 0 = bt s 0 := bt_left s t 0 hpos
   have hst' : startOf (s ++ t) = startOf s := by unfold startOf; rw [h0]
   have hpre := scan_prefix (b := b) (st := startOf s) hcat (bt_left s t) (s.size - startOf s) (startOf s) (by omega) (Nat.le_refl _) hbad hend
   have hq := parse_bad (s ++ t) b hb hb' (by omega) (by rw [hst', hcat, show s.size + t.size - startOf s = s.size - startOf s + t.size by omega, hpre]; exact hbad)
   rw [hst', hcat, show s.size + t.size - startOf s = s.size - startOf s + t.size by omega, hpre] at hq
   obtain ⟨K, hK⟩ := hp.late.and (hq.late.and awake_k)
   obtain ⟨k1, k2, k3⟩ := hK K (Nat.le_refl _)
   exact BR.way_bad K s t a m b _ false false [] [] w hof hsz hend k1 k2 k3
  ·obtain ⟨K, hK⟩ := hp.late.and awake_k
   obtain ⟨k1, k2⟩ := hK K (Nat.le_refl _)
   exact BR.way_end K s t a m b _ false [] w hof hsz (by omega) k1 k2
 have hgood : scan s b (startOf s) (s.size - startOf s) (startOf s) < 0 := by omega
 obtain ⟨l, hp, hc, hl⟩ := parse_good s b hb hb' (by omega) hgood
 obtain ⟨d, hpk, hd0, hd1⟩ := pick_f m b hb hb'
 have hdsz := dig_size d hd0 (by omega)
 have hdbt := dig_bt d hd0 (by omega)
 obtain ⟨s', hs'⟩ : ∃ s', s' = s ++ BR.digs.extract d.toNat (d + 1).toNat := ⟨_, rfl⟩
 have hcat : s'.size = s.size + 1 := by rw [hs', ByteArray.size_append, hdsz]
 have hleft : ∀ i : Nat, i < s.size → bt s' (i : Int) = bt s (i : Int) := fun i hi => by rw [hs']; exact bt_left _ _ i hi
 have hright : bt s' (s.size : Int) = dgt d := by
  have := bt_right s (BR.digs.extract d.toNat (d + 1).toNat) 0 (by omega)
  rw [hs']
  exact this.trans hdbt
 have hwd : wv (dgt d) b = d := wv_dgt hd0 hd1 hb'
 obtain ⟨hne, hg⟩ := scan_ok _ _ hgood (by omega)
 have hpos : 0 < s.size := by omega
 have hst' : startOf s' = startOf s := by unfold startOf; rw [show (0 : Int) = ((0 : Nat) : Int) from rfl, hleft 0 hpos]
 by_cases hl0 : l = []
 ·subst hl0
  obtain ⟨ws, gd, hv, hout⟩ := text_digits hb hb' hgood
  have hn0 : numOf s b = 0 := by rw [← hc.1.2]; rfl
  obtain ⟨z1, z2⟩ := gd.zero hb (by rw [hv, hn0])
  have hs48 : s = (⟨#[48]⟩ : ByteArray) := by rw [← hout, z1, z2, text_zero]
  have hs1 : s.size = 1 := by rw [hs48]; rfl
  have hb0 : bt s 0 = 48 := by rw [hs48]; rfl
  have hsc : scan s' b (startOf s') (s'.size - startOf s') (startOf s') = 1 := by
   have hz : startOf s = 0 := by unfold startOf; rw [hb0]; rfl
   have h48 : wv 48 b = 0 := wv_dgt (d := 0) (b := b) (by omega) (by omega) hb'
   have e0 : bt s' ((0 : Nat) : Int) = 48 := by rw [hleft 0 hpos]; exact hb0
   have e1 : bt s' ((1 : Nat) : Int) = dgt d := by rw [← hright, hs1]
   rw [hst', hz, hcat, hs1, show (1 + 1 - 0 : Nat) = 0 + 1 + 1 from rfl]
   unfold scan
   rw [e0, h48, if_neg (by omega), if_neg (by omega), if_neg (by omega)]
   unfold scan
   rw [show (0 + 1 : Nat) = 1 from rfl, e1, hwd, e0, if_neg (by omega), if_neg (by omega), if_pos ⟨rfl, rfl⟩]
   rfl
  have hq := parse_bad s' b hb hb' (by omega) (by rw [hsc]; omega)
  rw [hsc] at hq
  obtain ⟨K, hK⟩ := hp.late.and (hq.late.and awake_k)
  obtain ⟨k1, k2, k3⟩ := hK K (Nat.le_refl _)
  rw [hs'] at k2
  exact BR.way_nought K s t a m b d _ false [] w hof hsz hpk hd0 (by omega) k1 k2 k3
 ·have hlp := List.length_pos_iff.2 hl0
  have hnum := Can_pos (by omega) hc hl0
  obtain ⟨n1, n2⟩ := scan_not hst hgood
  have hb48 : bt s (startOf s : Int) ≠ 48 := by
   intro h48
   by_cases h1 : startOf s + 1 < s.size
   ·exact n2 h1 h48
   ·have hz : numOf s b = 0 := by
     unfold numOf
     rw [show s.size - startOf s = 0 + 1 by omega, D, D]
     show 0 * b + wv (bt s ((startOf s + 0 : Nat) : Int)) b = 0
     rw [Nat.add_zero, h48, show wv 48 b = 0 from wv_dgt (d := 0) (b := b) (by omega) (by omega) hb']
     omega
    omega
  have hgood' : scan s' b (startOf s') (s'.size - startOf s') (startOf s') < 0 := by
   rw [hst']
   refine scan_fine (by omega) (fun j h1 h2 => ?_) ?_ ?_ _ _ (by omega) (Nat.le_refl _)
   ·by_cases hj : j < s.size
    ·rw [hleft j hj]; exact hg j h1 hj
    ·rw [show j = s.size by omega, hright, hwd]; exact hd0
   ·rw [hleft _ (by omega)]; exact n1
   ·intro _
    rw [hleft _ (by omega)]; exact hb48
  obtain ⟨yl, hq, hcy, hyl⟩ := parse_good s' b hb hb' (by omega) hgood'
  have hnum' : numOf s' b = numOf s b * b + d := by
   unfold numOf
   rw [hst', hcat, show s.size + 1 - startOf s = (s.size - startOf s) + 1 by omega, D]
   congr 1
   ·congr 1
    exact D_congr (fun j hj => by show wv _ b = wv _ b; rw [hleft _ (by omega)])
   ·rw [show startOf s + (s.size - startOf s) = s.size by omega, hright, hwd]
  rw [hnum'] at hcy
  have hyne : yl ≠ [] := by
   intro h
   have h0 : numOf s b * b + d = 0 := by rw [← hcy.1.2, h]; rfl
   have := Int.mul_pos hnum (show 0 < b by omega)
   omega
  have hyp := List.length_pos_iff.2 hyne
  have sg : ((bt s 0 == 45) && decide (0 < l.length)) = (bt s 0 == 45) := by simp [hlp]
  have sg' : ((bt s' 0 == 45) && decide (0 < yl.length)) = (bt s 0 == 45) := by
   rw [show (0 : Int) = ((0 : Nat) : Int) from rfl, hleft 0 hpos]; simp [hyp]
  rw [sg] at hp
  rw [sg'] at hq
  obtain ⟨n, hn⟩ : ∃ n, n = (bt s 0 == 45) := ⟨_, rfl⟩
  rw [← hn] at hp hq
  obtain ⟨dl, hdl, hdc, hdll⟩ := natof_ev (a := d) hd0 (by omega)
  obtain ⟨bl, hbl, hbc, hbll⟩ := whole_ev (a := b) (by omega) (by omega)
  obtain ⟨tl, htl, htc⟩ := times0_ev hc hbc (by omega) (by omega) n false
  have hsn : (n != false) = n := by cases n <;> rfl
  rw [hsn] at htl
  have htlen : tl.length ≤ 4000 := by
   refine Can_len (by omega) htc ?_
   have h1 := V_lt (B := 18446744073709551616) (by omega) hc.1.1
   rw [hc.1.2] at h1
   have h2 := pow_le' (B := 18446744073709551616) (by omega) (show l.length ≤ 3999 by omega)
   have h3 : numOf s b * b ≤ 18446744073709551616 ^ 3999 * 18446744073709551616 := Int.mul_le_mul (by omega) (by omega) (by omega) (Int.le_of_lt (pow_pos' (by omega) _))
   have h4 : numOf s b * b < 18446744073709551616 ^ 3999 * 18446744073709551616 := Int.lt_of_le_of_lt (Int.mul_le_mul_of_nonneg_left hb' (by omega)) (by
    have := pow_pos' (B := 18446744073709551616) (by omega) 3999
    omega)
   rw [← Int.pow_succ] at h4
   exact h4
  have htne : tl ≠ [] := by
   intro h
   have h0 : numOf s b * b = 0 := by rw [← htc.1.2, h]; rfl
   have := Int.mul_pos hnum (show 0 < b by omega)
   omega
  have hz := zero_ev htc (by omega) n 0
  rw [decide_eq_false htne] at hz
  have hzd := zero_ev hdc (by omega) n 0
  have hint := nattrim_can (by omega) hc (by omega)
  have hinty := nattrim_can (by omega) hcy (by omega)
  have fin : ∀ ul : List Int, Can 18446744073709551616 ul (numOf s b * b + d) → (Late fun k => (r00Num_Zero.f k n dl 0 = some true ∧ ul = tl) ∨ (∃ du, r00Num_Zero.f k n dl 0 = some false ∧ r00NatUp.f k dl 0 = some du ∧ r00NatAdd.f k tl du = some ul)) →
    Calls Try.prog 6 #[.string s, .string t, .int .i64 a, .int .i64 m] w fun e w' => e = .returned (.bool true) ∧ Below w.heap.size w w' := by
   intro ul hul hpl
   have hcm := compare_ev hcy hul (by omega) (by rw [Can_unique (by omega) hul hcy]; omega) hyne (Int.le_refl _) n
   rw [if_pos rfl] at hcm
   obtain ⟨K, hK⟩ := hp.late.and (hq.late.and (hdl.late.and (hint.late.and (hbl.late.and (htl.late.and (hz.late.and (hpl.and (hinty.late.and (hcm.late.and awake_k)))))))))
   obtain ⟨k1, k2, k3, k4, k5, k6, k7, k8, k9, k10, k11⟩ := hK K (Nat.le_refl _)
   have hil : ∀ x : List Int, r00NatTrim.f K x = some x → BP.r00Int.f K n x = some (n, x, 0) := by
    intro x hx
    unfold BP.r00Int.f
    rw [hx, Option.bind_some]
   rw [hs'] at k2
   exact BR.way_more K s t a m b d n l bl tl dl ul yl w hof hsz hpk hd0 (by omega) hlp k1 k2 k3 (hil l k4) k5 k6 k7 k8 (hil yl k9) k10 k11
  by_cases hd : d = 0
  ·subst hd
   have hdn := Can_zero (by omega) hdc
   subst hdn
   exact fin tl (by rw [Int.add_zero]; exact htc) (by
    obtain ⟨K, hK⟩ := hzd.late
    exact ⟨K, fun k hk => .inl ⟨hK k hk, rfl⟩⟩)
  ·have hdne : dl ≠ [] := by
    intro h
    exact hd (by rw [← hdc.1.2, h]; rfl)
   rw [decide_eq_false hdne] at hzd
   obtain ⟨ul, hul, huc⟩ := natadd_ev htc.1 hdc.1 (by omega) (by omega)
   have hup := natup_ev hdc (by omega)
   exact fin ul huc (by
    obtain ⟨K, hK⟩ := hzd.late.and (hup.late.and hul.late)
    exact ⟨K, fun k hk => .inr ⟨dl, hK k hk⟩⟩)
end Go.Proofs.Ytbmddlldadbfnaa.BM
end

/- Part of the proof that package base reads any text of at most 3000 bytes, or longer than 1048576, in any base, as the reference does: the same number, the same fault, the same place. -/
import Derived.Laws.MathBits
import Derived.Laws.Bits64b
import Derived.Laws.RangeString
import Derived.Test.YtokmpejgfkfmbaaCA4
section
namespace Go.Proofs.Ytokmpejgfkfmbaa.BB
open Go.RowKit Go.Proofs.Ytokmpejgfkfmbaa.BA Go.Proofs.YtokmpejgfkfmbaaW.PrintWords Go.Proofs.YtokmpejgfkfmbaaW.PrintLast Go.Proofs.YtokmpejgfkfmbaaW.PrintMore
attribute [local go_sem] ZU ZS max_two min_two ZP ZO ZT ZR
set_option linter.unusedVariables false
set_option linter.unusedSimpArgs false
attribute [local go_sem high] eqA35
def r19Parse.l0 : Nat → ByteArray → Int → Int → Bool → List Int → Int → Option (Bool × List Int × Int × Int)
 | 0, _, _, _, _, _, _ => none
 | k + 1, x0, x1, x8, x308000, x308001, x308002 => if x8 < (x0.size : Int) then (if 0 ≤ x8 then (if (bt x0 x8) = 45 then (r19Parse.l0 k x0 x1 (wrap64 (x8 + 1)) x308000 x308001 x308002) else ((r00Whole.f k x1).bind fun bt308 => ((r00Times.f k x308000 x308001 x308002 bt308.1 bt308.2.1 bt308.2.2).bind fun bt313 => ((r19worth.f k (bt x0 x8) x1).bind fun t318 => ((r00Whole.f k t318).bind fun bt319 => ((r00Plus.f k bt313.1 bt313.2.1 bt313.2.2 bt319.1 bt319.2.1 bt319.2.2).bind fun bt324 => (r19Parse.l0 k x0 x1 (wrap64 (x8 + 1)) bt324.1 bt324.2.1 bt324.2.2))))))) else (none)) else (if 0 < (x0.size : Int) then (if (bt x0 0) = 45 then ((r00Minus.f x308000 x308001 x308002).bind fun bt329 => ((r13Told.f k bt329.1 bt329.2.1 bt329.2.2).bind fun bt334 => (if bt334.2.2 = 0 then (some (bt334.1, bt334.2.1, 0, 0)) else (some (false, ([] : List Int), 3, 0))))) else ((r13Told.f k x308000 x308001 x308002).bind fun bt340 => (if bt340.2.2 = 0 then (some (bt340.1, bt340.2.1, 0, 0)) else (some (false, ([] : List Int), 3, 0))))) else (none))
def r19Parse.f (k : Nat) (a0 : ByteArray) (a1 : Int) : Option (Bool × List Int × Int × Int) := (r19may.f a1).bind fun t300 => (if t300 = true then (if (a0.size : Int) > 1048576 then (some (false, ([] : List Int), 3, 0)) else ((r19Wrong.f k a0 a1).bind fun t301 => (if t301 ≥ 0 then (some (false, ([] : List Int), 9, t301)) else ((r00Whole.f k 0).bind fun bt302 => (r19Parse.l0 k a0 a1 0 bt302.1 bt302.2.1 bt302.2.2))))) else (some (false, ([] : List Int), 2, 0)))
def r19Parse.T13 : Bool × List (List Nat × List Nat) := (true, [([], []), ([], []), ([1], [1]), ([0, 2, 2], [0, 2]), ([], []), ([], []), ([4, 5], [4, 5]), ([], []), ([6, 7, 3], [6, 7]), ([8, 8], [8]), ([3, 9, 9], [3, 9]), ([10, 10, 0, 1, 2, 3, 4, 5, 6, 7, 8, 9, 10], [10])])
def r19Parse.B13 : List Nat := [0, 0, 2, 7, 0, 0, 48, 0, 255, 511, 1023, 2047]
theorem r19Parse.tab13 : rtab .any (opsOf Try.f18 13) = r19Parse.T13 := by kernel_rfl
theorem r19Parse.bits13 : waitsOk r19Parse.T13.2 r19Parse.B13 = true := by kernel_rfl
set_option maxHeartbeats 8000000 in
set_option maxRecDepth 100000 in
theorem r19Parse.calls (k : Nat) (a0 : ByteArray) (a1 : Int) (r1 : Bool) (r2 : List Int) (r3 : Int) (r4 : Int) (w : World) (h : r19Parse.f k a0 a1 = some (r1, r2, r3, r4)) :
  Calls Try.prog 18 #[.string a0, .int .i64 a1] w fun e w' => ∃ v1_ : Value, e = .returned (.tuple #[.agg #[.bool r1, v1_], .agg #[.int .i64 r3, .int .i64 r4]]) ∧ Kd.R (Kd.int .u64) 46 w' w.heap.size (fun _ => True) v1_ r2 ∧ Below w.heap.size w w' := by
 have hu24 := Try.underlying24
 have hu35 := Try.underlying35
 have hu48 := Try.underlying48
 have HB := Zb.mk (Below.refl w.heap.size w)
 have H : ((r19may.f a1).bind fun t300 => (if t300 = true then (if (a0.size : Int) > 1048576 then (some (false, ([] : List Int), 3, 0)) else ((r19Wrong.f k a0 a1).bind fun t301 => (if t301 ≥ 0 then (some (false, ([] : List Int), 9, t301)) else ((r00Whole.f k 0).bind fun bt302 => (r19Parse.l0 k a0 a1 0 bt302.1 bt302.2.1 bt302.2.2))))) else (some (false, ([] : List Int), 2, 0)))) = some (r1, r2, r3, r4) := h
 clear h
 replace H := Option.bind_eq_some_iff.mp H
 obtain ⟨t300, A30, H⟩ := H
 replace H : (if t300 = true then (if (a0.size : Int) > 1048576 then (some (false, ([] : List Int), 3, 0)) else ((r19Wrong.f k a0 a1).bind fun t301 => (if t301 ≥ 0 then (some (false, ([] : List Int), 9, t301)) else ((r00Whole.f k 0).bind fun bt302 => (r19Parse.l0 k a0 a1 0 bt302.1 bt302.2.1 bt302.2.2))))) else (some (false, ([] : List Int), 2, 0))) = some (r1, r2, r3, r4) := H
 have A3 := Zb.mk A30
 clear A30
 by_cases c4 : t300 = true
 ·subst c4
  have H1 : (if (a0.size : Int) > 1048576 then (some (false, ([] : List Int), 3, 0)) else ((r19Wrong.f k a0 a1).bind fun t301 => (if t301 ≥ 0 then (some (false, ([] : List Int), 9, t301)) else ((r00Whole.f k 0).bind fun bt302 => (r19Parse.l0 k a0 a1 0 bt302.1 bt302.2.1 bt302.2.2))))) = some (r1, r2, r3, r4) := by rw [if_pos rfl] at H; exact H
  clear H
  have H := H1
  clear H1
  by_cases c5 : (a0.size : Int) > 1048576
  ·rw [if_pos c5] at H
   have c5b0 : decide (1048576 < (a0.size : Int)) = true := decide_eq_true c5
   have c5b1 : decide (1048576 < a0.size) = true := decide_eq_true (by omega)
   clear c5
   simp only [Option.some.injEq, Prod.mk.injEq] at H
   obtain ⟨rfl, rfl, rfl, rfl⟩ := H
   go_enter Try.func18, Try.ntmps18
   go_wp2_with (first | ((with_reducible refine Zt (N := 4) rfl ?_); refine Zs ?hg (N := 4) ?hd (cs := #[.bool false, .slice none 0 0]) (t := 24) ?hr ?_; (case hd => rfl); (case hg => rfl); (case hr => first | (go_simp; done) | (go_simp; rfl)); intro gb298 hg w6 hbox hb; have n0_ := Zb.mk (Zl (by repeat (first | (with_reducible first | exact HB.out | apply Zc | apply Za | apply Zd) | exact HB.out)) hb); have n1_ := Zb.mk (hbox); have n2_ := Zb.mk ((by rw [hg]; exact (Zi (by repeat (first | (with_reducible first | exact HB.out | apply Zc | apply Za | apply Zd) | exact HB.out))) : w.heap.size ≤ gb298)); have n3_ := Zb.mk ((by rw [hg]; exact (Zi (by repeat (first | (with_reducible first | exact HB.out | apply Zc | apply Za | apply Zd) | exact HB.out))) : w.heap.size ≤ gb298)); clear HB; have HB := n0_; have BK298 := n1_; have GW298 := n2_; have GE298 := n3_; clear n0_ n1_ n2_ n3_; clear hb hbox hg) | ((with_reducible refine Zt (N := 5) rfl ?_); refine Zs ?hg (N := 5) ?hd (cs := #[.int .i64 0, .int .i64 0]) (t := 35) ?hr ?_; (case hd => rfl); (case hg => rfl); (case hr => first | (go_simp; done) | (go_simp; rfl)); intro gb299 hg w7 hbox hb; have n0_ := Zb.mk (Zn (g := gb298) (o := .cells #[.bool false, .slice none 0 0] 24 (0, 0)) (by (with_reducible repeat (first | refine Ze ?_ _ | refine Zg ?_ | refine Zf ?_ _)); exact BK298.out) hb); have n1_ := Zb.mk (Zl (by repeat (first | (with_reducible first | exact HB.out | apply Zc | apply Za | apply Zd | refine Zh ?_ GE298.out) | exact HB.out)) hb); have n2_ := Zb.mk (hbox); have n3_ := Zb.mk ((by rw [hg]; exact (Zi (by repeat (first | (with_reducible first | exact HB.out | apply Zc | apply Za | apply Zd | refine Zh ?_ GE298.out) | exact HB.out))) : w.heap.size ≤ gb299)); have n4_ := Zb.mk ((by rw [hg]; exact (Zi (by repeat (first | (with_reducible first | exact HB.out | apply Zc | apply Za | apply Zd | refine Zh ?_ GE298.out) | exact HB.out))) : w.heap.size ≤ gb299)); have n5_ := Zb.mk ((by rw [hg]; exact Nat.ne_of_lt (Zw (g := gb298) (o := .cells #[.bool false, .slice none 0 0] 24 (0, 0)) (by (with_reducible repeat (first | refine Ze ?_ _ | refine Zg ?_ | refine Zf ?_ _)); exact BK298.out)) : gb298 ≠ gb299)); have n6_ := Zb.mk ((by rw [hg]; exact Nat.ne_of_gt (Zw (g := gb298) (o := .cells #[.bool false, .slice none 0 0] 24 (0, 0)) (by (with_reducible repeat (first | refine Ze ?_ _ | refine Zg ?_ | refine Zf ?_ _)); exact BK298.out)) : gb299 ≠ gb298)); clear BK298; clear HB; have BK298 := n0_; have HB := n1_; have BK299 := n2_; have GW299 := n3_; have GE299 := n4_; have NB298_299 := n5_; have NB299_298 := n6_; clear n0_ n1_ n2_ n3_ n4_ n5_ n6_; clear hb hbox hg) | ((with_reducible refine Zp (f := 42) rfl ?_); refine ZB (some 12) rfl rfl Try.func42 (by kernel_rfl) rfl #[.int .i64 a1] rfl (by (try simp only [List.map_toArray, List.map_cons, List.map_nil]); first | done | rfl | (simp only [List.length_drop, List.length_take]; rfl)) ?_; (with_reducible refine (r19may.calls a1 true _ A3.out).mono ?_); rintro e w' ⟨rfl, ⟨nd, rfl⟩⟩; refine ⟨_, rfl, ?_⟩; (try (rw [ZK w7]; generalize hq_ : World.drewN w7 _ = w7; have n0_ : Zb (w7.heap[gb298]? = some (.cells #[.bool false, .slice none 0 0] 24 (0, 0))) := ⟨by rw [← hq_]; exact (by (with_reducible repeat (first | refine Ze ?_ _ | refine Zg ?_ | refine Zf ?_ _)); exact BK298.out)⟩; have n1_ : Zb (w7.heap[gb299]? = some (.cells #[.int .i64 0, .int .i64 0] 35 (0, 0))) := ⟨by rw [← hq_]; exact (by (with_reducible repeat (first | refine Ze ?_ _ | refine Zg ?_ | refine Zf ?_ _)); exact BK299.out)⟩; have n2_ : Zb (Below w.heap.size w w7) := ⟨by rw [← hq_]; exact (by repeat (first | (with_reducible first | exact HB.out | apply Zc | apply Za | apply Zd | refine Zh ?_ GE298.out | refine Zh ?_ GE299.out) | exact HB.out))⟩; clear BK298 BK299 HB hq_; have BK298 := n0_; have BK299 := n1_; have HB := n2_; clear n0_ n1_ n2_)); have hnb8 := NB298_299.out; have hnc8 := NB299_298.out; have hcz9_0 : w7.cell? ⟨gb298, 0, none⟩ = some (.bool false) := (Zk BK298.out 0).trans rfl; have hcz9_1 : w7.cell? ⟨gb298, 1, none⟩ = some (.slice none 0 0) := (Zk BK298.out 1).trans rfl; have hfz9_0 := Zj BK298.out 0; have hfz9_1 := Zj BK298.out 1; have hcz10_0 : w7.cell? ⟨gb299, 0, none⟩ = some (.int .i64 0) := (Zk BK299.out 0).trans rfl; have hcz10_1 : w7.cell? ⟨gb299, 1, none⟩ = some (.int .i64 0) := (Zk BK299.out 1).trans rfl; have hfz10_0 := Zj BK299.out 0; have hfz10_1 := Zj BK299.out 1))
   refine bodyPost_ret (results_cc rfl _ _ gb298 gb299 24 35 #[.bool false, .slice none 0 0] #[.int .i64 3, .int .i64 0] (0, 0) (0, 0) _ _ rfl (by (with_reducible repeat (first | refine Ze ?_ _ | refine Zg ?_ | refine Zf ?_ _)); refine Zr ?_ NB298_299.out _; (with_reducible repeat (first | refine Ze ?_ _ | refine Zg ?_ | refine Zf ?_ _)); refine Zr ?_ NB298_299.out _; (with_reducible repeat (first | refine Ze ?_ _ | refine Zg ?_ | refine Zf ?_ _)); refine Zu (cs := #[.bool false, .slice none 0 0]) ?_ 1 _ rfl; (with_reducible repeat (first | refine Ze ?_ _ | refine Zg ?_ | refine Zf ?_ _)); refine Zu (cs := #[.bool false, .slice none 0 0]) ?_ 0 _ rfl; (with_reducible repeat (first | refine Ze ?_ _ | refine Zg ?_ | refine Zf ?_ _)); exact BK298.out) Try.underlying24 rfl (by kernel_rfl) rfl (by (with_reducible repeat (first | refine Ze ?_ _ | refine Zg ?_ | refine Zf ?_ _)); refine Zu (cs := #[.int .i64 3, .int .i64 0]) ?_ 1 _ rfl; (with_reducible repeat (first | refine Ze ?_ _ | refine Zg ?_ | refine Zf ?_ _)); refine Zu (cs := #[.int .i64 0, .int .i64 0]) ?_ 0 _ rfl; (with_reducible repeat (first | refine Ze ?_ _ | refine Zg ?_ | refine Zf ?_ _)); refine Zr ?_ NB299_298.out _; (with_reducible repeat (first | refine Ze ?_ _ | refine Zg ?_ | refine Zf ?_ _)); refine Zr ?_ NB299_298.out _; (with_reducible repeat (first | refine Ze ?_ _ | refine Zg ?_ | refine Zf ?_ _)); exact BK299.out) Try.underlying35 rfl (by kernel_rfl)) rfl ?_
   exact ⟨_, by first | rfl | (simp [errW_none, errW_some] <;> rfl) | (simp [*, errW_none, errW_some] <;> rfl), by first | exact Kd.R_nil _ _ _ _ _ | exact Kd.V_nil _ _ _ _ _ | exact Kd.S_nil _ _ _ _ _, by repeat (first | (with_reducible first | exact HB.out | apply Zc | apply Za | apply Zd | refine Zh ?_ GE298.out | refine Zh ?_ GE299.out) | exact HB.out)⟩
  ·rw [if_neg c5] at H
   have c5b0 : decide (1048576 < (a0.size : Int)) = false := decide_eq_false c5
   have c5b1 : decide (1048576 < a0.size) = false := decide_eq_false (by omega)
   clear c5
   replace H := Option.bind_eq_some_iff.mp H
   obtain ⟨t301, A110, H⟩ := H
   replace H : (if t301 ≥ 0 then (some (false, ([] : List Int), 9, t301)) else ((r00Whole.f k 0).bind fun bt302 => (r19Parse.l0 k a0 a1 0 bt302.1 bt302.2.1 bt302.2.2))) = some (r1, r2, r3, r4) := H
   have A11 := Zb.mk A110
   clear A110
   by_cases c12 : t301 ≥ 0
   ·rw [if_pos c12] at H
    have c12b0 : decide (0 ≤ t301) = true := decide_eq_true c12
    clear c12
    simp only [Option.some.injEq, Prod.mk.injEq] at H
    obtain ⟨rfl, rfl, rfl, rfl⟩ := H
    go_enter Try.func18, Try.ntmps18
    go_wp2_with (first | ((with_reducible refine Zt (N := 4) rfl ?_); refine Zs ?hg (N := 4) ?hd (cs := #[.bool false, .slice none 0 0]) (t := 24) ?hr ?_; (case hd => rfl); (case hg => rfl); (case hr => first | (go_simp; done) | (go_simp; rfl)); intro gb298 hg w13 hbox hb; have n0_ := Zb.mk (Zl (by repeat (first | (with_reducible first | exact HB.out | apply Zc | apply Za | apply Zd) | exact HB.out)) hb); have n1_ := Zb.mk (hbox); have n2_ := Zb.mk ((by rw [hg]; exact (Zi (by repeat (first | (with_reducible first | exact HB.out | apply Zc | apply Za | apply Zd) | exact HB.out))) : w.heap.size ≤ gb298)); have n3_ := Zb.mk ((by rw [hg]; exact (Zi (by repeat (first | (with_reducible first | exact HB.out | apply Zc | apply Za | apply Zd) | exact HB.out))) : w.heap.size ≤ gb298)); clear HB; have HB := n0_; have BK298 := n1_; have GW298 := n2_; have GE298 := n3_; clear n0_ n1_ n2_ n3_; clear hb hbox hg) | ((with_reducible refine Zt (N := 5) rfl ?_); refine Zs ?hg (N := 5) ?hd (cs := #[.int .i64 0, .int .i64 0]) (t := 35) ?hr ?_; (case hd => rfl); (case hg => rfl); (case hr => first | (go_simp; done) | (go_simp; rfl)); intro gb299 hg w14 hbox hb; have n0_ := Zb.mk (Zn (g := gb298) (o := .cells #[.bool false, .slice none 0 0] 24 (0, 0)) (by (with_reducible repeat (first | refine Ze ?_ _ | refine Zg ?_ | refine Zf ?_ _)); exact BK298.out) hb); have n1_ := Zb.mk (Zl (by repeat (first | (with_reducible first | exact HB.out | apply Zc | apply Za | apply Zd | refine Zh ?_ GE298.out) | exact HB.out)) hb); have n2_ := Zb.mk (hbox); have n3_ := Zb.mk ((by rw [hg]; exact (Zi (by repeat (first | (with_reducible first | exact HB.out | apply Zc | apply Za | apply Zd | refine Zh ?_ GE298.out) | exact HB.out))) : w.heap.size ≤ gb299)); have n4_ := Zb.mk ((by rw [hg]; exact (Zi (by repeat (first | (with_reducible first | exact HB.out | apply Zc | apply Za | apply Zd | refine Zh ?_ GE298.out) | exact HB.out))) : w.heap.size ≤ gb299)); have n5_ := Zb.mk ((by rw [hg]; exact Nat.ne_of_lt (Zw (g := gb298) (o := .cells #[.bool false, .slice none 0 0] 24 (0, 0)) (by (with_reducible repeat (first | refine Ze ?_ _ | refine Zg ?_ | refine Zf ?_ _)); exact BK298.out)) : gb298 ≠ gb299)); have n6_ := Zb.mk ((by rw [hg]; exact Nat.ne_of_gt (Zw (g := gb298) (o := .cells #[.bool false, .slice none 0 0] 24 (0, 0)) (by (with_reducible repeat (first | refine Ze ?_ _ | refine Zg ?_ | refine Zf ?_ _)); exact BK298.out)) : gb299 ≠ gb298)); clear BK298; clear HB; have BK298 := n0_; have HB := n1_; have BK299 := n2_; have GW299 := n3_; have GE299 := n4_; have NB298_299 := n5_; have NB299_298 := n6_; clear n0_ n1_ n2_ n3_ n4_ n5_ n6_; clear hb hbox hg) | ((with_reducible refine Zp (f := 42) rfl ?_); refine ZB (some 12) rfl rfl Try.func42 (by kernel_rfl) rfl #[.int .i64 a1] rfl (by (try simp only [List.map_toArray, List.map_cons, List.map_nil]); first | done | rfl | (simp only [List.length_drop, List.length_take]; rfl)) ?_; (with_reducible refine (r19may.calls a1 true _ A3.out).mono ?_); rintro e w' ⟨rfl, ⟨nd, rfl⟩⟩; refine ⟨_, rfl, ?_⟩; (try (rw [ZK w14]; generalize hq_ : World.drewN w14 _ = w14; have n0_ : Zb (w14.heap[gb298]? = some (.cells #[.bool false, .slice none 0 0] 24 (0, 0))) := ⟨by rw [← hq_]; exact (by (with_reducible repeat (first | refine Ze ?_ _ | refine Zg ?_ | refine Zf ?_ _)); exact BK298.out)⟩; have n1_ : Zb (w14.heap[gb299]? = some (.cells #[.int .i64 0, .int .i64 0] 35 (0, 0))) := ⟨by rw [← hq_]; exact (by (with_reducible repeat (first | refine Ze ?_ _ | refine Zg ?_ | refine Zf ?_ _)); exact BK299.out)⟩; have n2_ : Zb (Below w.heap.size w w14) := ⟨by rw [← hq_]; exact (by repeat (first | (with_reducible first | exact HB.out | apply Zc | apply Za | apply Zd | refine Zh ?_ GE298.out | refine Zh ?_ GE299.out) | exact HB.out))⟩; clear BK298 BK299 HB hq_; have BK298 := n0_; have BK299 := n1_; have HB := n2_; clear n0_ n1_ n2_))) | ((with_reducible refine Zp (f := 48) rfl ?_); refine ZB (some 23) rfl rfl Try.func48 (by kernel_rfl) rfl #[.string a0, .int .i64 a1] rfl (by (try simp only [List.map_toArray, List.map_cons, List.map_nil]); first | done | rfl | (simp only [List.length_drop, List.length_take]; rfl)) ?_; (with_reducible refine (r19Wrong.calls k a0 a1 t301 _ A11.out).mono ?_); rintro e w' ⟨rfl, ⟨nd, rfl⟩⟩; refine ⟨_, rfl, ?_⟩; (try (rw [ZK w14]; generalize hq_ : World.drewN w14 _ = w14; have n0_ : Zb (w14.heap[gb298]? = some (.cells #[.bool false, .slice none 0 0] 24 (0, 0))) := ⟨by rw [← hq_]; exact (by (with_reducible repeat (first | refine Ze ?_ _ | refine Zg ?_ | refine Zf ?_ _)); exact BK298.out)⟩; have n1_ : Zb (w14.heap[gb299]? = some (.cells #[.int .i64 0, .int .i64 0] 35 (0, 0))) := ⟨by rw [← hq_]; exact (by (with_reducible repeat (first | refine Ze ?_ _ | refine Zg ?_ | refine Zf ?_ _)); exact BK299.out)⟩; have n2_ : Zb (Below w.heap.size w w14) := ⟨by rw [← hq_]; exact (by repeat (first | (with_reducible first | exact HB.out | apply Zc | apply Za | apply Zd | refine Zh ?_ GE298.out | refine Zh ?_ GE299.out) | exact HB.out))⟩; clear BK298 BK299 HB hq_; have BK298 := n0_; have BK299 := n1_; have HB := n2_; clear n0_ n1_ n2_)); have hnb15 := NB298_299.out; have hnc15 := NB299_298.out; have hcz16_0 : w14.cell? ⟨gb298, 0, none⟩ = some (.bool false) := (Zk BK298.out 0).trans rfl; have hcz16_1 : w14.cell? ⟨gb298, 1, none⟩ = some (.slice none 0 0) := (Zk BK298.out 1).trans rfl; have hfz16_0 := Zj BK298.out 0; have hfz16_1 := Zj BK298.out 1; have hcz17_0 : w14.cell? ⟨gb299, 0, none⟩ = some (.int .i64 0) := (Zk BK299.out 0).trans rfl; have hcz17_1 : w14.cell? ⟨gb299, 1, none⟩ = some (.int .i64 0) := (Zk BK299.out 1).trans rfl; have hfz17_0 := Zj BK299.out 0; have hfz17_1 := Zj BK299.out 1))
    refine bodyPost_ret (results_cc rfl _ _ gb298 gb299 24 35 #[.bool false, .slice none 0 0] #[.int .i64 9, .int .i64 t301] (0, 0) (0, 0) _ _ rfl (by (with_reducible repeat (first | refine Ze ?_ _ | refine Zg ?_ | refine Zf ?_ _)); refine Zr ?_ NB298_299.out _; (with_reducible repeat (first | refine Ze ?_ _ | refine Zg ?_ | refine Zf ?_ _)); refine Zr ?_ NB298_299.out _; (with_reducible repeat (first | refine Ze ?_ _ | refine Zg ?_ | refine Zf ?_ _)); refine Zu (cs := #[.bool false, .slice none 0 0]) ?_ 1 _ rfl; (with_reducible repeat (first | refine Ze ?_ _ | refine Zg ?_ | refine Zf ?_ _)); refine Zu (cs := #[.bool false, .slice none 0 0]) ?_ 0 _ rfl; (with_reducible repeat (first | refine Ze ?_ _ | refine Zg ?_ | refine Zf ?_ _)); exact BK298.out) Try.underlying24 rfl (by kernel_rfl) rfl (by (with_reducible repeat (first | refine Ze ?_ _ | refine Zg ?_ | refine Zf ?_ _)); refine Zu (cs := #[.int .i64 9, .int .i64 0]) ?_ 1 _ rfl; (with_reducible repeat (first | refine Ze ?_ _ | refine Zg ?_ | refine Zf ?_ _)); refine Zu (cs := #[.int .i64 0, .int .i64 0]) ?_ 0 _ rfl; (with_reducible repeat (first | refine Ze ?_ _ | refine Zg ?_ | refine Zf ?_ _)); refine Zr ?_ NB299_298.out _; (with_reducible repeat (first | refine Ze ?_ _ | refine Zg ?_ | refine Zf ?_ _)); refine Zr ?_ NB299_298.out _; (with_reducible repeat (first | refine Ze ?_ _ | refine Zg ?_ | refine Zf ?_ _)); exact BK299.out) Try.underlying35 rfl (by kernel_rfl)) rfl ?_
    exact ⟨_, by first | rfl | (simp [errW_none, errW_some] <;> rfl) | (simp [*, errW_none, errW_some] <;> rfl), by first | exact Kd.R_nil _ _ _ _ _ | exact Kd.V_nil _ _ _ _ _ | exact Kd.S_nil _ _ _ _ _, by repeat (first | (with_reducible first | exact HB.out | apply Zc | apply Za | apply Zd | refine Zh ?_ GE298.out | refine Zh ?_ GE299.out) | exact HB.out)⟩
   ·rw [if_neg c12] at H
    have c12b0 : decide (0 ≤ t301) = false := decide_eq_false c12
    clear c12
    replace H := Option.bind_eq_some_iff.mp H
    obtain ⟨⟨t302, t303, t306⟩, A180, H⟩ := H
    replace H : (r19Parse.l0 k a0 a1 0 t302 t303 t306) = some (r1, r2, r3, r4) := H
    have A18 := Zb.mk A180
    clear A180
    have H' := Zb.mk H
    clear H
    go_enter Try.func18, Try.ntmps18
    go_wp2_with (first | ((with_reducible refine Zt (N := 4) rfl ?_); refine Zs ?hg (N := 4) ?hd (cs := #[.bool false, .slice none 0 0]) (t := 24) ?hr ?_; (case hd => rfl); (case hg => rfl); (case hr => first | (go_simp; done) | (go_simp; rfl)); intro gb298 hg w19 hbox hb; have n0_ := Zb.mk (Zl (by repeat (first | (with_reducible first | exact HB.out | apply Zc | apply Za | apply Zd) | exact HB.out)) hb); have n1_ := Zb.mk (hbox); have n2_ := Zb.mk ((by rw [hg]; exact (Zi (by repeat (first | (with_reducible first | exact HB.out | apply Zc | apply Za | apply Zd) | exact HB.out))) : w.heap.size ≤ gb298)); have n3_ := Zb.mk ((by rw [hg]; exact (Zi (by repeat (first | (with_reducible first | exact HB.out | apply Zc | apply Za | apply Zd) | exact HB.out))) : w.heap.size ≤ gb298)); clear HB; have HB := n0_; have BK298 := n1_; have GW298 := n2_; have GE298 := n3_; clear n0_ n1_ n2_ n3_; clear hb hbox hg) | ((with_reducible refine Zt (N := 5) rfl ?_); refine Zs ?hg (N := 5) ?hd (cs := #[.int .i64 0, .int .i64 0]) (t := 35) ?hr ?_; (case hd => rfl); (case hg => rfl); (case hr => first | (go_simp; done) | (go_simp; rfl)); intro gb299 hg w20 hbox hb; have n0_ := Zb.mk (Zn (g := gb298) (o := .cells #[.bool false, .slice none 0 0] 24 (0, 0)) (by (with_reducible repeat (first | refine Ze ?_ _ | refine Zg ?_ | refine Zf ?_ _)); exact BK298.out) hb); have n1_ := Zb.mk (Zl (by repeat (first | (with_reducible first | exact HB.out | apply Zc | apply Za | apply Zd | refine Zh ?_ GE298.out) | exact HB.out)) hb); have n2_ := Zb.mk (hbox); have n3_ := Zb.mk ((by rw [hg]; exact (Zi (by repeat (first | (with_reducible first | exact HB.out | apply Zc | apply Za | apply Zd | refine Zh ?_ GE298.out) | exact HB.out))) : w.heap.size ≤ gb299)); have n4_ := Zb.mk ((by rw [hg]; exact (Zi (by repeat (first | (with_reducible first | exact HB.out | apply Zc | apply Za | apply Zd | refine Zh ?_ GE298.out) | exact HB.out))) : w.heap.size ≤ gb299)); have n5_ := Zb.mk ((by rw [hg]; exact Nat.ne_of_lt (Zw (g := gb298) (o := .cells #[.bool false, .slice none 0 0] 24 (0, 0)) (by (with_reducible repeat (first | refine Ze ?_ _ | refine Zg ?_ | refine Zf ?_ _)); exact BK298.out)) : gb298 ≠ gb299)); have n6_ := Zb.mk ((by rw [hg]; exact Nat.ne_of_gt (Zw (g := gb298) (o := .cells #[.bool false, .slice none 0 0] 24 (0, 0)) (by (with_reducible repeat (first | refine Ze ?_ _ | refine Zg ?_ | refine Zf ?_ _)); exact BK298.out)) : gb299 ≠ gb298)); clear BK298; clear HB; have BK298 := n0_; have HB := n1_; have BK299 := n2_; have GW299 := n3_; have GE299 := n4_; have NB298_299 := n5_; have NB299_298 := n6_; clear n0_ n1_ n2_ n3_ n4_ n5_ n6_; clear hb hbox hg) | ((with_reducible refine Zp (f := 42) rfl ?_); refine ZB (some 12) rfl rfl Try.func42 (by kernel_rfl) rfl #[.int .i64 a1] rfl (by (try simp only [List.map_toArray, List.map_cons, List.map_nil]); first | done | rfl | (simp only [List.length_drop, List.length_take]; rfl)) ?_; (with_reducible refine (r19may.calls a1 true _ A3.out).mono ?_); rintro e w' ⟨rfl, ⟨nd, rfl⟩⟩; refine ⟨_, rfl, ?_⟩; (try (rw [ZK w20]; generalize hq_ : World.drewN w20 _ = w20; have n0_ : Zb (w20.heap[gb298]? = some (.cells #[.bool false, .slice none 0 0] 24 (0, 0))) := ⟨by rw [← hq_]; exact (by (with_reducible repeat (first | refine Ze ?_ _ | refine Zg ?_ | refine Zf ?_ _)); exact BK298.out)⟩; have n1_ : Zb (w20.heap[gb299]? = some (.cells #[.int .i64 0, .int .i64 0] 35 (0, 0))) := ⟨by rw [← hq_]; exact (by (with_reducible repeat (first | refine Ze ?_ _ | refine Zg ?_ | refine Zf ?_ _)); exact BK299.out)⟩; have n2_ : Zb (Below w.heap.size w w20) := ⟨by rw [← hq_]; exact (by repeat (first | (with_reducible first | exact HB.out | apply Zc | apply Za | apply Zd | refine Zh ?_ GE298.out | refine Zh ?_ GE299.out) | exact HB.out))⟩; clear BK298 BK299 HB hq_; have BK298 := n0_; have BK299 := n1_; have HB := n2_; clear n0_ n1_ n2_))) | ((with_reducible refine Zp (f := 48) rfl ?_); refine ZB (some 23) rfl rfl Try.func48 (by kernel_rfl) rfl #[.string a0, .int .i64 a1] rfl (by (try simp only [List.map_toArray, List.map_cons, List.map_nil]); first | done | rfl | (simp only [List.length_drop, List.length_take]; rfl)) ?_; (with_reducible refine (r19Wrong.calls k a0 a1 t301 _ A11.out).mono ?_); rintro e w' ⟨rfl, ⟨nd, rfl⟩⟩; refine ⟨_, rfl, ?_⟩; (try (rw [ZK w20]; generalize hq_ : World.drewN w20 _ = w20; have n0_ : Zb (w20.heap[gb298]? = some (.cells #[.bool false, .slice none 0 0] 24 (0, 0))) := ⟨by rw [← hq_]; exact (by (with_reducible repeat (first | refine Ze ?_ _ | refine Zg ?_ | refine Zf ?_ _)); exact BK298.out)⟩; have n1_ : Zb (w20.heap[gb299]? = some (.cells #[.int .i64 0, .int .i64 0] 35 (0, 0))) := ⟨by rw [← hq_]; exact (by (with_reducible repeat (first | refine Ze ?_ _ | refine Zg ?_ | refine Zf ?_ _)); exact BK299.out)⟩; have n2_ : Zb (Below w.heap.size w w20) := ⟨by rw [← hq_]; exact (by repeat (first | (with_reducible first | exact HB.out | apply Zc | apply Za | apply Zd | refine Zh ?_ GE298.out | refine Zh ?_ GE299.out) | exact HB.out))⟩; clear BK298 BK299 HB hq_; have BK298 := n0_; have BK299 := n1_; have HB := n2_; clear n0_ n1_ n2_))) | ((with_reducible refine Zp (f := 27) rfl ?_); refine ZB (some 29) rfl rfl Try.func27 (by kernel_rfl) rfl #[.int .i64 0] rfl (by (try simp only [List.map_toArray, List.map_cons, List.map_nil]); first | done | rfl | (simp only [List.length_drop, List.length_take]; rfl)) ?_; (with_reducible refine (r00Whole.calls k 0 t302 t303 t306 _ A18.out).mono ?_); rintro e w21 ⟨v304, rfl, ho0, hb⟩; refine ⟨_, rfl, ?_⟩; have n0_ := Zb.mk (Kd.ZG ho0 (Zi (by repeat (first | (with_reducible first | exact HB.out | apply Zc | apply Za | apply Zd | refine Zh ?_ GE298.out | refine Zh ?_ GE299.out) | exact HB.out)))); have n1_ := Zb.mk (Zn (g := gb298) (o := .cells #[.bool false, .slice none 0 0] 24 (0, 0)) (by (with_reducible repeat (first | refine Ze ?_ _ | refine Zg ?_ | refine Zf ?_ _)); exact BK298.out) hb); have n2_ := Zb.mk (Zn (g := gb299) (o := .cells #[.int .i64 0, .int .i64 0] 35 (0, 0)) (by (with_reducible repeat (first | refine Ze ?_ _ | refine Zg ?_ | refine Zf ?_ _)); exact BK299.out) hb); have n3_ := Zb.mk (Zl (by repeat (first | (with_reducible first | exact HB.out | apply Zc | apply Za | apply Zd | refine Zh ?_ GE298.out | refine Zh ?_ GE299.out) | exact HB.out)) hb); clear BK298; clear BK299; clear HB; have HO305 := n0_; have BK298 := n1_; have BK299 := n2_; have HB := n3_; clear n0_ n1_ n2_ n3_; (try clear hb); (try clear hb2); (try clear hk); (try clear hi); (try clear ho0)) | ((with_reducible refine Zt (N := 7) rfl ?_); refine Zs ?hg (N := 7) ?hd (cs := #[.bool false, .slice none 0 0, .int .i64 0]) (t := 48) ?hr ?_; (case hd => rfl); (case hg => rfl); (case hr => first | (go_simp; done) | (go_simp; rfl)); intro gb307 hg w22 hbox hb; have n0_ := Zb.mk (Kd.Zz (by (with_reducible repeat (first | apply Kd.Zm | apply Kd.Zo)); exact HO305.out) hb); have n1_ := Zb.mk (Zn (g := gb298) (o := .cells #[.bool false, .slice none 0 0] 24 (0, 0)) (by (with_reducible repeat (first | refine Ze ?_ _ | refine Zg ?_ | refine Zf ?_ _)); exact BK298.out) hb); have n2_ := Zb.mk (Zn (g := gb299) (o := .cells #[.int .i64 0, .int .i64 0] 35 (0, 0)) (by (with_reducible repeat (first | refine Ze ?_ _ | refine Zg ?_ | refine Zf ?_ _)); exact BK299.out) hb); have n3_ := Zb.mk (Zl (by repeat (first | (with_reducible first | exact HB.out | apply Zc | apply Za | apply Zd | refine Zh ?_ GE298.out | refine Zh ?_ GE299.out) | exact HB.out)) hb); have n4_ := Zb.mk (hbox); have n5_ := Zb.mk ((by rw [hg]; exact (Zi (by repeat (first | (with_reducible first | exact HB.out | apply Zc | apply Za | apply Zd | refine Zh ?_ GE298.out | refine Zh ?_ GE299.out) | exact HB.out))) : w.heap.size ≤ gb307)); have n6_ := Zb.mk ((by rw [hg]; exact (Zi (by repeat (first | (with_reducible first | exact HB.out | apply Zc | apply Za | apply Zd | refine Zh ?_ GE298.out | refine Zh ?_ GE299.out) | exact HB.out))) : w.heap.size ≤ gb307)); have n7_ := Zb.mk ((by rw [hg]; exact Nat.ne_of_lt (Zw (g := gb298) (o := .cells #[.bool false, .slice none 0 0] 24 (0, 0)) (by (with_reducible repeat (first | refine Ze ?_ _ | refine Zg ?_ | refine Zf ?_ _)); exact BK298.out)) : gb298 ≠ gb307)); have n8_ := Zb.mk ((by rw [hg]; exact Nat.ne_of_gt (Zw (g := gb298) (o := .cells #[.bool false, .slice none 0 0] 24 (0, 0)) (by (with_reducible repeat (first | refine Ze ?_ _ | refine Zg ?_ | refine Zf ?_ _)); exact BK298.out)) : gb307 ≠ gb298)); have n9_ := Zb.mk ((by rw [hg]; exact Nat.ne_of_lt (Zw (g := gb299) (o := .cells #[.int .i64 0, .int .i64 0] 35 (0, 0)) (by (with_reducible repeat (first | refine Ze ?_ _ | refine Zg ?_ | refine Zf ?_ _)); exact BK299.out)) : gb299 ≠ gb307)); have n10_ := Zb.mk ((by rw [hg]; exact Nat.ne_of_gt (Zw (g := gb299) (o := .cells #[.int .i64 0, .int .i64 0] 35 (0, 0)) (by (with_reducible repeat (first | refine Ze ?_ _ | refine Zg ?_ | refine Zf ?_ _)); exact BK299.out)) : gb307 ≠ gb299)); clear HO305; clear BK298; clear BK299; clear HB; have HO305 := n0_; have BK298 := n1_; have BK299 := n2_; have HB := n3_; have BK307 := n4_; have GW307 := n5_; have GE307 := n6_; have NB298_307 := n7_; have NB307_298 := n8_; have NB299_307 := n9_; have NB307_299 := n10_; clear n0_ n1_ n2_ n3_ n4_ n5_ n6_ n7_ n8_ n9_ n10_; clear hb hbox hg; have hnb23 := NB307_298.out; have hnc23 := NB298_307.out; have hnb24 := NB307_299.out; have hnc24 := NB299_307.out; have hcz25_0 : w22.cell? ⟨gb307, 0, none⟩ = some (.bool false) := (Zk BK307.out 0).trans rfl; have hcz25_1 : w22.cell? ⟨gb307, 1, none⟩ = some (.slice none 0 0) := (Zk BK307.out 1).trans rfl; have hcz25_2 : w22.cell? ⟨gb307, 2, none⟩ = some (.int .i64 0) := (Zk BK307.out 2).trans rfl; have hfz25_0 := Zj BK307.out 0; have hfz25_1 := Zj BK307.out 1; have hfz25_2 := Zj BK307.out 2; obtain ⟨Ao26, co26, eo26⟩ := Kd.Zy HO305.out; subst eo26))
    go_loopg [8] k (fun kq v8 w' => ∃ (x8_1 : Int) (x308000_1 : Bool) (x308001_1 : List Int) (x308002_1 : Int) (u308001 : Value), v8 = .int .i64 x8_1 ∧ Zb (r19Parse.l0 kq a0 a1 x8_1 x308000_1 x308001_1 x308002_1 = some (r1, r2, r3, r4)) ∧ Zb (kq ≤ k) ∧ Zb (Kd.R (Kd.int .u64) 46 w' w.heap.size (fun _ => True) u308001 x308001_1) ∧ Zb (w'.heap[gb298]? = some (.cells #[.bool false, (.slice none 0 0)] 24 (0, 0))) ∧ Zb (w'.heap[gb299]? = some (.cells #[.int .i64 0, .int .i64 0] 35 (0, 0))) ∧ Zb (w'.heap[gb307]? = some (.cells #[.bool x308000_1, u308001, .int .i64 x308002_1] 48 (0, 0))) ∧ Zb (Below w.heap.size w w'))
    case atStart => exact ⟨(0), (t302), (t303), (t306), (.slice Ao26 t303.length co26), (by first | rfl | (simp; done) | (simp [*]; done)), H', ⟨Nat.le_refl _⟩, ⟨by (with_reducible repeat (first | apply Kd.Zm | apply Kd.Zo)); exact Kd.ZE (Kd.ZH (p := ⟨gb307, 2, none⟩) (Kd.ZH (p := ⟨gb307, 1, none⟩) (Kd.ZH (p := ⟨gb307, 0, none⟩) (Kd.ZI HO305.out BK307.out (by decide)) (fun _ hk => hk.2) (.bool t302)) (fun _ hk => hk.2) (.slice Ao26 t303.length co26)) (fun _ hk => hk.2) (.int .i64 t306)) (fun _ hk => trivial)⟩, ⟨by (with_reducible repeat (first | refine Ze ?_ _ | refine Zg ?_ | refine Zf ?_ _)); refine Zr ?_ NB298_307.out _; (with_reducible repeat (first | refine Ze ?_ _ | refine Zg ?_ | refine Zf ?_ _)); refine Zr ?_ NB298_307.out _; (with_reducible repeat (first | refine Ze ?_ _ | refine Zg ?_ | refine Zf ?_ _)); refine Zr ?_ NB298_307.out _; (with_reducible repeat (first | refine Ze ?_ _ | refine Zg ?_ | refine Zf ?_ _)); exact BK298.out⟩, ⟨by (with_reducible repeat (first | refine Ze ?_ _ | refine Zg ?_ | refine Zf ?_ _)); refine Zr ?_ NB299_307.out _; (with_reducible repeat (first | refine Ze ?_ _ | refine Zg ?_ | refine Zf ?_ _)); refine Zr ?_ NB299_307.out _; (with_reducible repeat (first | refine Ze ?_ _ | refine Zg ?_ | refine Zf ?_ _)); refine Zr ?_ NB299_307.out _; (with_reducible repeat (first | refine Ze ?_ _ | refine Zg ?_ | refine Zf ?_ _)); exact BK299.out⟩, ⟨by (with_reducible repeat (first | refine Ze ?_ _ | refine Zg ?_ | refine Zf ?_ _)); refine Zu (cs := #[.bool t302, .slice Ao26 t303.length co26, .int .i64 0]) ?_ 2 _ rfl; (with_reducible repeat (first | refine Ze ?_ _ | refine Zg ?_ | refine Zf ?_ _)); refine Zu (cs := #[.bool t302, .slice none 0 0, .int .i64 0]) ?_ 1 _ rfl; (with_reducible repeat (first | refine Ze ?_ _ | refine Zg ?_ | refine Zf ?_ _)); refine Zu (cs := #[.bool false, .slice none 0 0, .int .i64 0]) ?_ 0 _ rfl; (with_reducible repeat (first | refine Ze ?_ _ | refine Zg ?_ | refine Zf ?_ _)); exact BK307.out⟩, ⟨by repeat (first | (with_reducible first | exact HB.out | apply Zc | apply Za | apply Zd | refine Zh ?_ GE298.out | refine Zh ?_ GE299.out | refine Zh ?_ GE307.out) | exact HB.out)⟩⟩
    case round =>
     clear H'
     try clear c1
     try clear c2
     try clear p2
     try clear c4
     try clear c5
     try clear c5b0
     try clear c5b1
     try clear c8
     try clear c12
     try clear c12b0
     try clear c15
     try clear c18
     try clear c23
     try clear c24
     try clear hcz10_0
     try clear hcz10_1
     try clear hcz16_0
     try clear hcz16_1
     try clear hcz17_0
     try clear hcz17_1
     try clear hcz25_0
     try clear hcz25_1
     try clear hcz25_2
     try clear hcz9_0
     try clear hcz9_1
     try clear hfz10_0
     try clear hfz10_1
     try clear hfz16_0
     try clear hfz16_1
     try clear hfz17_0
     try clear hfz17_1
     try clear hfz25_0
     try clear hfz25_1
     try clear hfz25_2
     try clear hfz9_0
     try clear hfz9_1
     obtain ⟨x8_1, x308000_1, x308001_1, x308002_1, u308001, rfl, HA, HK1, HO_308001, BK298, BK299, BK307, HB⟩ := hrel
     cases gk with
     | zero => exact absurd HA.out (by simp [r19Parse.l0])
     | succ k1 =>
      have H := HA.out
      clear HA
      simp only [r19Parse.l0] at H
      by_cases c27 : x8_1 < (a0.size : Int)
      ·rw [if_pos c27] at H
       have c27b0 : decide (x8_1 < (a0.size : Int)) = true := decide_eq_true c27
       clear c27
       by_cases c28 : 0 ≤ x8_1
       ·rw [if_pos c28] at H
        have c28b0 : decide (0 ≤ x8_1) = true := decide_eq_true c28
        clear c28
        by_cases c30 : (bt a0 x8_1) = 45
        ·rw [if_pos c30] at H
         have c30b0 : ((bt a0 x8_1) == 45) = true := beq_iff_eq.mpr c30
         have c30b1 : ((bt a0 x8_1) != 45) = false := bne_eq_false_iff_eq.mpr c30
         clear c30
         have H' := Zb.mk H
         clear H
         have p29 : 0 ≤ (x8_1 : Int) := of_decide_eq_true (by first | (with_reducible assumption) | assumption)
         have q29 : x8_1 < (a0.size : Int) := of_decide_eq_true (by first | (with_reducible assumption) | assumption)
         have hx29 := bt_at a0 x8_1
         replace p29 := eq_true p29
         replace q29 := eq_true q29
         go_wp2
         go_roundg k1
         case measure => have := HK1.out; omega
         case rel => exact ⟨(wrap64 (x8_1 + 1)), (x308000_1), (x308001_1), (x308002_1), (u308001), (by first | rfl | (simp; done) | (simp [*]; done)), H', ⟨by have := HK1.out; omega⟩, ⟨by (with_reducible repeat (first | apply Kd.Zm | apply Kd.Zo)); exact HO_308001.out⟩, ⟨by (with_reducible repeat (first | refine Ze ?_ _ | refine Zg ?_ | refine Zf ?_ _)); exact BK298.out⟩, ⟨by (with_reducible repeat (first | refine Ze ?_ _ | refine Zg ?_ | refine Zf ?_ _)); exact BK299.out⟩, ⟨by (with_reducible repeat (first | refine Ze ?_ _ | refine Zg ?_ | refine Zf ?_ _)); exact BK307.out⟩, ⟨by repeat (first | (with_reducible first | exact HB.out | apply Zc | apply Za | apply Zd | refine Zh ?_ GE298.out | refine Zh ?_ GE299.out | refine Zh ?_ GE307.out) | exact HB.out)⟩⟩
        ·rw [if_neg c30] at H
         have c30b0 : ((bt a0 x8_1) == 45) = false := beq_eq_false_iff_ne.mpr c30
         have c30b1 : ((bt a0 x8_1) != 45) = true := bne_iff_ne.mpr c30
         replace H := Option.bind_eq_some_iff.mp H
         obtain ⟨⟨t308, t309, t312⟩, A310, H⟩ := H
         replace H : ((r00Times.f k1 x308000_1 x308001_1 x308002_1 t308 t309 t312).bind fun bt313 => ((r19worth.f k1 (bt a0 x8_1) a1).bind fun t318 => ((r00Whole.f k1 t318).bind fun bt319 => ((r00Plus.f k1 bt313.1 bt313.2.1 bt313.2.2 bt319.1 bt319.2.1 bt319.2.2).bind fun bt324 => (r19Parse.l0 k1 a0 a1 (wrap64 (x8_1 + 1)) bt324.1 bt324.2.1 bt324.2.2))))) = some (r1, r2, r3, r4) := H
         have A31 := Zb.mk A310
         clear A310
         replace H := Option.bind_eq_some_iff.mp H
         obtain ⟨⟨t313, t314, t317⟩, A320, H⟩ := H
         replace H : ((r19worth.f k1 (bt a0 x8_1) a1).bind fun t318 => ((r00Whole.f k1 t318).bind fun bt319 => ((r00Plus.f k1 t313 t314 t317 bt319.1 bt319.2.1 bt319.2.2).bind fun bt324 => (r19Parse.l0 k1 a0 a1 (wrap64 (x8_1 + 1)) bt324.1 bt324.2.1 bt324.2.2)))) = some (r1, r2, r3, r4) := H
         have A32 := Zb.mk A320
         clear A320
         replace H := Option.bind_eq_some_iff.mp H
         obtain ⟨t318, A340, H⟩ := H
         replace H : ((r00Whole.f k1 t318).bind fun bt319 => ((r00Plus.f k1 t313 t314 t317 bt319.1 bt319.2.1 bt319.2.2).bind fun bt324 => (r19Parse.l0 k1 a0 a1 (wrap64 (x8_1 + 1)) bt324.1 bt324.2.1 bt324.2.2))) = some (r1, r2, r3, r4) := H
         have A34 := Zb.mk A340
         clear A340
         replace H := Option.bind_eq_some_iff.mp H
         obtain ⟨⟨t319, t320, t323⟩, A350, H⟩ := H
         replace H : ((r00Plus.f k1 t313 t314 t317 t319 t320 t323).bind fun bt324 => (r19Parse.l0 k1 a0 a1 (wrap64 (x8_1 + 1)) bt324.1 bt324.2.1 bt324.2.2)) = some (r1, r2, r3, r4) := H
         have A35 := Zb.mk A350
         clear A350
         replace H := Option.bind_eq_some_iff.mp H
         obtain ⟨⟨t324, t325, t328⟩, A360, H⟩ := H
         replace H : (r19Parse.l0 k1 a0 a1 (wrap64 (x8_1 + 1)) t324 t325 t328) = some (r1, r2, r3, r4) := H
         have A36 := Zb.mk A360
         clear A360
         have H' := Zb.mk H
         clear H
         have p29 : 0 ≤ (x8_1 : Int) := of_decide_eq_true (by first | (with_reducible assumption) | assumption)
         have q29 : x8_1 < (a0.size : Int) := of_decide_eq_true (by first | (with_reducible assumption) | assumption)
         have hx29 := bt_at a0 x8_1
         replace p29 := eq_true p29
         replace q29 := eq_true q29
         try go_wp2
         have n0_ := Zb.mk (Kd.Zo HO_308001.out)
         have n1_ := Zb.mk (Zg BK298.out)
         have n2_ := Zb.mk (Zg BK299.out)
         have n3_ := Zb.mk (Zg BK307.out)
         have n4_ := Zb.mk (Zd HB.out)
         clear HO_308001
         clear BK298
         clear BK299
         clear BK307
         clear HB
         have HO_308001 := n0_
         have BK298 := n1_
         have BK299 := n2_
         have BK307 := n3_
         have HB := n4_
         clear n0_ n1_ n2_ n3_ n4_
         have p33 : 0 ≤ (x8_1 : Int) := of_decide_eq_true (by first | (with_reducible assumption) | assumption)
         have q33 : x8_1 < (a0.size : Int) := of_decide_eq_true (by first | (with_reducible assumption) | assumption)
         have hx33 := bt_at a0 x8_1
         replace p33 := eq_true p33
         replace q33 := eq_true q33
         refine start_ (n := 12) (S := fun w' => w'.cell? ⟨gb307, 0, none⟩ = some (.bool x308000_1) ∧ w'.cell? ⟨gb307, 1, none⟩ = some (u308001) ∧ w'.cell? ⟨gb307, 2, none⟩ = some (.int .i64 x308002_1)) (ds := [11]) #[false, false, false, false, false, false, false, false, false, false, false, false] (by kernel_rfl) rfl rfl ⟨(Zk BK307.out 0).trans rfl, (Zk BK307.out 1).trans rfl, (Zk BK307.out 2).trans rfl⟩ (fun hHeld => ?_); refine with_tabW r19Parse.tab13 r19Parse.bits13 (fun HT_ HW_ => ?_)
         generalize wr.drew = w37 at HO_308001 BK298 BK299 BK307 HB hHeld ⊢
         refine ZM (i := 1) (N := some 41) (v := ?_) (a' := ?_) #[false, true, false, false, false, false, false, false, false, false, false, false] rfl rfl (ZD HT_.out (by kernel_rfl)) (fun _ _ _ h => h) (Or.inl ⟨by rfl, ?_⟩) ?_ ?_
         rotate_left
         ·intro w'
          go_simp
          with_reducible rfl
         rotate_left
         ·simp only [Act.put, List.setIfInBounds_toArray, List.set_cons_zero, List.set_cons_succ, Zx, ZA]
          rfl
         refine ZM (i := 4) (N := some 44) (v := ?_) (a' := ?_) #[false, true, false, false, true, false, false, false, false, false, false, false] rfl rfl (ZD HT_.out (by kernel_rfl)) (fun _ _ _ h => h) (Or.inl ⟨by rfl, ?_⟩) ?_ ?_
         rotate_left
         ·intro w'
          go_simp
          with_reducible rfl
         rotate_left
         ·simp only [Act.put, List.setIfInBounds_toArray, List.set_cons_zero, List.set_cons_succ, Zx, ZA]
          rfl
         refine ZM (i := 5) (N := some 45) (v := ?_) (a' := ?_) #[false, true, false, false, true, true, false, false, false, false, false, false] rfl rfl (ZD HT_.out (by kernel_rfl)) (fun _ _ _ h => h) (Or.inl ⟨by rfl, ?_⟩) ?_ ?_
         rotate_left
         ·intro w'
          go_simp
          with_reducible rfl
         rotate_left
         ·simp only [Act.put, List.setIfInBounds_toArray, List.set_cons_zero, List.set_cons_succ, Zx, ZA]
          rfl
         refine ZM (i := 7) (N := some 47) (v := ?_) (a' := ?_) #[false, true, false, false, true, true, false, true, false, false, false, false] rfl rfl (ZD HT_.out (by kernel_rfl)) (fun _ _ _ h => h) (Or.inl ⟨by rfl, ?_⟩) ?_ ?_
         rotate_left
         ·intro w'
          go_simp
          with_reducible rfl
         rotate_left
         ·simp only [Act.put, List.setIfInBounds_toArray, List.set_cons_zero, List.set_cons_succ, Zx, ZA]
          rfl
         refine take_ (i := 0) (N := some 40) (v := ?_) (a' := ?_) #[true, true, false, false, true, true, false, true, false, false, false, false] rfl rfl (take_ofW HT_.out HW_.out (by kernel_rfl)) (fun _ _ _ h => h) (Or.inl ⟨by rfl, ?_⟩) hHeld ?_ ?_
         rotate_left
         ·rintro w' ⟨s0, s1, s2⟩
          go_simp
          with_reducible rfl
         rotate_left
         ·simp only [Act.put, List.setIfInBounds_toArray, List.set_cons_zero, List.set_cons_succ, Zx, ZA]
          rfl
         refine take_ (i := 6) (N := some 46) (v := ?_) (a' := ?_) #[true, true, false, false, true, true, true, true, false, false, false, false] rfl rfl (take_ofW HT_.out HW_.out (by kernel_rfl)) (fun _ _ _ h => h) (Or.inl ⟨by rfl, ?_⟩) hHeld ?_ ?_
         rotate_left
         ·rintro w' ⟨s0, s1, s2⟩
          go_simp
          with_reducible rfl
         rotate_left
         ·simp only [Act.put, List.setIfInBounds_toArray, List.set_cons_zero, List.set_cons_succ, Zx, ZA]
          rfl
         refine one_ (i := 2) (N := some 42) #[true, true, true, false, true, true, true, true, false, false, false, false] rfl rfl (one_of HT_.out (by kernel_rfl)) (by decide) (fun K hK => ?_)
         refine goes_ Try.func27 (by kernel_rfl) rfl #[.int .i64 a1] (by rfl) rfl rfl (by (try simp only [List.map_toArray, List.map_cons, List.map_nil]); first | done | rfl | (simp only [List.length_drop, List.length_take]; rfl)) ?_
         with_reducible refine (r00Whole.calls k1 a1 t308 t309 t312 _ A31.out).mono ?_
         rintro e w38 ⟨v310, rfl, ho0, hb⟩
         refine ⟨_, rfl, ?_⟩
         have n0_ := Zb.mk (Kd.ZJ (by (with_reducible repeat (first | apply Kd.Zm | apply Kd.Zo)); exact HO_308001.out) (Kd.ZV ho0) hb)
         have n1_ := Zb.mk (Kd.ZG (Kd.R_new' ho0 (Kd.R_lt (by (with_reducible repeat (first | apply Kd.Zm | apply Kd.Zo)); exact HO_308001.out))) (Zi (by repeat (first | (with_reducible first | exact HB.out | apply Zc | apply Za | apply Zd | refine Zh ?_ GE298.out | refine Zh ?_ GE299.out | refine Zh ?_ GE307.out) | exact HB.out))))
         have n2_ := Zb.mk (Zn (g := gb298) (o := .cells #[.bool false, .slice none 0 0] 24 (0, 0)) (by (with_reducible repeat (first | refine Ze ?_ _ | refine Zg ?_ | refine Zf ?_ _)); exact BK298.out) hb)
         have n3_ := Zb.mk (Zn (g := gb299) (o := .cells #[.int .i64 0, .int .i64 0] 35 (0, 0)) (by (with_reducible repeat (first | refine Ze ?_ _ | refine Zg ?_ | refine Zf ?_ _)); exact BK299.out) hb)
         have n4_ := Zb.mk (Zn (g := gb307) (o := .cells #[.bool x308000_1, u308001, .int .i64 x308002_1] 48 (0, 0)) (by (with_reducible repeat (first | refine Ze ?_ _ | refine Zg ?_ | refine Zf ?_ _)); exact BK307.out) hb)
         have n5_ := Zb.mk (Zl (by repeat (first | (with_reducible first | exact HB.out | apply Zc | apply Za | apply Zd | refine Zh ?_ GE298.out | refine Zh ?_ GE299.out | refine Zh ?_ GE307.out) | exact HB.out)) hb)
         clear HO_308001
         clear BK298
         clear BK299
         clear BK307
         clear HB
         have HO_308001 := n0_
         have HO311 := n1_
         have BK298 := n2_
         have BK299 := n3_
         have BK307 := n4_
         have HB := n5_
         clear n0_ n1_ n2_ n3_ n4_ n5_
         (try clear hb)
         (try clear hb2)
         (try clear hk)
         (try clear hi)
         (try clear ho0)
         obtain ⟨Ao39, co39, eo39⟩ := Kd.Zy HO_308001.out
         (first | subst eo39 | (injection eo39 with f1_ f2_ f3_; have f4_ := f1_.symm; have f5_ := f3_.symm; clear f1_ f2_ f3_; subst f4_; subst f5_))
         obtain ⟨Ao40, co40, eo40⟩ := Kd.Zy HO311.out
         (first | subst eo40 | (injection eo40 with f1_ f2_ f3_; have f4_ := f1_.symm; have f5_ := f3_.symm; clear f1_ f2_ f3_; subst f4_; subst f5_))
         refine hK.out _ _ ⟨(Zk BK307.out 0).trans rfl, (Zk BK307.out 1).trans rfl, (Zk BK307.out 2).trans rfl⟩ (fun hHeld => ?_)
         clear hK K
         refine norm_ (a' := ?_) ?_ ?_
         rotate_left
         ·show Act.put _ (some 42) _ = _
          simp only [Act.put, List.setIfInBounds_toArray, List.set_cons_zero, List.set_cons_succ, Zx, ZA]
          rfl
         refine one_ (i := 3) (N := some 43) #[true, true, true, true, true, true, true, true, false, false, false, false] rfl rfl (one_of HT_.out (by kernel_rfl)) (by decide) (fun K hK => ?_)
         refine goes_ Try.func25 (by kernel_rfl) rfl #[.agg #[.bool x308000_1, .slice Ao39 x308001_1.length co39, .int .i64 x308002_1], .agg #[.bool t308, .slice Ao40 t309.length co40, .int .i64 t312]] (by rfl) rfl rfl (by (try simp only [List.map_toArray, List.map_cons, List.map_nil]); first | done | rfl | (simp only [List.length_drop, List.length_take]; rfl)) ?_
         with_reducible refine (r00Times.calls k1 x308000_1 _ _ x308001_1 x308002_1 t308 _ _ t309 t312 t313 t314 t317 _ ?side1 ?side2 ?side3 ?side4 A32.out).mono ?_
         (case side1 => repeat (first | exact (Kd.Zv HO_308001.out).2.2 | (with_reducible refine Kd.ZC ?_ _) | (with_reducible refine Kd.ZF ?_ _) | (with_reducible refine Kd.ZN ?_)))
         (case side2 => exact (Kd.Zv HO_308001.out).2.1)
         (case side3 => repeat (first | exact (Kd.Zv HO311.out).2.2 | (with_reducible refine Kd.ZC ?_ _) | (with_reducible refine Kd.ZF ?_ _) | (with_reducible refine Kd.ZN ?_)))
         (case side4 => exact (Kd.Zv HO311.out).2.1)
         rintro e w41 ⟨v315, rfl, ho0, hb⟩
         refine ⟨_, rfl, ?_⟩
         have n0_ := Zb.mk (Kd.ZJ (by (with_reducible repeat (first | apply Kd.Zm | apply Kd.Zo)); exact HO_308001.out) (Kd.ZV ho0) hb)
         have n1_ := Zb.mk (Kd.ZJ (by (with_reducible repeat (first | apply Kd.Zm | apply Kd.Zo)); exact HO311.out) (Kd.ZV ho0) hb)
         have n2_ := Zb.mk (Kd.ZG (Kd.R_new' (Kd.R_new' ho0 (Kd.R_lt (by (with_reducible repeat (first | apply Kd.Zm | apply Kd.Zo)); exact HO_308001.out))) (Kd.R_lt (by (with_reducible repeat (first | apply Kd.Zm | apply Kd.Zo)); exact HO311.out))) (Zi (by repeat (first | (with_reducible first | exact HB.out | apply Zc | apply Za | apply Zd | refine Zh ?_ GE298.out | refine Zh ?_ GE299.out | refine Zh ?_ GE307.out) | exact HB.out))))
         have n3_ := Zb.mk (Zn (g := gb298) (o := .cells #[.bool false, .slice none 0 0] 24 (0, 0)) (by (with_reducible repeat (first | refine Ze ?_ _ | refine Zg ?_ | refine Zf ?_ _)); exact BK298.out) hb)
         have n4_ := Zb.mk (Zn (g := gb299) (o := .cells #[.int .i64 0, .int .i64 0] 35 (0, 0)) (by (with_reducible repeat (first | refine Ze ?_ _ | refine Zg ?_ | refine Zf ?_ _)); exact BK299.out) hb)
         have n5_ := Zb.mk (Zn (g := gb307) (o := .cells #[.bool x308000_1, .slice Ao39 x308001_1.length co39, .int .i64 x308002_1] 48 (0, 0)) (by (with_reducible repeat (first | refine Ze ?_ _ | refine Zg ?_ | refine Zf ?_ _)); exact BK307.out) hb)
         have n6_ := Zb.mk (Zl (by repeat (first | (with_reducible first | exact HB.out | apply Zc | apply Za | apply Zd | refine Zh ?_ GE298.out | refine Zh ?_ GE299.out | refine Zh ?_ GE307.out) | exact HB.out)) hb)
         clear HO_308001
         clear HO311
         clear BK298
         clear BK299
         clear BK307
         clear HB
         have HO_308001 := n0_
         have HO311 := n1_
         have HO316 := n2_
         have BK298 := n3_
         have BK299 := n4_
         have BK307 := n5_
         have HB := n6_
         clear n0_ n1_ n2_ n3_ n4_ n5_ n6_
         (try clear hb)
         (try clear hb2)
         (try clear hk)
         (try clear hi)
         (try clear ho0)
         refine hK.out _ _ ⟨(Zk BK307.out 0).trans rfl, (Zk BK307.out 1).trans rfl, (Zk BK307.out 2).trans rfl⟩ (fun hHeld => ?_)
         clear hK K
         refine norm_ (a' := ?_) ?_ ?_
         rotate_left
         ·show Act.put _ (some 43) _ = _
          simp only [Act.put, List.setIfInBounds_toArray, List.set_cons_zero, List.set_cons_succ, Zx, ZA]
          rfl
         refine one_ (i := 8) (N := some 48) #[true, true, true, true, true, true, true, true, true, false, false, false] rfl rfl (one_of HT_.out (by kernel_rfl)) (by decide) (fun K hK => ?_)
         refine goes_ Try.func49 (by kernel_rfl) rfl #[.int .u8 (bt a0 x8_1), .int .i64 a1] (by rfl) rfl rfl (by (try simp only [List.map_toArray, List.map_cons, List.map_nil]); first | done | rfl | (simp only [List.length_drop, List.length_take]; rfl)) ?_
         with_reducible refine (r19worth.calls k1 (bt a0 x8_1) a1 t318 _ A34.out).mono ?_
         rintro e w' ⟨rfl, ⟨nd, rfl⟩⟩
         refine ⟨_, rfl, ?_⟩
         refine hK.out _ _ ⟨(Zk BK307.out 0).trans rfl, (Zk BK307.out 1).trans rfl, (Zk BK307.out 2).trans rfl⟩ (fun hHeld => ?_)
         clear hK K
         refine norm_ (a' := ?_) ?_ ?_
         rotate_left
         ·show Act.put _ (some 48) _ = _
          simp only [Act.put, List.setIfInBounds_toArray, List.set_cons_zero, List.set_cons_succ, Zx, ZA]
          rfl
         refine one_ (i := 9) (N := some 49) #[true, true, true, true, true, true, true, true, true, true, false, false] rfl rfl (one_of HT_.out (by kernel_rfl)) (by decide) (fun K hK => ?_)
         refine goes_ Try.func27 (by kernel_rfl) rfl #[.int .i64 t318] (by rfl) rfl rfl (by (try simp only [List.map_toArray, List.map_cons, List.map_nil]); first | done | rfl | (simp only [List.length_drop, List.length_take]; rfl)) ?_
         with_reducible refine (r00Whole.calls k1 t318 t319 t320 t323 _ A35.out).mono ?_
         rintro e w42 ⟨v321, rfl, ho0, hb⟩
         refine ⟨_, rfl, ?_⟩
         have n0_ := Zb.mk (Kd.ZJ (by (with_reducible repeat (first | apply Kd.Zm | apply Kd.Zo)); exact HO_308001.out) (Kd.ZV ho0) hb)
         have n1_ := Zb.mk (Kd.ZJ (by (with_reducible repeat (first | apply Kd.Zm | apply Kd.Zo)); exact HO311.out) (Kd.ZV ho0) hb)
         have n2_ := Zb.mk (Kd.ZJ (by (with_reducible repeat (first | apply Kd.Zm | apply Kd.Zo)); exact HO316.out) (Kd.ZV ho0) hb)
         have n3_ := Zb.mk (Kd.ZG (Kd.R_new' (Kd.R_new' (Kd.R_new' ho0 (Kd.R_lt (by (with_reducible repeat (first | apply Kd.Zm | apply Kd.Zo)); exact HO_308001.out))) (Kd.R_lt (by (with_reducible repeat (first | apply Kd.Zm | apply Kd.Zo)); exact HO311.out))) (Kd.R_lt (by (with_reducible repeat (first | apply Kd.Zm | apply Kd.Zo)); exact HO316.out))) (Zi (by repeat (first | (with_reducible first | exact HB.out | apply Zc | apply Za | apply Zd | refine Zh ?_ GE298.out | refine Zh ?_ GE299.out | refine Zh ?_ GE307.out) | exact HB.out))))
         have n4_ := Zb.mk (Zn (g := gb298) (o := .cells #[.bool false, .slice none 0 0] 24 (0, 0)) (by (with_reducible repeat (first | refine Ze ?_ _ | refine Zg ?_ | refine Zf ?_ _)); exact BK298.out) hb)
         have n5_ := Zb.mk (Zn (g := gb299) (o := .cells #[.int .i64 0, .int .i64 0] 35 (0, 0)) (by (with_reducible repeat (first | refine Ze ?_ _ | refine Zg ?_ | refine Zf ?_ _)); exact BK299.out) hb)
         have n6_ := Zb.mk (Zn (g := gb307) (o := .cells #[.bool x308000_1, .slice Ao39 x308001_1.length co39, .int .i64 x308002_1] 48 (0, 0)) (by (with_reducible repeat (first | refine Ze ?_ _ | refine Zg ?_ | refine Zf ?_ _)); exact BK307.out) hb)
         have n7_ := Zb.mk (Zl (by repeat (first | (with_reducible first | exact HB.out | apply Zc | apply Za | apply Zd | refine Zh ?_ GE298.out | refine Zh ?_ GE299.out | refine Zh ?_ GE307.out) | exact HB.out)) hb)
         clear HO_308001
         clear HO311
         clear HO316
         clear BK298
         clear BK299
         clear BK307
         clear HB
         have HO_308001 := n0_
         have HO311 := n1_
         have HO316 := n2_
         have HO322 := n3_
         have BK298 := n4_
         have BK299 := n5_
         have BK307 := n6_
         have HB := n7_
         clear n0_ n1_ n2_ n3_ n4_ n5_ n6_ n7_
         (try clear hb)
         (try clear hb2)
         (try clear hk)
         (try clear hi)
         (try clear ho0)
         obtain ⟨Ao43, co43, eo43⟩ := Kd.Zy HO316.out
         (first | subst eo43 | (injection eo43 with f1_ f2_ f3_; have f4_ := f1_.symm; have f5_ := f3_.symm; clear f1_ f2_ f3_; subst f4_; subst f5_))
         obtain ⟨Ao44, co44, eo44⟩ := Kd.Zy HO322.out
         (first | subst eo44 | (injection eo44 with f1_ f2_ f3_; have f4_ := f1_.symm; have f5_ := f3_.symm; clear f1_ f2_ f3_; subst f4_; subst f5_))
         refine hK.out _ _ ⟨(Zk BK307.out 0).trans rfl, (Zk BK307.out 1).trans rfl, (Zk BK307.out 2).trans rfl⟩ (fun hHeld => ?_)
         clear hK K
         refine norm_ (a' := ?_) ?_ ?_
         rotate_left
         ·show Act.put _ (some 49) _ = _
          simp only [Act.put, List.setIfInBounds_toArray, List.set_cons_zero, List.set_cons_succ, Zx, ZA]
          rfl
         refine one_ (i := 10) (N := some 50) #[true, true, true, true, true, true, true, true, true, true, true, false] rfl rfl (one_of HT_.out (by kernel_rfl)) (by decide) (fun K hK => ?_)
         refine goes_ Try.func24 (by kernel_rfl) rfl #[.agg #[.bool t313, .slice Ao43 t314.length co43, .int .i64 t317], .agg #[.bool t319, .slice Ao44 t320.length co44, .int .i64 t323]] (by rfl) rfl rfl (by (try simp only [List.map_toArray, List.map_cons, List.map_nil]); first | done | rfl | (simp only [List.length_drop, List.length_take]; rfl)) ?_
         with_reducible refine (r00Plus.calls k1 t313 (fun k_ => some k_ = (.slice Ao43 t314.length co43 : Value).ownBlock) (.slice Ao43 t314.length co43) t314 t317 t319 (fun k_ => some k_ = (.slice Ao44 t320.length co44 : Value).ownBlock) (.slice Ao44 t320.length co44) t320 t323 t324 t325 t328 w _ ?side1 ?side2 ?side3 ?side4 ?side5 A36.out).mono ?_
         (case side1 => repeat (first | (with_reducible first | exact HB.out | apply Zc | apply Za | apply Zd | refine Zh ?_ GE298.out | refine Zh ?_ GE299.out | refine Zh ?_ GE307.out) | exact HB.out))
         (case side2 => exact Kd.R_tight rfl HO316.out)
         (case side3 => exact fun k_ e_ => (HO316.out.1 k_ e_.symm).2)
         (case side4 => exact Kd.R_tight rfl HO322.out)
         (case side5 => exact fun k_ e_ => (HO322.out.1 k_ e_.symm).2)
         rintro e w45 ⟨v326, rfl, ho0, hb, hkp⟩
         refine ⟨_, rfl, ?_⟩
         have n0_ := Zb.mk (Kd.ZE (ok' := fun k_ => some k_ ≠ (.slice Ao40 t309.length co40 : Value).ownBlock ∧ some k_ ≠ (v326 : Value).ownBlock) (Kd.R_keptB (HO_308001.out) hkp (fun k_ hk_ hs_ => Or.elim hs_ (fun e_ => (hk_.1.2) e_) (fun e_ => (hk_.2) e_))) (fun k_ hk_ => ⟨hk_.1.1.1.2, fun e_ => Or.elim (ho0.1 k_ e_.symm) (fun hs_ => hk_.2.1 hs_) (fun hn_ => Nat.not_le.2 hk_.2.2 hn_)⟩))
         have n1_ := Zb.mk (blk_kept (by (with_reducible repeat (first | refine Ze ?_ _ | refine Zg ?_ | refine Zf ?_ _)); exact BK298.out) hkp (fun hs_ => Or.elim hs_ (fun e_ => (fun e_ => (Kd.R_ne HO316.out BK298.out (by decide)) e_) e_) (fun e_ => (fun e_ => (Kd.R_ne HO322.out BK298.out (by decide)) e_) e_)))
         have n2_ := Zb.mk (blk_kept (by (with_reducible repeat (first | refine Ze ?_ _ | refine Zg ?_ | refine Zf ?_ _)); exact BK299.out) hkp (fun hs_ => Or.elim hs_ (fun e_ => (fun e_ => (Kd.R_ne HO316.out BK299.out (by decide)) e_) e_) (fun e_ => (fun e_ => (Kd.R_ne HO322.out BK299.out (by decide)) e_) e_)))
         have n3_ := Zb.mk (blk_kept (by (with_reducible repeat (first | refine Ze ?_ _ | refine Zg ?_ | refine Zf ?_ _)); exact BK307.out) hkp (fun hs_ => Or.elim hs_ (fun e_ => (fun e_ => (Kd.R_ne HO316.out BK307.out (by decide)) e_) e_) (fun e_ => (fun e_ => (Kd.R_ne HO322.out BK307.out (by decide)) e_) e_)))
         have n4_ := Zb.mk (Kd.ZE (ok' := fun k_ => some k_ ≠ (.slice Ao39 x308001_1.length co39 : Value).ownBlock ∧ some k_ ≠ (v326 : Value).ownBlock) (Kd.R_keptB (HO311.out) hkp (fun k_ hk_ hs_ => Or.elim hs_ (fun e_ => (hk_.1.2) e_) (fun e_ => (hk_.2) e_))) (fun k_ hk_ => ⟨hk_.1.1.1.2, fun e_ => Or.elim (ho0.1 k_ e_.symm) (fun hs_ => hk_.2.1 hs_) (fun hn_ => Nat.not_le.2 hk_.2.2 hn_)⟩))
         have n5_ := Zb.mk (Kd.ZE (ok' := fun k_ => some k_ ≠ (.slice Ao39 x308001_1.length co39 : Value).ownBlock ∧ some k_ ≠ (.slice Ao40 t309.length co40 : Value).ownBlock) ho0 (fun k_ hk_ => ⟨Or.elim hk_ (fun hs_ => Or.elim hs_ (fun hs_ => fun e_ => (((HO_308001.out).1 k_ e_.symm).1.2) hs_) (fun hs_ => fun e_ => (((HO_308001.out).1 k_ e_.symm).2) hs_)) (fun hn_ => (Kd.fresh' (Kd.R_lt (by (with_reducible repeat (first | apply Kd.Zm | apply Kd.Zo)); exact HO_308001.out)) k_ hn_)), Or.elim hk_ (fun hs_ => Or.elim hs_ (fun hs_ => fun e_ => (((HO311.out).1 k_ e_.symm).1.2) hs_) (fun hs_ => fun e_ => (((HO311.out).1 k_ e_.symm).2) hs_)) (fun hn_ => (Kd.fresh' (Kd.R_lt (by (with_reducible repeat (first | apply Kd.Zm | apply Kd.Zo)); exact HO311.out)) k_ hn_))⟩))
         have n6_ := Zb.mk (hb)
         clear HO_308001
         clear BK298
         clear BK299
         clear BK307
         clear HO311
         clear HB
         clear HO316
         clear HO322
         have HO_308001 := n0_
         have BK298 := n1_
         have BK299 := n2_
         have BK307 := n3_
         have HO311 := n4_
         have HO327 := n5_
         have HB := n6_
         clear n0_ n1_ n2_ n3_ n4_ n5_ n6_
         (try clear hb)
         (try clear hkp)
         (try clear ho0)
         obtain ⟨Ao47, co47, eo47⟩ := Kd.Zy HO327.out
         (first | subst eo47 | (injection eo47 with f1_ f2_ f3_; have f4_ := f1_.symm; have f5_ := f3_.symm; clear f1_ f2_ f3_; subst f4_; subst f5_))
         refine hK.out _ _ ⟨(Zk BK307.out 0).trans rfl, (Zk BK307.out 1).trans rfl, (Zk BK307.out 2).trans rfl⟩ (fun hHeld => ?_)
         clear hK K
         refine norm_ (a' := ?_) ?_ ?_
         rotate_left
         ·show Act.put _ (some 50) _ = _
          simp only [Act.put, List.setIfInBounds_toArray, List.set_cons_zero, List.set_cons_succ, Zx, ZA]
          rfl
         refine last_ (i := 11) (N := none) #[true, true, true, true, true, true, true, true, true, true, true, true] rfl rfl (one_of HT_.out (by kernel_rfl)) (by decide) (fun K hK => ?_)
         have hs46 : w45.cell? ⟨gb307, 0, none⟩ = some (.bool x308000_1) := (Zk BK307.out 0).trans rfl
         have hfs46 := Zj BK307.out 0
         have hns46_0 := NB298_307.out
         have hns46_1 := NB299_307.out
         have hms46_0 := NB307_298.out
         have hms46_1 := NB307_299.out
         have hs48 : w45.cell? ⟨gb307, 1, none⟩ = some (.slice Ao39 x308001_1.length co39) := (Zk BK307.out 1).trans rfl
         have hfs48 := Zj BK307.out 1
         have hns48_0 := NB298_307.out
         have hns48_1 := NB299_307.out
         have hms48_0 := NB307_298.out
         have hms48_1 := NB307_299.out
         have hs49 : w45.cell? ⟨gb307, 2, none⟩ = some (.int .i64 x308002_1) := (Zk BK307.out 2).trans rfl
         have hfs49 := Zj BK307.out 2
         have hns49_0 := NB298_307.out
         have hns49_1 := NB299_307.out
         have hms49_0 := NB307_298.out
         have hms49_1 := NB307_299.out
         refine skip_ (w1 := ?_) (by rfl) rfl ?_ ?_
         rotate_left
         ·go_simp
          rfl
         refine hK.out _ _ ?_
         clear hK K
         refine done_ (done_of HT_.out (by kernel_rfl)) ?_
         try go_wp2
         go_roundg k1
         case measure => have := HK1.out; omega
         case rel => exact ⟨(wrap64 (x8_1 + 1)), (t324), (t325), (t328), (.slice Ao47 t325.length co47), (by first | rfl | (simp; done) | (simp [*]; done)), H', ⟨by have := HK1.out; omega⟩, ⟨by (with_reducible repeat (first | apply Kd.Zm | apply Kd.Zo)); exact Kd.ZE (Kd.ZH (p := ⟨gb307, 2, none⟩) (Kd.ZH (p := ⟨gb307, 1, none⟩) (Kd.ZH (p := ⟨gb307, 0, none⟩) (Kd.ZI HO327.out BK307.out (by decide)) (fun _ hk => hk.2) (.bool t324)) (fun _ hk => hk.2) (.slice Ao47 t325.length co47)) (fun _ hk => hk.2) (.int .i64 t328)) (fun _ hk => trivial)⟩, ⟨by (with_reducible repeat (first | refine Ze ?_ _ | refine Zg ?_ | refine Zf ?_ _)); refine Zr ?_ NB298_307.out _; (with_reducible repeat (first | refine Ze ?_ _ | refine Zg ?_ | refine Zf ?_ _)); refine Zr ?_ NB298_307.out _; (with_reducible repeat (first | refine Ze ?_ _ | refine Zg ?_ | refine Zf ?_ _)); refine Zr ?_ NB298_307.out _; (with_reducible repeat (first | refine Ze ?_ _ | refine Zg ?_ | refine Zf ?_ _)); exact BK298.out⟩, ⟨by (with_reducible repeat (first | refine Ze ?_ _ | refine Zg ?_ | refine Zf ?_ _)); refine Zr ?_ NB299_307.out _; (with_reducible repeat (first | refine Ze ?_ _ | refine Zg ?_ | refine Zf ?_ _)); refine Zr ?_ NB299_307.out _; (with_reducible repeat (first | refine Ze ?_ _ | refine Zg ?_ | refine Zf ?_ _)); refine Zr ?_ NB299_307.out _; (with_reducible repeat (first | refine Ze ?_ _ | refine Zg ?_ | refine Zf ?_ _)); exact BK299.out⟩, ⟨by (with_reducible repeat (first | refine Ze ?_ _ | refine Zg ?_ | refine Zf ?_ _)); refine Zu (cs := #[.bool t324, .slice Ao47 t325.length co47, .int .i64 x308002_1]) ?_ 2 _ rfl; (with_reducible repeat (first | refine Ze ?_ _ | refine Zg ?_ | refine Zf ?_ _)); refine Zu (cs := #[.bool t324, .slice Ao39 x308001_1.length co39, .int .i64 x308002_1]) ?_ 1 _ rfl; (with_reducible repeat (first | refine Ze ?_ _ | refine Zg ?_ | refine Zf ?_ _)); refine Zu (cs := #[.bool x308000_1, .slice Ao39 x308001_1.length co39, .int .i64 x308002_1]) ?_ 0 _ rfl; (with_reducible repeat (first | refine Ze ?_ _ | refine Zg ?_ | refine Zf ?_ _)); exact BK307.out⟩, ⟨by repeat (first | (with_reducible first | exact HB.out | apply Zc | apply Za | apply Zd | refine Zh ?_ GE298.out | refine Zh ?_ GE299.out | refine Zh ?_ GE307.out) | exact HB.out)⟩⟩
       ·rw [if_neg c28] at H
        exact absurd H (by simp)
      ·rw [if_neg c27] at H
       have c27b0 : decide (x8_1 < (a0.size : Int)) = false := decide_eq_false c27
       clear c27
       by_cases c50 : 0 < (a0.size : Int)
       ·rw [if_pos c50] at H
        have c50b0 : decide (0 < (a0.size : Int)) = true := decide_eq_true c50
        have c50b1 : decide (0 < a0.size) = true := decide_eq_true (by omega)
        clear c50
        by_cases c52 : (bt a0 0) = 45
        ·rw [if_pos c52] at H
         have c52b0 : ((bt a0 0) == 45) = true := beq_iff_eq.mpr c52
         have c52b1 : ((bt a0 0) != 45) = false := bne_eq_false_iff_eq.mpr c52
         clear c52
         replace H := Option.bind_eq_some_iff.mp H
         obtain ⟨⟨t329, t330, t333⟩, A530, H⟩ := H
         replace H : ((r13Told.f k1 t329 t330 t333).bind fun bt334 => (if bt334.2.2 = 0 then (some (bt334.1, bt334.2.1, 0, 0)) else (some (false, ([] : List Int), 3, 0)))) = some (r1, r2, r3, r4) := H
         have A53 := Zb.mk A530
         clear A530
         replace H := Option.bind_eq_some_iff.mp H
         obtain ⟨⟨t334, t335, t338⟩, A540, H⟩ := H
         replace H : (if t338 = 0 then (some (t334, t335, 0, 0)) else (some (false, ([] : List Int), 3, 0))) = some (r1, r2, r3, r4) := H
         have A54 := Zb.mk A540
         clear A540
         by_cases c55 : t338 = 0
         ·rw [if_pos c55] at H
          have c55b0 : (t338 == 0) = true := beq_iff_eq.mpr c55
          have c55b1 : (t338 != 0) = false := bne_eq_false_iff_eq.mpr c55
          clear c55
          simp only [Option.some.injEq, Prod.mk.injEq] at H
          obtain ⟨rfl, rfl, rfl, rfl⟩ := H
          have p51 : 0 ≤ (0 : Int) := (by omega)
          have q51 : 0 < a0.size := (by have : (0 : Int) < (a0.size : Int) := of_decide_eq_true (by first | (with_reducible assumption) | assumption); omega)
          have hx51 : ∀ h : 0 < a0.size, ((a0[0]'h).toNat : Int) = bt a0 0 := bt_at a0 0
          clear p51
          have qi51 : (0 < (a0.size : Int)) = True := eq_true (of_decide_eq_true (by first | (with_reducible assumption) | assumption))
          replace q51 := eq_true q51
          have hnb56 := NB307_298.out
          have hnc56 := NB298_307.out
          have hnb57 := NB307_299.out
          have hnc57 := NB299_307.out
          have hcz58_0 : wr.cell? ⟨gb307, 0, none⟩ = some (.bool x308000_1) := (Zk BK307.out 0).trans rfl
          have hcz58_1 : wr.cell? ⟨gb307, 1, none⟩ = some (u308001) := (Zk BK307.out 1).trans rfl
          have hcz58_2 : wr.cell? ⟨gb307, 2, none⟩ = some (.int .i64 x308002_1) := (Zk BK307.out 2).trans rfl
          have hfz58_0 := Zj BK307.out 0
          have hfz58_1 := Zj BK307.out 1
          have hfz58_2 := Zj BK307.out 2
          obtain ⟨Ao59, co59, eo59⟩ := Kd.Zy HO_308001.out
          subst eo59
          go_wp2_with (first | ((with_reducible refine Zp (f := 50) rfl ?_); refine ZB (some 55) rfl rfl Try.func50 (by kernel_rfl) rfl #[.agg #[.bool x308000_1, .slice Ao59 x308001_1.length co59, .int .i64 x308002_1]] rfl (by (try simp only [List.map_toArray, List.map_cons, List.map_nil]); first | done | rfl | (simp only [List.length_drop, List.length_take]; rfl)) ?_; (with_reducible refine (r00Minus.calls x308000_1 (fun k_ => some k_ = (.slice Ao59 x308001_1.length co59 : Value).ownBlock) (.slice Ao59 x308001_1.length co59) x308001_1 x308002_1 t329 t330 t333 w _ ?side1 ?side2 A53.out).mono ?_); (case side1 => repeat (first | (with_reducible first | exact HB.out | apply Zc | apply Za | apply Zd | refine Zh ?_ GE298.out | refine Zh ?_ GE299.out | refine Zh ?_ GE307.out) | exact HB.out)); (case side2 => exact Kd.R_tight rfl HO_308001.out); rintro e w60 ⟨v331, rfl, ho0, hb, hkp⟩; refine ⟨_, rfl, ?_⟩; have n0_ := Zb.mk (blk_kept (by (with_reducible repeat (first | refine Ze ?_ _ | refine Zg ?_ | refine Zf ?_ _)); exact BK298.out) hkp (fun hs_ => (fun e_ => (Kd.R_ne HO_308001.out BK298.out (by decide)) e_) hs_)); have n1_ := Zb.mk (blk_kept (by (with_reducible repeat (first | refine Ze ?_ _ | refine Zg ?_ | refine Zf ?_ _)); exact BK299.out) hkp (fun hs_ => (fun e_ => (Kd.R_ne HO_308001.out BK299.out (by decide)) e_) hs_)); have n2_ := Zb.mk (blk_kept (by (with_reducible repeat (first | refine Ze ?_ _ | refine Zg ?_ | refine Zf ?_ _)); exact BK307.out) hkp (fun hs_ => (fun e_ => (Kd.R_ne HO_308001.out BK307.out (by decide)) e_) hs_)); have n3_ := Zb.mk (Kd.ZE (ok' := fun k_ => True) ho0 (fun k_ hk_ => trivial)); have n4_ := Zb.mk (hb); clear BK298; clear BK299; clear BK307; clear HB; clear HO_308001; have BK298 := n0_; have BK299 := n1_; have BK307 := n2_; have HO332 := n3_; have HB := n4_; clear n0_ n1_ n2_ n3_ n4_; (try clear hb); (try clear hkp); (try clear ho0); have hcz61_0 : w60.cell? ⟨gb307, 0, none⟩ = some (.bool x308000_1) := (Zk BK307.out 0).trans rfl; have hcz61_1 : w60.cell? ⟨gb307, 1, none⟩ = some (.slice Ao59 x308001_1.length co59) := (Zk BK307.out 1).trans rfl; have hcz61_2 : w60.cell? ⟨gb307, 2, none⟩ = some (.int .i64 x308002_1) := (Zk BK307.out 2).trans rfl; have hfz61_0 := Zj BK307.out 0; have hfz61_1 := Zj BK307.out 1; have hfz61_2 := Zj BK307.out 2; obtain ⟨Ao62, co62, eo62⟩ := Kd.Zy HO332.out; subst eo62) | ((with_reducible refine Zp (f := 51) rfl ?_); refine ZB (some 58) rfl rfl Try.func51 (by kernel_rfl) rfl #[.agg #[.bool t329, .slice Ao62 t330.length co62, .int .i64 t333]] rfl (by (try simp only [List.map_toArray, List.map_cons, List.map_nil]); first | done | rfl | (simp only [List.length_drop, List.length_take]; rfl)) ?_; (with_reducible refine (r13Told.calls k1 t329 _ _ t330 t333 t334 t335 t338 _ ?side1 ?side2 A54.out).mono ?_); (case side1 => refine (Kd.Zv (e := 46) (base := w.heap.size) (ok := fun k_ => True) (n := t330.length) (c := co62) ?_).2.2; exact (by (with_reducible repeat (first | apply Kd.Zm | apply Kd.Zo)); exact (Kd.ZE (Kd.ZH (p := ⟨gb307, 2, none⟩) (Kd.ZH (p := ⟨gb307, 1, none⟩) (Kd.ZH (p := ⟨gb307, 0, none⟩) (Kd.ZI HO332.out BK307.out (by decide)) (fun _ hk => hk.2) (.bool t329)) (fun _ hk => hk.2) (.slice Ao62 t330.length co62)) (fun _ hk => hk.2) (.int .i64 t333)) (fun _ h_ => h_.1)))); (case side2 => exact (Kd.Zv HO332.out).2.1); rintro e w63 ⟨v336, rfl, ho0, hb⟩; refine ⟨_, rfl, ?_⟩; have n0_ := Zb.mk (Kd.ZJ (by (with_reducible repeat (first | apply Kd.Zm | apply Kd.Zo)); exact (Kd.ZE (Kd.ZH (p := ⟨gb307, 2, none⟩) (Kd.ZH (p := ⟨gb307, 1, none⟩) (Kd.ZH (p := ⟨gb307, 0, none⟩) (Kd.ZI HO332.out BK307.out (by decide)) (fun _ hk => hk.2) (.bool t329)) (fun _ hk => hk.2) (.slice Ao62 t330.length co62)) (fun _ hk => hk.2) (.int .i64 t333)) (fun _ h_ => h_.1))) (Kd.ZV ho0) hb); have n1_ := Zb.mk (Kd.ZG (Kd.R_new' ho0 (Kd.R_lt (by (with_reducible repeat (first | apply Kd.Zm | apply Kd.Zo)); exact (Kd.ZE (Kd.ZH (p := ⟨gb307, 2, none⟩) (Kd.ZH (p := ⟨gb307, 1, none⟩) (Kd.ZH (p := ⟨gb307, 0, none⟩) (Kd.ZI HO332.out BK307.out (by decide)) (fun _ hk => hk.2) (.bool t329)) (fun _ hk => hk.2) (.slice Ao62 t330.length co62)) (fun _ hk => hk.2) (.int .i64 t333)) (fun _ h_ => h_.1))))) (Zi (by repeat (first | (with_reducible first | exact HB.out | apply Zc | apply Za | apply Zd | refine Zh ?_ GE298.out | refine Zh ?_ GE299.out | refine Zh ?_ GE307.out) | exact HB.out)))); have n2_ := Zb.mk (Zn (g := gb298) (o := .cells #[.bool false, .slice none 0 0] 24 (0, 0)) (by (with_reducible repeat (first | refine Ze ?_ _ | refine Zg ?_ | refine Zf ?_ _)); refine Zr ?_ NB298_307.out _; (with_reducible repeat (first | refine Ze ?_ _ | refine Zg ?_ | refine Zf ?_ _)); refine Zr ?_ NB298_307.out _; (with_reducible repeat (first | refine Ze ?_ _ | refine Zg ?_ | refine Zf ?_ _)); refine Zr ?_ NB298_307.out _; (with_reducible repeat (first | refine Ze ?_ _ | refine Zg ?_ | refine Zf ?_ _)); exact BK298.out) hb); have n3_ := Zb.mk (Zn (g := gb299) (o := .cells #[.int .i64 0, .int .i64 0] 35 (0, 0)) (by (with_reducible repeat (first | refine Ze ?_ _ | refine Zg ?_ | refine Zf ?_ _)); refine Zr ?_ NB299_307.out _; (with_reducible repeat (first | refine Ze ?_ _ | refine Zg ?_ | refine Zf ?_ _)); refine Zr ?_ NB299_307.out _; (with_reducible repeat (first | refine Ze ?_ _ | refine Zg ?_ | refine Zf ?_ _)); refine Zr ?_ NB299_307.out _; (with_reducible repeat (first | refine Ze ?_ _ | refine Zg ?_ | refine Zf ?_ _)); exact BK299.out) hb); have n4_ := Zb.mk (Zn (g := gb307) (o := .cells #[.bool t329, .slice Ao62 t330.length co62, .int .i64 t333] 48 (0, 0)) (by (with_reducible repeat (first | refine Ze ?_ _ | refine Zg ?_ | refine Zf ?_ _)); refine Zu (cs := #[.bool t329, .slice Ao62 t330.length co62, .int .i64 x308002_1]) ?_ 2 _ rfl; (with_reducible repeat (first | refine Ze ?_ _ | refine Zg ?_ | refine Zf ?_ _)); refine Zu (cs := #[.bool t329, .slice Ao59 x308001_1.length co59, .int .i64 x308002_1]) ?_ 1 _ rfl; (with_reducible repeat (first | refine Ze ?_ _ | refine Zg ?_ | refine Zf ?_ _)); refine Zu (cs := #[.bool x308000_1, .slice Ao59 x308001_1.length co59, .int .i64 x308002_1]) ?_ 0 _ rfl; (with_reducible repeat (first | refine Ze ?_ _ | refine Zg ?_ | refine Zf ?_ _)); exact BK307.out) hb); have n5_ := Zb.mk (Zl (by repeat (first | (with_reducible first | exact HB.out | apply Zc | apply Za | apply Zd | refine Zh ?_ GE298.out | refine Zh ?_ GE299.out | refine Zh ?_ GE307.out) | exact HB.out)) hb); clear HO332; clear BK298; clear BK299; clear BK307; clear HB; have HO332 := n0_; have HO337 := n1_; have BK298 := n2_; have BK299 := n3_; have BK307 := n4_; have HB := n5_; clear n0_ n1_ n2_ n3_ n4_ n5_; (try clear hb); (try clear hb2); (try clear hk); (try clear hi); (try clear ho0)) | ((with_reducible refine Zt (N := 9) rfl ?_); refine Zs ?hg (N := 9) ?hd (cs := #[.bool false, .slice none 0 0]) (t := 24) ?hr ?_; (case hd => rfl); (case hg => rfl); (case hr => first | (go_simp; done) | (go_simp; rfl)); intro gb339 hg w64 hbox hb; have n0_ := Zb.mk (Kd.Zz (by (with_reducible repeat (first | apply Kd.Zm | apply Kd.Zo)); exact HO332.out) hb); have n1_ := Zb.mk (Kd.Zz (by (with_reducible repeat (first | apply Kd.Zm | apply Kd.Zo)); exact HO337.out) hb); have n2_ := Zb.mk (Zn (g := gb298) (o := .cells #[.bool false, .slice none 0 0] 24 (0, 0)) (by (with_reducible repeat (first | refine Ze ?_ _ | refine Zg ?_ | refine Zf ?_ _)); exact BK298.out) hb); have n3_ := Zb.mk (Zn (g := gb299) (o := .cells #[.int .i64 0, .int .i64 0] 35 (0, 0)) (by (with_reducible repeat (first | refine Ze ?_ _ | refine Zg ?_ | refine Zf ?_ _)); exact BK299.out) hb); have n4_ := Zb.mk (Zn (g := gb307) (o := .cells #[.bool t329, .slice Ao62 t330.length co62, .int .i64 t333] 48 (0, 0)) (by (with_reducible repeat (first | refine Ze ?_ _ | refine Zg ?_ | refine Zf ?_ _)); exact BK307.out) hb); have n5_ := Zb.mk (Zl (by repeat (first | (with_reducible first | exact HB.out | apply Zc | apply Za | apply Zd | refine Zh ?_ GE298.out | refine Zh ?_ GE299.out | refine Zh ?_ GE307.out) | exact HB.out)) hb); have n6_ := Zb.mk (hbox); have n7_ := Zb.mk ((by rw [hg]; exact (Zi (by repeat (first | (with_reducible first | exact HB.out | apply Zc | apply Za | apply Zd | refine Zh ?_ GE298.out | refine Zh ?_ GE299.out | refine Zh ?_ GE307.out) | exact HB.out))) : w.heap.size ≤ gb339)); have n8_ := Zb.mk ((by rw [hg]; exact (Zi (by repeat (first | (with_reducible first | exact HB.out | apply Zc | apply Za | apply Zd | refine Zh ?_ GE298.out | refine Zh ?_ GE299.out | refine Zh ?_ GE307.out) | exact HB.out))) : w.heap.size ≤ gb339)); have n9_ := Zb.mk ((by rw [hg]; exact Nat.ne_of_lt (Zw (g := gb298) (o := .cells #[.bool false, .slice none 0 0] 24 (0, 0)) (by (with_reducible repeat (first | refine Ze ?_ _ | refine Zg ?_ | refine Zf ?_ _)); exact BK298.out)) : gb298 ≠ gb339)); have n10_ := Zb.mk ((by rw [hg]; exact Nat.ne_of_gt (Zw (g := gb298) (o := .cells #[.bool false, .slice none 0 0] 24 (0, 0)) (by (with_reducible repeat (first | refine Ze ?_ _ | refine Zg ?_ | refine Zf ?_ _)); exact BK298.out)) : gb339 ≠ gb298)); have n11_ := Zb.mk ((by rw [hg]; exact Nat.ne_of_lt (Zw (g := gb299) (o := .cells #[.int .i64 0, .int .i64 0] 35 (0, 0)) (by (with_reducible repeat (first | refine Ze ?_ _ | refine Zg ?_ | refine Zf ?_ _)); exact BK299.out)) : gb299 ≠ gb339)); have n12_ := Zb.mk ((by rw [hg]; exact Nat.ne_of_gt (Zw (g := gb299) (o := .cells #[.int .i64 0, .int .i64 0] 35 (0, 0)) (by (with_reducible repeat (first | refine Ze ?_ _ | refine Zg ?_ | refine Zf ?_ _)); exact BK299.out)) : gb339 ≠ gb299)); have n13_ := Zb.mk ((by rw [hg]; exact Nat.ne_of_lt (Zw (g := gb307) (o := .cells #[.bool t329, .slice Ao62 t330.length co62, .int .i64 t333] 48 (0, 0)) (by (with_reducible repeat (first | refine Ze ?_ _ | refine Zg ?_ | refine Zf ?_ _)); exact BK307.out)) : gb307 ≠ gb339)); have n14_ := Zb.mk ((by rw [hg]; exact Nat.ne_of_gt (Zw (g := gb307) (o := .cells #[.bool t329, .slice Ao62 t330.length co62, .int .i64 t333] 48 (0, 0)) (by (with_reducible repeat (first | refine Ze ?_ _ | refine Zg ?_ | refine Zf ?_ _)); exact BK307.out)) : gb339 ≠ gb307)); clear HO332; clear HO337; clear BK298; clear BK299; clear BK307; clear HB; have HO332 := n0_; have HO337 := n1_; have BK298 := n2_; have BK299 := n3_; have BK307 := n4_; have HB := n5_; have BK339 := n6_; have GW339 := n7_; have GE339 := n8_; have NB298_339 := n9_; have NB339_298 := n10_; have NB299_339 := n11_; have NB339_299 := n12_; have NB307_339 := n13_; have NB339_307 := n14_; clear n0_ n1_ n2_ n3_ n4_ n5_ n6_ n7_ n8_ n9_ n10_ n11_ n12_ n13_ n14_; clear hb hbox hg; have hnb65 := NB339_298.out; have hnc65 := NB298_339.out; have hnb66 := NB339_299.out; have hnc66 := NB299_339.out; have hnb67 := NB339_307.out; have hnc67 := NB307_339.out; have hcz68_0 : w64.cell? ⟨gb339, 0, none⟩ = some (.bool false) := (Zk BK339.out 0).trans rfl; have hcz68_1 : w64.cell? ⟨gb339, 1, none⟩ = some (.slice none 0 0) := (Zk BK339.out 1).trans rfl; have hfz68_0 := Zj BK339.out 0; have hfz68_1 := Zj BK339.out 1; obtain ⟨Ao69, co69, eo69⟩ := Kd.Zy HO337.out; subst eo69; have hnb70 := NB298_299.out; have hnc70 := NB299_298.out; have hcz71_0 : w64.cell? ⟨gb298, 0, none⟩ = some (.bool false) := (Zk BK298.out 0).trans rfl; have hcz71_1 : w64.cell? ⟨gb298, 1, none⟩ = some (.slice none 0 0) := (Zk BK298.out 1).trans rfl; have hfz71_0 := Zj BK298.out 0; have hfz71_1 := Zj BK298.out 1; have hcz72_0 : w64.cell? ⟨gb299, 0, none⟩ = some (.int .i64 0) := (Zk BK299.out 0).trans rfl; have hcz72_1 : w64.cell? ⟨gb299, 1, none⟩ = some (.int .i64 0) := (Zk BK299.out 1).trans rfl; have hfz72_0 := Zj BK299.out 0; have hfz72_1 := Zj BK299.out 1))
          refine bodyPost_ret (results_cc rfl _ _ gb298 gb299 24 35 #[.bool t334, .slice Ao69 t335.length co69] #[.int .i64 0, .int .i64 0] (0, 0) (0, 0) _ _ rfl (by (with_reducible repeat (first | refine Ze ?_ _ | refine Zg ?_ | refine Zf ?_ _)); refine Zr ?_ NB298_299.out _; (with_reducible repeat (first | refine Ze ?_ _ | refine Zg ?_ | refine Zf ?_ _)); refine Zr ?_ NB298_299.out _; (with_reducible repeat (first | refine Ze ?_ _ | refine Zg ?_ | refine Zf ?_ _)); refine Zu (cs := #[.bool t334, .slice none 0 0]) ?_ 1 _ rfl; (with_reducible repeat (first | refine Ze ?_ _ | refine Zg ?_ | refine Zf ?_ _)); refine Zu (cs := #[.bool false, .slice none 0 0]) ?_ 0 _ rfl; (with_reducible repeat (first | refine Ze ?_ _ | refine Zg ?_ | refine Zf ?_ _)); refine Zr ?_ NB298_339.out _; (with_reducible repeat (first | refine Ze ?_ _ | refine Zg ?_ | refine Zf ?_ _)); refine Zr ?_ NB298_339.out _; (with_reducible repeat (first | refine Ze ?_ _ | refine Zg ?_ | refine Zf ?_ _)); exact BK298.out) Try.underlying24 rfl (by kernel_rfl) rfl (by (with_reducible repeat (first | refine Ze ?_ _ | refine Zg ?_ | refine Zf ?_ _)); refine Zu (cs := #[.int .i64 0, .int .i64 0]) ?_ 1 _ rfl; (with_reducible repeat (first | refine Ze ?_ _ | refine Zg ?_ | refine Zf ?_ _)); refine Zu (cs := #[.int .i64 0, .int .i64 0]) ?_ 0 _ rfl; (with_reducible repeat (first | refine Ze ?_ _ | refine Zg ?_ | refine Zf ?_ _)); refine Zr ?_ NB299_298.out _; (with_reducible repeat (first | refine Ze ?_ _ | refine Zg ?_ | refine Zf ?_ _)); refine Zr ?_ NB299_298.out _; (with_reducible repeat (first | refine Ze ?_ _ | refine Zg ?_ | refine Zf ?_ _)); refine Zr ?_ NB299_339.out _; (with_reducible repeat (first | refine Ze ?_ _ | refine Zg ?_ | refine Zf ?_ _)); refine Zr ?_ NB299_339.out _; (with_reducible repeat (first | refine Ze ?_ _ | refine Zg ?_ | refine Zf ?_ _)); exact BK299.out) Try.underlying35 rfl (by kernel_rfl)) rfl ?_
          exact ⟨_, by first | rfl | (simp [errW_none, errW_some] <;> rfl) | (simp [*, errW_none, errW_some] <;> rfl), by (with_reducible repeat (first | apply Kd.Zm | apply Kd.Zo)); exact Kd.ZE (Kd.ZH (p := ⟨gb299, 1, none⟩) (Kd.ZH (p := ⟨gb299, 0, none⟩) (Kd.ZH (p := ⟨gb298, 1, none⟩) (Kd.ZH (p := ⟨gb298, 0, none⟩) (Kd.ZH (p := ⟨gb339, 1, none⟩) (Kd.ZH (p := ⟨gb339, 0, none⟩) (Kd.ZI (Kd.ZI (Kd.ZI HO337.out BK339.out (by decide)) BK298.out (by decide)) BK299.out (by decide)) (fun _ hk => hk.1.1.2) (.bool t334)) (fun _ hk => hk.1.1.2) (.slice Ao69 t335.length co69)) (fun _ hk => hk.1.2) (.bool t334)) (fun _ hk => hk.1.2) (.slice Ao69 t335.length co69)) (fun _ hk => hk.2) (.int .i64 0)) (fun _ hk => hk.2) (.int .i64 0)) (fun _ hk => trivial), by repeat (first | (with_reducible first | exact HB.out | apply Zc | apply Za | apply Zd | refine Zh ?_ GE298.out | refine Zh ?_ GE299.out | refine Zh ?_ GE307.out | refine Zh ?_ GE339.out) | exact HB.out)⟩
         ·rw [if_neg c55] at H
          have c55b0 : (t338 == 0) = false := beq_eq_false_iff_ne.mpr c55
          have c55b1 : (t338 != 0) = true := bne_iff_ne.mpr c55
          simp only [Option.some.injEq, Prod.mk.injEq] at H
          obtain ⟨rfl, rfl, rfl, rfl⟩ := H
          have p51 : 0 ≤ (0 : Int) := (by omega)
          have q51 : 0 < a0.size := (by have : (0 : Int) < (a0.size : Int) := of_decide_eq_true (by first | (with_reducible assumption) | assumption); omega)
          have hx51 : ∀ h : 0 < a0.size, ((a0[0]'h).toNat : Int) = bt a0 0 := bt_at a0 0
          clear p51
          have qi51 : (0 < (a0.size : Int)) = True := eq_true (of_decide_eq_true (by first | (with_reducible assumption) | assumption))
          replace q51 := eq_true q51
          have hnb73 := NB307_298.out
          have hnc73 := NB298_307.out
          have hnb74 := NB307_299.out
          have hnc74 := NB299_307.out
          have hcz75_0 : wr.cell? ⟨gb307, 0, none⟩ = some (.bool x308000_1) := (Zk BK307.out 0).trans rfl
          have hcz75_1 : wr.cell? ⟨gb307, 1, none⟩ = some (u308001) := (Zk BK307.out 1).trans rfl
          have hcz75_2 : wr.cell? ⟨gb307, 2, none⟩ = some (.int .i64 x308002_1) := (Zk BK307.out 2).trans rfl
          have hfz75_0 := Zj BK307.out 0
          have hfz75_1 := Zj BK307.out 1
          have hfz75_2 := Zj BK307.out 2
          obtain ⟨Ao76, co76, eo76⟩ := Kd.Zy HO_308001.out
          subst eo76
          go_wp2_with (first | ((with_reducible refine Zp (f := 50) rfl ?_); refine ZB (some 55) rfl rfl Try.func50 (by kernel_rfl) rfl #[.agg #[.bool x308000_1, .slice Ao76 x308001_1.length co76, .int .i64 x308002_1]] rfl (by (try simp only [List.map_toArray, List.map_cons, List.map_nil]); first | done | rfl | (simp only [List.length_drop, List.length_take]; rfl)) ?_; (with_reducible refine (r00Minus.calls x308000_1 (fun k_ => some k_ = (.slice Ao76 x308001_1.length co76 : Value).ownBlock) (.slice Ao76 x308001_1.length co76) x308001_1 x308002_1 t329 t330 t333 w _ ?side1 ?side2 A53.out).mono ?_); (case side1 => repeat (first | (with_reducible first | exact HB.out | apply Zc | apply Za | apply Zd | refine Zh ?_ GE298.out | refine Zh ?_ GE299.out | refine Zh ?_ GE307.out) | exact HB.out)); (case side2 => exact Kd.R_tight rfl HO_308001.out); rintro e w77 ⟨v331, rfl, ho0, hb, hkp⟩; refine ⟨_, rfl, ?_⟩; have n0_ := Zb.mk (blk_kept (by (with_reducible repeat (first | refine Ze ?_ _ | refine Zg ?_ | refine Zf ?_ _)); exact BK298.out) hkp (fun hs_ => (fun e_ => (Kd.R_ne HO_308001.out BK298.out (by decide)) e_) hs_)); have n1_ := Zb.mk (blk_kept (by (with_reducible repeat (first | refine Ze ?_ _ | refine Zg ?_ | refine Zf ?_ _)); exact BK299.out) hkp (fun hs_ => (fun e_ => (Kd.R_ne HO_308001.out BK299.out (by decide)) e_) hs_)); have n2_ := Zb.mk (blk_kept (by (with_reducible repeat (first | refine Ze ?_ _ | refine Zg ?_ | refine Zf ?_ _)); exact BK307.out) hkp (fun hs_ => (fun e_ => (Kd.R_ne HO_308001.out BK307.out (by decide)) e_) hs_)); have n3_ := Zb.mk (Kd.ZE (ok' := fun k_ => True) ho0 (fun k_ hk_ => trivial)); have n4_ := Zb.mk (hb); clear BK298; clear BK299; clear BK307; clear HB; clear HO_308001; have BK298 := n0_; have BK299 := n1_; have BK307 := n2_; have HO332 := n3_; have HB := n4_; clear n0_ n1_ n2_ n3_ n4_; (try clear hb); (try clear hkp); (try clear ho0); have hcz78_0 : w77.cell? ⟨gb307, 0, none⟩ = some (.bool x308000_1) := (Zk BK307.out 0).trans rfl; have hcz78_1 : w77.cell? ⟨gb307, 1, none⟩ = some (.slice Ao76 x308001_1.length co76) := (Zk BK307.out 1).trans rfl; have hcz78_2 : w77.cell? ⟨gb307, 2, none⟩ = some (.int .i64 x308002_1) := (Zk BK307.out 2).trans rfl; have hfz78_0 := Zj BK307.out 0; have hfz78_1 := Zj BK307.out 1; have hfz78_2 := Zj BK307.out 2; obtain ⟨Ao79, co79, eo79⟩ := Kd.Zy HO332.out; subst eo79) | ((with_reducible refine Zp (f := 51) rfl ?_); refine ZB (some 58) rfl rfl Try.func51 (by kernel_rfl) rfl #[.agg #[.bool t329, .slice Ao79 t330.length co79, .int .i64 t333]] rfl (by (try simp only [List.map_toArray, List.map_cons, List.map_nil]); first | done | rfl | (simp only [List.length_drop, List.length_take]; rfl)) ?_; (with_reducible refine (r13Told.calls k1 t329 _ _ t330 t333 t334 t335 t338 _ ?side1 ?side2 A54.out).mono ?_); (case side1 => refine (Kd.Zv (e := 46) (base := w.heap.size) (ok := fun k_ => True) (n := t330.length) (c := co79) ?_).2.2; exact (by (with_reducible repeat (first | apply Kd.Zm | apply Kd.Zo)); exact (Kd.ZE (Kd.ZH (p := ⟨gb307, 2, none⟩) (Kd.ZH (p := ⟨gb307, 1, none⟩) (Kd.ZH (p := ⟨gb307, 0, none⟩) (Kd.ZI HO332.out BK307.out (by decide)) (fun _ hk => hk.2) (.bool t329)) (fun _ hk => hk.2) (.slice Ao79 t330.length co79)) (fun _ hk => hk.2) (.int .i64 t333)) (fun _ h_ => h_.1)))); (case side2 => exact (Kd.Zv HO332.out).2.1); rintro e w80 ⟨v336, rfl, ho0, hb⟩; refine ⟨_, rfl, ?_⟩; have n0_ := Zb.mk (Kd.ZJ (by (with_reducible repeat (first | apply Kd.Zm | apply Kd.Zo)); exact (Kd.ZE (Kd.ZH (p := ⟨gb307, 2, none⟩) (Kd.ZH (p := ⟨gb307, 1, none⟩) (Kd.ZH (p := ⟨gb307, 0, none⟩) (Kd.ZI HO332.out BK307.out (by decide)) (fun _ hk => hk.2) (.bool t329)) (fun _ hk => hk.2) (.slice Ao79 t330.length co79)) (fun _ hk => hk.2) (.int .i64 t333)) (fun _ h_ => h_.1))) (Kd.ZV ho0) hb); have n1_ := Zb.mk (Kd.ZG (Kd.R_new' ho0 (Kd.R_lt (by (with_reducible repeat (first | apply Kd.Zm | apply Kd.Zo)); exact (Kd.ZE (Kd.ZH (p := ⟨gb307, 2, none⟩) (Kd.ZH (p := ⟨gb307, 1, none⟩) (Kd.ZH (p := ⟨gb307, 0, none⟩) (Kd.ZI HO332.out BK307.out (by decide)) (fun _ hk => hk.2) (.bool t329)) (fun _ hk => hk.2) (.slice Ao79 t330.length co79)) (fun _ hk => hk.2) (.int .i64 t333)) (fun _ h_ => h_.1))))) (Zi (by repeat (first | (with_reducible first | exact HB.out | apply Zc | apply Za | apply Zd | refine Zh ?_ GE298.out | refine Zh ?_ GE299.out | refine Zh ?_ GE307.out) | exact HB.out)))); have n2_ := Zb.mk (Zn (g := gb298) (o := .cells #[.bool false, .slice none 0 0] 24 (0, 0)) (by (with_reducible repeat (first | refine Ze ?_ _ | refine Zg ?_ | refine Zf ?_ _)); refine Zr ?_ NB298_307.out _; (with_reducible repeat (first | refine Ze ?_ _ | refine Zg ?_ | refine Zf ?_ _)); refine Zr ?_ NB298_307.out _; (with_reducible repeat (first | refine Ze ?_ _ | refine Zg ?_ | refine Zf ?_ _)); refine Zr ?_ NB298_307.out _; (with_reducible repeat (first | refine Ze ?_ _ | refine Zg ?_ | refine Zf ?_ _)); exact BK298.out) hb); have n3_ := Zb.mk (Zn (g := gb299) (o := .cells #[.int .i64 0, .int .i64 0] 35 (0, 0)) (by (with_reducible repeat (first | refine Ze ?_ _ | refine Zg ?_ | refine Zf ?_ _)); refine Zr ?_ NB299_307.out _; (with_reducible repeat (first | refine Ze ?_ _ | refine Zg ?_ | refine Zf ?_ _)); refine Zr ?_ NB299_307.out _; (with_reducible repeat (first | refine Ze ?_ _ | refine Zg ?_ | refine Zf ?_ _)); refine Zr ?_ NB299_307.out _; (with_reducible repeat (first | refine Ze ?_ _ | refine Zg ?_ | refine Zf ?_ _)); exact BK299.out) hb); have n4_ := Zb.mk (Zn (g := gb307) (o := .cells #[.bool t329, .slice Ao79 t330.length co79, .int .i64 t333] 48 (0, 0)) (by (with_reducible repeat (first | refine Ze ?_ _ | refine Zg ?_ | refine Zf ?_ _)); refine Zu (cs := #[.bool t329, .slice Ao79 t330.length co79, .int .i64 x308002_1]) ?_ 2 _ rfl; (with_reducible repeat (first | refine Ze ?_ _ | refine Zg ?_ | refine Zf ?_ _)); refine Zu (cs := #[.bool t329, .slice Ao76 x308001_1.length co76, .int .i64 x308002_1]) ?_ 1 _ rfl; (with_reducible repeat (first | refine Ze ?_ _ | refine Zg ?_ | refine Zf ?_ _)); refine Zu (cs := #[.bool x308000_1, .slice Ao76 x308001_1.length co76, .int .i64 x308002_1]) ?_ 0 _ rfl; (with_reducible repeat (first | refine Ze ?_ _ | refine Zg ?_ | refine Zf ?_ _)); exact BK307.out) hb); have n5_ := Zb.mk (Zl (by repeat (first | (with_reducible first | exact HB.out | apply Zc | apply Za | apply Zd | refine Zh ?_ GE298.out | refine Zh ?_ GE299.out | refine Zh ?_ GE307.out) | exact HB.out)) hb); clear HO332; clear BK298; clear BK299; clear BK307; clear HB; have HO332 := n0_; have HO337 := n1_; have BK298 := n2_; have BK299 := n3_; have BK307 := n4_; have HB := n5_; clear n0_ n1_ n2_ n3_ n4_ n5_; (try clear hb); (try clear hb2); (try clear hk); (try clear hi); (try clear ho0)) | ((with_reducible refine Zt (N := 9) rfl ?_); refine Zs ?hg (N := 9) ?hd (cs := #[.bool false, .slice none 0 0]) (t := 24) ?hr ?_; (case hd => rfl); (case hg => rfl); (case hr => first | (go_simp; done) | (go_simp; rfl)); intro gb339 hg w81 hbox hb; have n0_ := Zb.mk (Kd.Zz (by (with_reducible repeat (first | apply Kd.Zm | apply Kd.Zo)); exact HO332.out) hb); have n1_ := Zb.mk (Kd.Zz (by (with_reducible repeat (first | apply Kd.Zm | apply Kd.Zo)); exact HO337.out) hb); have n2_ := Zb.mk (Zn (g := gb298) (o := .cells #[.bool false, .slice none 0 0] 24 (0, 0)) (by (with_reducible repeat (first | refine Ze ?_ _ | refine Zg ?_ | refine Zf ?_ _)); exact BK298.out) hb); have n3_ := Zb.mk (Zn (g := gb299) (o := .cells #[.int .i64 0, .int .i64 0] 35 (0, 0)) (by (with_reducible repeat (first | refine Ze ?_ _ | refine Zg ?_ | refine Zf ?_ _)); exact BK299.out) hb); have n4_ := Zb.mk (Zn (g := gb307) (o := .cells #[.bool t329, .slice Ao79 t330.length co79, .int .i64 t333] 48 (0, 0)) (by (with_reducible repeat (first | refine Ze ?_ _ | refine Zg ?_ | refine Zf ?_ _)); exact BK307.out) hb); have n5_ := Zb.mk (Zl (by repeat (first | (with_reducible first | exact HB.out | apply Zc | apply Za | apply Zd | refine Zh ?_ GE298.out | refine Zh ?_ GE299.out | refine Zh ?_ GE307.out) | exact HB.out)) hb); have n6_ := Zb.mk (hbox); have n7_ := Zb.mk ((by rw [hg]; exact (Zi (by repeat (first | (with_reducible first | exact HB.out | apply Zc | apply Za | apply Zd | refine Zh ?_ GE298.out | refine Zh ?_ GE299.out | refine Zh ?_ GE307.out) | exact HB.out))) : w.heap.size ≤ gb339)); have n8_ := Zb.mk ((by rw [hg]; exact (Zi (by repeat (first | (with_reducible first | exact HB.out | apply Zc | apply Za | apply Zd | refine Zh ?_ GE298.out | refine Zh ?_ GE299.out | refine Zh ?_ GE307.out) | exact HB.out))) : w.heap.size ≤ gb339)); have n9_ := Zb.mk ((by rw [hg]; exact Nat.ne_of_lt (Zw (g := gb298) (o := .cells #[.bool false, .slice none 0 0] 24 (0, 0)) (by (with_reducible repeat (first | refine Ze ?_ _ | refine Zg ?_ | refine Zf ?_ _)); exact BK298.out)) : gb298 ≠ gb339)); have n10_ := Zb.mk ((by rw [hg]; exact Nat.ne_of_gt (Zw (g := gb298) (o := .cells #[.bool false, .slice none 0 0] 24 (0, 0)) (by (with_reducible repeat (first | refine Ze ?_ _ | refine Zg ?_ | refine Zf ?_ _)); exact BK298.out)) : gb339 ≠ gb298)); have n11_ := Zb.mk ((by rw [hg]; exact Nat.ne_of_lt (Zw (g := gb299) (o := .cells #[.int .i64 0, .int .i64 0] 35 (0, 0)) (by (with_reducible repeat (first | refine Ze ?_ _ | refine Zg ?_ | refine Zf ?_ _)); exact BK299.out)) : gb299 ≠ gb339)); have n12_ := Zb.mk ((by rw [hg]; exact Nat.ne_of_gt (Zw (g := gb299) (o := .cells #[.int .i64 0, .int .i64 0] 35 (0, 0)) (by (with_reducible repeat (first | refine Ze ?_ _ | refine Zg ?_ | refine Zf ?_ _)); exact BK299.out)) : gb339 ≠ gb299)); have n13_ := Zb.mk ((by rw [hg]; exact Nat.ne_of_lt (Zw (g := gb307) (o := .cells #[.bool t329, .slice Ao79 t330.length co79, .int .i64 t333] 48 (0, 0)) (by (with_reducible repeat (first | refine Ze ?_ _ | refine Zg ?_ | refine Zf ?_ _)); exact BK307.out)) : gb307 ≠ gb339)); have n14_ := Zb.mk ((by rw [hg]; exact Nat.ne_of_gt (Zw (g := gb307) (o := .cells #[.bool t329, .slice Ao79 t330.length co79, .int .i64 t333] 48 (0, 0)) (by (with_reducible repeat (first | refine Ze ?_ _ | refine Zg ?_ | refine Zf ?_ _)); exact BK307.out)) : gb339 ≠ gb307)); clear HO332; clear HO337; clear BK298; clear BK299; clear BK307; clear HB; have HO332 := n0_; have HO337 := n1_; have BK298 := n2_; have BK299 := n3_; have BK307 := n4_; have HB := n5_; have BK339 := n6_; have GW339 := n7_; have GE339 := n8_; have NB298_339 := n9_; have NB339_298 := n10_; have NB299_339 := n11_; have NB339_299 := n12_; have NB307_339 := n13_; have NB339_307 := n14_; clear n0_ n1_ n2_ n3_ n4_ n5_ n6_ n7_ n8_ n9_ n10_ n11_ n12_ n13_ n14_; clear hb hbox hg; have hnb82 := NB339_298.out; have hnc82 := NB298_339.out; have hnb83 := NB339_299.out; have hnc83 := NB299_339.out; have hnb84 := NB339_307.out; have hnc84 := NB307_339.out; have hcz85_0 : w81.cell? ⟨gb339, 0, none⟩ = some (.bool false) := (Zk BK339.out 0).trans rfl; have hcz85_1 : w81.cell? ⟨gb339, 1, none⟩ = some (.slice none 0 0) := (Zk BK339.out 1).trans rfl; have hfz85_0 := Zj BK339.out 0; have hfz85_1 := Zj BK339.out 1; obtain ⟨Ao86, co86, eo86⟩ := Kd.Zy HO337.out; subst eo86; have hnb87 := NB298_299.out; have hnc87 := NB299_298.out; have hcz88_0 : w81.cell? ⟨gb298, 0, none⟩ = some (.bool false) := (Zk BK298.out 0).trans rfl; have hcz88_1 : w81.cell? ⟨gb298, 1, none⟩ = some (.slice none 0 0) := (Zk BK298.out 1).trans rfl; have hfz88_0 := Zj BK298.out 0; have hfz88_1 := Zj BK298.out 1; have hcz89_0 : w81.cell? ⟨gb299, 0, none⟩ = some (.int .i64 0) := (Zk BK299.out 0).trans rfl; have hcz89_1 : w81.cell? ⟨gb299, 1, none⟩ = some (.int .i64 0) := (Zk BK299.out 1).trans rfl; have hfz89_0 := Zj BK299.out 0; have hfz89_1 := Zj BK299.out 1))
          refine bodyPost_ret (results_cc rfl _ _ gb298 gb299 24 35 #[.bool false, .slice none 0 0] #[.int .i64 3, .int .i64 0] (0, 0) (0, 0) _ _ rfl (by (with_reducible repeat (first | refine Ze ?_ _ | refine Zg ?_ | refine Zf ?_ _)); refine Zr ?_ NB298_299.out _; (with_reducible repeat (first | refine Ze ?_ _ | refine Zg ?_ | refine Zf ?_ _)); refine Zr ?_ NB298_299.out _; (with_reducible repeat (first | refine Ze ?_ _ | refine Zg ?_ | refine Zf ?_ _)); refine Zu (cs := #[.bool false, .slice none 0 0]) ?_ 1 _ rfl; (with_reducible repeat (first | refine Ze ?_ _ | refine Zg ?_ | refine Zf ?_ _)); refine Zu (cs := #[.bool false, .slice none 0 0]) ?_ 0 _ rfl; (with_reducible repeat (first | refine Ze ?_ _ | refine Zg ?_ | refine Zf ?_ _)); refine Zr ?_ NB298_339.out _; (with_reducible repeat (first | refine Ze ?_ _ | refine Zg ?_ | refine Zf ?_ _)); refine Zr ?_ NB298_339.out _; (with_reducible repeat (first | refine Ze ?_ _ | refine Zg ?_ | refine Zf ?_ _)); exact BK298.out) Try.underlying24 rfl (by kernel_rfl) rfl (by (with_reducible repeat (first | refine Ze ?_ _ | refine Zg ?_ | refine Zf ?_ _)); refine Zu (cs := #[.int .i64 3, .int .i64 0]) ?_ 1 _ rfl; (with_reducible repeat (first | refine Ze ?_ _ | refine Zg ?_ | refine Zf ?_ _)); refine Zu (cs := #[.int .i64 0, .int .i64 0]) ?_ 0 _ rfl; (with_reducible repeat (first | refine Ze ?_ _ | refine Zg ?_ | refine Zf ?_ _)); refine Zr ?_ NB299_298.out _; (with_reducible repeat (first | refine Ze ?_ _ | refine Zg ?_ | refine Zf ?_ _)); refine Zr ?_ NB299_298.out _; (with_reducible repeat (first | refine Ze ?_ _ | refine Zg ?_ | refine Zf ?_ _)); refine Zr ?_ NB299_339.out _; (with_reducible repeat (first | refine Ze ?_ _ | refine Zg ?_ | refine Zf ?_ _)); refine Zr ?_ NB299_339.out _; (with_reducible repeat (first | refine Ze ?_ _ | refine Zg ?_ | refine Zf ?_ _)); exact BK299.out) Try.underlying35 rfl (by kernel_rfl)) rfl ?_
          exact ⟨_, by first | rfl | (simp [errW_none, errW_some] <;> rfl) | (simp [*, errW_none, errW_some] <;> rfl), by first | exact Kd.R_nil _ _ _ _ _ | exact Kd.V_nil _ _ _ _ _ | exact Kd.S_nil _ _ _ _ _, by repeat (first | (with_reducible first | exact HB.out | apply Zc | apply Za | apply Zd | refine Zh ?_ GE298.out | refine Zh ?_ GE299.out | refine Zh ?_ GE307.out | refine Zh ?_ GE339.out) | exact HB.out)⟩
        ·rw [if_neg c52] at H
         have c52b0 : ((bt a0 0) == 45) = false := beq_eq_false_iff_ne.mpr c52
         have c52b1 : ((bt a0 0) != 45) = true := bne_iff_ne.mpr c52
         replace H := Option.bind_eq_some_iff.mp H
         obtain ⟨⟨t340, t341, t344⟩, A900, H⟩ := H
         replace H : (if t344 = 0 then (some (t340, t341, 0, 0)) else (some (false, ([] : List Int), 3, 0))) = some (r1, r2, r3, r4) := H
         have A90 := Zb.mk A900
         clear A900
         by_cases c91 : t344 = 0
         ·rw [if_pos c91] at H
          have c91b0 : (t344 == 0) = true := beq_iff_eq.mpr c91
          have c91b1 : (t344 != 0) = false := bne_eq_false_iff_eq.mpr c91
          clear c91
          simp only [Option.some.injEq, Prod.mk.injEq] at H
          obtain ⟨rfl, rfl, rfl, rfl⟩ := H
          have p51 : 0 ≤ (0 : Int) := (by omega)
          have q51 : 0 < a0.size := (by have : (0 : Int) < (a0.size : Int) := of_decide_eq_true (by first | (with_reducible assumption) | assumption); omega)
          have hx51 : ∀ h : 0 < a0.size, ((a0[0]'h).toNat : Int) = bt a0 0 := bt_at a0 0
          clear p51
          have qi51 : (0 < (a0.size : Int)) = True := eq_true (of_decide_eq_true (by first | (with_reducible assumption) | assumption))
          replace q51 := eq_true q51
          have hnb92 := NB307_298.out
          have hnc92 := NB298_307.out
          have hnb93 := NB307_299.out
          have hnc93 := NB299_307.out
          have hcz94_0 : wr.cell? ⟨gb307, 0, none⟩ = some (.bool x308000_1) := (Zk BK307.out 0).trans rfl
          have hcz94_1 : wr.cell? ⟨gb307, 1, none⟩ = some (u308001) := (Zk BK307.out 1).trans rfl
          have hcz94_2 : wr.cell? ⟨gb307, 2, none⟩ = some (.int .i64 x308002_1) := (Zk BK307.out 2).trans rfl
          have hfz94_0 := Zj BK307.out 0
          have hfz94_1 := Zj BK307.out 1
          have hfz94_2 := Zj BK307.out 2
          obtain ⟨Ao95, co95, eo95⟩ := Kd.Zy HO_308001.out
          subst eo95
          go_wp2_with (first | ((with_reducible refine Zp (f := 51) rfl ?_); refine ZB (some 58) rfl rfl Try.func51 (by kernel_rfl) rfl #[.agg #[.bool x308000_1, .slice Ao95 x308001_1.length co95, .int .i64 x308002_1]] rfl (by (try simp only [List.map_toArray, List.map_cons, List.map_nil]); first | done | rfl | (simp only [List.length_drop, List.length_take]; rfl)) ?_; (with_reducible refine (r13Told.calls k1 x308000_1 _ _ x308001_1 x308002_1 t340 t341 t344 _ ?side1 ?side2 A90.out).mono ?_); (case side1 => repeat (first | exact (Kd.Zv HO_308001.out).2.2 | (with_reducible refine Kd.ZC ?_ _) | (with_reducible refine Kd.ZF ?_ _) | (with_reducible refine Kd.ZN ?_))); (case side2 => exact (Kd.Zv HO_308001.out).2.1); rintro e w96 ⟨v342, rfl, ho0, hb⟩; refine ⟨_, rfl, ?_⟩; have n0_ := Zb.mk (Kd.ZJ (by (with_reducible repeat (first | apply Kd.Zm | apply Kd.Zo)); exact HO_308001.out) (Kd.ZV ho0) hb); have n1_ := Zb.mk (Kd.ZG (Kd.R_new' ho0 (Kd.R_lt (by (with_reducible repeat (first | apply Kd.Zm | apply Kd.Zo)); exact HO_308001.out))) (Zi (by repeat (first | (with_reducible first | exact HB.out | apply Zc | apply Za | apply Zd | refine Zh ?_ GE298.out | refine Zh ?_ GE299.out | refine Zh ?_ GE307.out) | exact HB.out)))); have n2_ := Zb.mk (Zn (g := gb298) (o := .cells #[.bool false, .slice none 0 0] 24 (0, 0)) (by (with_reducible repeat (first | refine Ze ?_ _ | refine Zg ?_ | refine Zf ?_ _)); exact BK298.out) hb); have n3_ := Zb.mk (Zn (g := gb299) (o := .cells #[.int .i64 0, .int .i64 0] 35 (0, 0)) (by (with_reducible repeat (first | refine Ze ?_ _ | refine Zg ?_ | refine Zf ?_ _)); exact BK299.out) hb); have n4_ := Zb.mk (Zn (g := gb307) (o := .cells #[.bool x308000_1, .slice Ao95 x308001_1.length co95, .int .i64 x308002_1] 48 (0, 0)) (by (with_reducible repeat (first | refine Ze ?_ _ | refine Zg ?_ | refine Zf ?_ _)); exact BK307.out) hb); have n5_ := Zb.mk (Zl (by repeat (first | (with_reducible first | exact HB.out | apply Zc | apply Za | apply Zd | refine Zh ?_ GE298.out | refine Zh ?_ GE299.out | refine Zh ?_ GE307.out) | exact HB.out)) hb); clear HO_308001; clear BK298; clear BK299; clear BK307; clear HB; have HO_308001 := n0_; have HO343 := n1_; have BK298 := n2_; have BK299 := n3_; have BK307 := n4_; have HB := n5_; clear n0_ n1_ n2_ n3_ n4_ n5_; (try clear hb); (try clear hb2); (try clear hk); (try clear hi); (try clear ho0)) | ((with_reducible refine Zt (N := 9) rfl ?_); refine Zs ?hg (N := 9) ?hd (cs := #[.bool false, .slice none 0 0]) (t := 24) ?hr ?_; (case hd => rfl); (case hg => rfl); (case hr => first | (go_simp; done) | (go_simp; rfl)); intro gb345 hg w97 hbox hb; have n0_ := Zb.mk (Kd.Zz (by (with_reducible repeat (first | apply Kd.Zm | apply Kd.Zo)); exact HO_308001.out) hb); have n1_ := Zb.mk (Kd.Zz (by (with_reducible repeat (first | apply Kd.Zm | apply Kd.Zo)); exact HO343.out) hb); have n2_ := Zb.mk (Zn (g := gb298) (o := .cells #[.bool false, .slice none 0 0] 24 (0, 0)) (by (with_reducible repeat (first | refine Ze ?_ _ | refine Zg ?_ | refine Zf ?_ _)); exact BK298.out) hb); have n3_ := Zb.mk (Zn (g := gb299) (o := .cells #[.int .i64 0, .int .i64 0] 35 (0, 0)) (by (with_reducible repeat (first | refine Ze ?_ _ | refine Zg ?_ | refine Zf ?_ _)); exact BK299.out) hb); have n4_ := Zb.mk (Zn (g := gb307) (o := .cells #[.bool x308000_1, .slice Ao95 x308001_1.length co95, .int .i64 x308002_1] 48 (0, 0)) (by (with_reducible repeat (first | refine Ze ?_ _ | refine Zg ?_ | refine Zf ?_ _)); exact BK307.out) hb); have n5_ := Zb.mk (Zl (by repeat (first | (with_reducible first | exact HB.out | apply Zc | apply Za | apply Zd | refine Zh ?_ GE298.out | refine Zh ?_ GE299.out | refine Zh ?_ GE307.out) | exact HB.out)) hb); have n6_ := Zb.mk (hbox); have n7_ := Zb.mk ((by rw [hg]; exact (Zi (by repeat (first | (with_reducible first | exact HB.out | apply Zc | apply Za | apply Zd | refine Zh ?_ GE298.out | refine Zh ?_ GE299.out | refine Zh ?_ GE307.out) | exact HB.out))) : w.heap.size ≤ gb345)); have n8_ := Zb.mk ((by rw [hg]; exact (Zi (by repeat (first | (with_reducible first | exact HB.out | apply Zc | apply Za | apply Zd | refine Zh ?_ GE298.out | refine Zh ?_ GE299.out | refine Zh ?_ GE307.out) | exact HB.out))) : w.heap.size ≤ gb345)); have n9_ := Zb.mk ((by rw [hg]; exact Nat.ne_of_lt (Zw (g := gb298) (o := .cells #[.bool false, .slice none 0 0] 24 (0, 0)) (by (with_reducible repeat (first | refine Ze ?_ _ | refine Zg ?_ | refine Zf ?_ _)); exact BK298.out)) : gb298 ≠ gb345)); have n10_ := Zb.mk ((by rw [hg]; exact Nat.ne_of_gt (Zw (g := gb298) (o := .cells #[.bool false, .slice none 0 0] 24 (0, 0)) (by (with_reducible repeat (first | refine Ze ?_ _ | refine Zg ?_ | refine Zf ?_ _)); exact BK298.out)) : gb345 ≠ gb298)); have n11_ := Zb.mk ((by rw [hg]; exact Nat.ne_of_lt (Zw (g := gb299) (o := .cells #[.int .i64 0, .int .i64 0] 35 (0, 0)) (by (with_reducible repeat (first | refine Ze ?_ _ | refine Zg ?_ | refine Zf ?_ _)); exact BK299.out)) : gb299 ≠ gb345)); have n12_ := Zb.mk ((by rw [hg]; exact Nat.ne_of_gt (Zw (g := gb299) (o := .cells #[.int .i64 0, .int .i64 0] 35 (0, 0)) (by (with_reducible repeat (first | refine Ze ?_ _ | refine Zg ?_ | refine Zf ?_ _)); exact BK299.out)) : gb345 ≠ gb299)); have n13_ := Zb.mk ((by rw [hg]; exact Nat.ne_of_lt (Zw (g := gb307) (o := .cells #[.bool x308000_1, .slice Ao95 x308001_1.length co95, .int .i64 x308002_1] 48 (0, 0)) (by (with_reducible repeat (first | refine Ze ?_ _ | refine Zg ?_ | refine Zf ?_ _)); exact BK307.out)) : gb307 ≠ gb345)); have n14_ := Zb.mk ((by rw [hg]; exact Nat.ne_of_gt (Zw (g := gb307) (o := .cells #[.bool x308000_1, .slice Ao95 x308001_1.length co95, .int .i64 x308002_1] 48 (0, 0)) (by (with_reducible repeat (first | refine Ze ?_ _ | refine Zg ?_ | refine Zf ?_ _)); exact BK307.out)) : gb345 ≠ gb307)); clear HO_308001; clear HO343; clear BK298; clear BK299; clear BK307; clear HB; have HO_308001 := n0_; have HO343 := n1_; have BK298 := n2_; have BK299 := n3_; have BK307 := n4_; have HB := n5_; have BK345 := n6_; have GW345 := n7_; have GE345 := n8_; have NB298_345 := n9_; have NB345_298 := n10_; have NB299_345 := n11_; have NB345_299 := n12_; have NB307_345 := n13_; have NB345_307 := n14_; clear n0_ n1_ n2_ n3_ n4_ n5_ n6_ n7_ n8_ n9_ n10_ n11_ n12_ n13_ n14_; clear hb hbox hg; have hnb98 := NB345_298.out; have hnc98 := NB298_345.out; have hnb99 := NB345_299.out; have hnc99 := NB299_345.out; have hnb100 := NB345_307.out; have hnc100 := NB307_345.out; have hcz101_0 : w97.cell? ⟨gb345, 0, none⟩ = some (.bool false) := (Zk BK345.out 0).trans rfl; have hcz101_1 : w97.cell? ⟨gb345, 1, none⟩ = some (.slice none 0 0) := (Zk BK345.out 1).trans rfl; have hfz101_0 := Zj BK345.out 0; have hfz101_1 := Zj BK345.out 1; obtain ⟨Ao102, co102, eo102⟩ := Kd.Zy HO343.out; subst eo102; have hnb103 := NB298_299.out; have hnc103 := NB299_298.out; have hcz104_0 : w97.cell? ⟨gb298, 0, none⟩ = some (.bool false) := (Zk BK298.out 0).trans rfl; have hcz104_1 : w97.cell? ⟨gb298, 1, none⟩ = some (.slice none 0 0) := (Zk BK298.out 1).trans rfl; have hfz104_0 := Zj BK298.out 0; have hfz104_1 := Zj BK298.out 1; have hcz105_0 : w97.cell? ⟨gb299, 0, none⟩ = some (.int .i64 0) := (Zk BK299.out 0).trans rfl; have hcz105_1 : w97.cell? ⟨gb299, 1, none⟩ = some (.int .i64 0) := (Zk BK299.out 1).trans rfl; have hfz105_0 := Zj BK299.out 0; have hfz105_1 := Zj BK299.out 1))
          refine bodyPost_ret (results_cc rfl _ _ gb298 gb299 24 35 #[.bool t340, .slice Ao102 t341.length co102] #[.int .i64 0, .int .i64 0] (0, 0) (0, 0) _ _ rfl (by (with_reducible repeat (first | refine Ze ?_ _ | refine Zg ?_ | refine Zf ?_ _)); refine Zr ?_ NB298_299.out _; (with_reducible repeat (first | refine Ze ?_ _ | refine Zg ?_ | refine Zf ?_ _)); refine Zr ?_ NB298_299.out _; (with_reducible repeat (first | refine Ze ?_ _ | refine Zg ?_ | refine Zf ?_ _)); refine Zu (cs := #[.bool t340, .slice none 0 0]) ?_ 1 _ rfl; (with_reducible repeat (first | refine Ze ?_ _ | refine Zg ?_ | refine Zf ?_ _)); refine Zu (cs := #[.bool false, .slice none 0 0]) ?_ 0 _ rfl; (with_reducible repeat (first | refine Ze ?_ _ | refine Zg ?_ | refine Zf ?_ _)); refine Zr ?_ NB298_345.out _; (with_reducible repeat (first | refine Ze ?_ _ | refine Zg ?_ | refine Zf ?_ _)); refine Zr ?_ NB298_345.out _; (with_reducible repeat (first | refine Ze ?_ _ | refine Zg ?_ | refine Zf ?_ _)); exact BK298.out) Try.underlying24 rfl (by kernel_rfl) rfl (by (with_reducible repeat (first | refine Ze ?_ _ | refine Zg ?_ | refine Zf ?_ _)); refine Zu (cs := #[.int .i64 0, .int .i64 0]) ?_ 1 _ rfl; (with_reducible repeat (first | refine Ze ?_ _ | refine Zg ?_ | refine Zf ?_ _)); refine Zu (cs := #[.int .i64 0, .int .i64 0]) ?_ 0 _ rfl; (with_reducible repeat (first | refine Ze ?_ _ | refine Zg ?_ | refine Zf ?_ _)); refine Zr ?_ NB299_298.out _; (with_reducible repeat (first | refine Ze ?_ _ | refine Zg ?_ | refine Zf ?_ _)); refine Zr ?_ NB299_298.out _; (with_reducible repeat (first | refine Ze ?_ _ | refine Zg ?_ | refine Zf ?_ _)); refine Zr ?_ NB299_345.out _; (with_reducible repeat (first | refine Ze ?_ _ | refine Zg ?_ | refine Zf ?_ _)); refine Zr ?_ NB299_345.out _; (with_reducible repeat (first | refine Ze ?_ _ | refine Zg ?_ | refine Zf ?_ _)); exact BK299.out) Try.underlying35 rfl (by kernel_rfl)) rfl ?_
          exact ⟨_, by first | rfl | (simp [errW_none, errW_some] <;> rfl) | (simp [*, errW_none, errW_some] <;> rfl), by (with_reducible repeat (first | apply Kd.Zm | apply Kd.Zo)); exact Kd.ZE (Kd.ZH (p := ⟨gb299, 1, none⟩) (Kd.ZH (p := ⟨gb299, 0, none⟩) (Kd.ZH (p := ⟨gb298, 1, none⟩) (Kd.ZH (p := ⟨gb298, 0, none⟩) (Kd.ZH (p := ⟨gb345, 1, none⟩) (Kd.ZH (p := ⟨gb345, 0, none⟩) (Kd.ZI (Kd.ZI (Kd.ZI HO343.out BK345.out (by decide)) BK298.out (by decide)) BK299.out (by decide)) (fun _ hk => hk.1.1.2) (.bool t340)) (fun _ hk => hk.1.1.2) (.slice Ao102 t341.length co102)) (fun _ hk => hk.1.2) (.bool t340)) (fun _ hk => hk.1.2) (.slice Ao102 t341.length co102)) (fun _ hk => hk.2) (.int .i64 0)) (fun _ hk => hk.2) (.int .i64 0)) (fun _ hk => trivial), by repeat (first | (with_reducible first | exact HB.out | apply Zc | apply Za | apply Zd | refine Zh ?_ GE298.out | refine Zh ?_ GE299.out | refine Zh ?_ GE307.out | refine Zh ?_ GE345.out) | exact HB.out)⟩
         ·rw [if_neg c91] at H
          have c91b0 : (t344 == 0) = false := beq_eq_false_iff_ne.mpr c91
          have c91b1 : (t344 != 0) = true := bne_iff_ne.mpr c91
          simp only [Option.some.injEq, Prod.mk.injEq] at H
          obtain ⟨rfl, rfl, rfl, rfl⟩ := H
          have p51 : 0 ≤ (0 : Int) := (by omega)
          have q51 : 0 < a0.size := (by have : (0 : Int) < (a0.size : Int) := of_decide_eq_true (by first | (with_reducible assumption) | assumption); omega)
          have hx51 : ∀ h : 0 < a0.size, ((a0[0]'h).toNat : Int) = bt a0 0 := bt_at a0 0
          clear p51
          have qi51 : (0 < (a0.size : Int)) = True := eq_true (of_decide_eq_true (by first | (with_reducible assumption) | assumption))
          replace q51 := eq_true q51
          have hnb106 := NB307_298.out
          have hnc106 := NB298_307.out
          have hnb107 := NB307_299.out
          have hnc107 := NB299_307.out
          have hcz108_0 : wr.cell? ⟨gb307, 0, none⟩ = some (.bool x308000_1) := (Zk BK307.out 0).trans rfl
          have hcz108_1 : wr.cell? ⟨gb307, 1, none⟩ = some (u308001) := (Zk BK307.out 1).trans rfl
          have hcz108_2 : wr.cell? ⟨gb307, 2, none⟩ = some (.int .i64 x308002_1) := (Zk BK307.out 2).trans rfl
          have hfz108_0 := Zj BK307.out 0
          have hfz108_1 := Zj BK307.out 1
          have hfz108_2 := Zj BK307.out 2
          obtain ⟨Ao109, co109, eo109⟩ := Kd.Zy HO_308001.out
          subst eo109
          go_wp2_with (first | ((with_reducible refine Zp (f := 51) rfl ?_); refine ZB (some 58) rfl rfl Try.func51 (by kernel_rfl) rfl #[.agg #[.bool x308000_1, .slice Ao109 x308001_1.length co109, .int .i64 x308002_1]] rfl (by (try simp only [List.map_toArray, List.map_cons, List.map_nil]); first | done | rfl | (simp only [List.length_drop, List.length_take]; rfl)) ?_; (with_reducible refine (r13Told.calls k1 x308000_1 _ _ x308001_1 x308002_1 t340 t341 t344 _ ?side1 ?side2 A90.out).mono ?_); (case side1 => repeat (first | exact (Kd.Zv HO_308001.out).2.2 | (with_reducible refine Kd.ZC ?_ _) | (with_reducible refine Kd.ZF ?_ _) | (with_reducible refine Kd.ZN ?_))); (case side2 => exact (Kd.Zv HO_308001.out).2.1); rintro e w110 ⟨v342, rfl, ho0, hb⟩; refine ⟨_, rfl, ?_⟩; have n0_ := Zb.mk (Kd.ZJ (by (with_reducible repeat (first | apply Kd.Zm | apply Kd.Zo)); exact HO_308001.out) (Kd.ZV ho0) hb); have n1_ := Zb.mk (Kd.ZG (Kd.R_new' ho0 (Kd.R_lt (by (with_reducible repeat (first | apply Kd.Zm | apply Kd.Zo)); exact HO_308001.out))) (Zi (by repeat (first | (with_reducible first | exact HB.out | apply Zc | apply Za | apply Zd | refine Zh ?_ GE298.out | refine Zh ?_ GE299.out | refine Zh ?_ GE307.out) | exact HB.out)))); have n2_ := Zb.mk (Zn (g := gb298) (o := .cells #[.bool false, .slice none 0 0] 24 (0, 0)) (by (with_reducible repeat (first | refine Ze ?_ _ | refine Zg ?_ | refine Zf ?_ _)); exact BK298.out) hb); have n3_ := Zb.mk (Zn (g := gb299) (o := .cells #[.int .i64 0, .int .i64 0] 35 (0, 0)) (by (with_reducible repeat (first | refine Ze ?_ _ | refine Zg ?_ | refine Zf ?_ _)); exact BK299.out) hb); have n4_ := Zb.mk (Zn (g := gb307) (o := .cells #[.bool x308000_1, .slice Ao109 x308001_1.length co109, .int .i64 x308002_1] 48 (0, 0)) (by (with_reducible repeat (first | refine Ze ?_ _ | refine Zg ?_ | refine Zf ?_ _)); exact BK307.out) hb); have n5_ := Zb.mk (Zl (by repeat (first | (with_reducible first | exact HB.out | apply Zc | apply Za | apply Zd | refine Zh ?_ GE298.out | refine Zh ?_ GE299.out | refine Zh ?_ GE307.out) | exact HB.out)) hb); clear HO_308001; clear BK298; clear BK299; clear BK307; clear HB; have HO_308001 := n0_; have HO343 := n1_; have BK298 := n2_; have BK299 := n3_; have BK307 := n4_; have HB := n5_; clear n0_ n1_ n2_ n3_ n4_ n5_; (try clear hb); (try clear hb2); (try clear hk); (try clear hi); (try clear ho0)) | ((with_reducible refine Zt (N := 9) rfl ?_); refine Zs ?hg (N := 9) ?hd (cs := #[.bool false, .slice none 0 0]) (t := 24) ?hr ?_; (case hd => rfl); (case hg => rfl); (case hr => first | (go_simp; done) | (go_simp; rfl)); intro gb345 hg w111 hbox hb; have n0_ := Zb.mk (Kd.Zz (by (with_reducible repeat (first | apply Kd.Zm | apply Kd.Zo)); exact HO_308001.out) hb); have n1_ := Zb.mk (Kd.Zz (by (with_reducible repeat (first | apply Kd.Zm | apply Kd.Zo)); exact HO343.out) hb); have n2_ := Zb.mk (Zn (g := gb298) (o := .cells #[.bool false, .slice none 0 0] 24 (0, 0)) (by (with_reducible repeat (first | refine Ze ?_ _ | refine Zg ?_ | refine Zf ?_ _)); exact BK298.out) hb); have n3_ := Zb.mk (Zn (g := gb299) (o := .cells #[.int .i64 0, .int .i64 0] 35 (0, 0)) (by (with_reducible repeat (first | refine Ze ?_ _ | refine Zg ?_ | refine Zf ?_ _)); exact BK299.out) hb); have n4_ := Zb.mk (Zn (g := gb307) (o := .cells #[.bool x308000_1, .slice Ao109 x308001_1.length co109, .int .i64 x308002_1] 48 (0, 0)) (by (with_reducible repeat (first | refine Ze ?_ _ | refine Zg ?_ | refine Zf ?_ _)); exact BK307.out) hb); have n5_ := Zb.mk (Zl (by repeat (first | (with_reducible first | exact HB.out | apply Zc | apply Za | apply Zd | refine Zh ?_ GE298.out | refine Zh ?_ GE299.out | refine Zh ?_ GE307.out) | exact HB.out)) hb); have n6_ := Zb.mk (hbox); have n7_ := Zb.mk ((by rw [hg]; exact (Zi (by repeat (first | (with_reducible first | exact HB.out | apply Zc | apply Za | apply Zd | refine Zh ?_ GE298.out | refine Zh ?_ GE299.out | refine Zh ?_ GE307.out) | exact HB.out))) : w.heap.size ≤ gb345)); have n8_ := Zb.mk ((by rw [hg]; exact (Zi (by repeat (first | (with_reducible first | exact HB.out | apply Zc | apply Za | apply Zd | refine Zh ?_ GE298.out | refine Zh ?_ GE299.out | refine Zh ?_ GE307.out) | exact HB.out))) : w.heap.size ≤ gb345)); have n9_ := Zb.mk ((by rw [hg]; exact Nat.ne_of_lt (Zw (g := gb298) (o := .cells #[.bool false, .slice none 0 0] 24 (0, 0)) (by (with_reducible repeat (first | refine Ze ?_ _ | refine Zg ?_ | refine Zf ?_ _)); exact BK298.out)) : gb298 ≠ gb345)); have n10_ := Zb.mk ((by rw [hg]; exact Nat.ne_of_gt (Zw (g := gb298) (o := .cells #[.bool false, .slice none 0 0] 24 (0, 0)) (by (with_reducible repeat (first | refine Ze ?_ _ | refine Zg ?_ | refine Zf ?_ _)); exact BK298.out)) : gb345 ≠ gb298)); have n11_ := Zb.mk ((by rw [hg]; exact Nat.ne_of_lt (Zw (g := gb299) (o := .cells #[.int .i64 0, .int .i64 0] 35 (0, 0)) (by (with_reducible repeat (first | refine Ze ?_ _ | refine Zg ?_ | refine Zf ?_ _)); exact BK299.out)) : gb299 ≠ gb345)); have n12_ := Zb.mk ((by rw [hg]; exact Nat.ne_of_gt (Zw (g := gb299) (o := .cells #[.int .i64 0, .int .i64 0] 35 (0, 0)) (by (with_reducible repeat (first | refine Ze ?_ _ | refine Zg ?_ | refine Zf ?_ _)); exact BK299.out)) : gb345 ≠ gb299)); have n13_ := Zb.mk ((by rw [hg]; exact Nat.ne_of_lt (Zw (g := gb307) (o := .cells #[.bool x308000_1, .slice Ao109 x308001_1.length co109, .int .i64 x308002_1] 48 (0, 0)) (by (with_reducible repeat (first | refine Ze ?_ _ | refine Zg ?_ | refine Zf ?_ _)); exact BK307.out)) : gb307 ≠ gb345)); have n14_ := Zb.mk ((by rw [hg]; exact Nat.ne_of_gt (Zw (g := gb307) (o := .cells #[.bool x308000_1, .slice Ao109 x308001_1.length co109, .int .i64 x308002_1] 48 (0, 0)) (by (with_reducible repeat (first | refine Ze ?_ _ | refine Zg ?_ | refine Zf ?_ _)); exact BK307.out)) : gb345 ≠ gb307)); clear HO_308001; clear HO343; clear BK298; clear BK299; clear BK307; clear HB; have HO_308001 := n0_; have HO343 := n1_; have BK298 := n2_; have BK299 := n3_; have BK307 := n4_; have HB := n5_; have BK345 := n6_; have GW345 := n7_; have GE345 := n8_; have NB298_345 := n9_; have NB345_298 := n10_; have NB299_345 := n11_; have NB345_299 := n12_; have NB307_345 := n13_; have NB345_307 := n14_; clear n0_ n1_ n2_ n3_ n4_ n5_ n6_ n7_ n8_ n9_ n10_ n11_ n12_ n13_ n14_; clear hb hbox hg; have hnb112 := NB345_298.out; have hnc112 := NB298_345.out; have hnb113 := NB345_299.out; have hnc113 := NB299_345.out; have hnb114 := NB345_307.out; have hnc114 := NB307_345.out; have hcz115_0 : w111.cell? ⟨gb345, 0, none⟩ = some (.bool false) := (Zk BK345.out 0).trans rfl; have hcz115_1 : w111.cell? ⟨gb345, 1, none⟩ = some (.slice none 0 0) := (Zk BK345.out 1).trans rfl; have hfz115_0 := Zj BK345.out 0; have hfz115_1 := Zj BK345.out 1; obtain ⟨Ao116, co116, eo116⟩ := Kd.Zy HO343.out; subst eo116; have hnb117 := NB298_299.out; have hnc117 := NB299_298.out; have hcz118_0 : w111.cell? ⟨gb298, 0, none⟩ = some (.bool false) := (Zk BK298.out 0).trans rfl; have hcz118_1 : w111.cell? ⟨gb298, 1, none⟩ = some (.slice none 0 0) := (Zk BK298.out 1).trans rfl; have hfz118_0 := Zj BK298.out 0; have hfz118_1 := Zj BK298.out 1; have hcz119_0 : w111.cell? ⟨gb299, 0, none⟩ = some (.int .i64 0) := (Zk BK299.out 0).trans rfl; have hcz119_1 : w111.cell? ⟨gb299, 1, none⟩ = some (.int .i64 0) := (Zk BK299.out 1).trans rfl; have hfz119_0 := Zj BK299.out 0; have hfz119_1 := Zj BK299.out 1))
          refine bodyPost_ret (results_cc rfl _ _ gb298 gb299 24 35 #[.bool false, .slice none 0 0] #[.int .i64 3, .int .i64 0] (0, 0) (0, 0) _ _ rfl (by (with_reducible repeat (first | refine Ze ?_ _ | refine Zg ?_ | refine Zf ?_ _)); refine Zr ?_ NB298_299.out _; (with_reducible repeat (first | refine Ze ?_ _ | refine Zg ?_ | refine Zf ?_ _)); refine Zr ?_ NB298_299.out _; (with_reducible repeat (first | refine Ze ?_ _ | refine Zg ?_ | refine Zf ?_ _)); refine Zu (cs := #[.bool false, .slice none 0 0]) ?_ 1 _ rfl; (with_reducible repeat (first | refine Ze ?_ _ | refine Zg ?_ | refine Zf ?_ _)); refine Zu (cs := #[.bool false, .slice none 0 0]) ?_ 0 _ rfl; (with_reducible repeat (first | refine Ze ?_ _ | refine Zg ?_ | refine Zf ?_ _)); refine Zr ?_ NB298_345.out _; (with_reducible repeat (first | refine Ze ?_ _ | refine Zg ?_ | refine Zf ?_ _)); refine Zr ?_ NB298_345.out _; (with_reducible repeat (first | refine Ze ?_ _ | refine Zg ?_ | refine Zf ?_ _)); exact BK298.out) Try.underlying24 rfl (by kernel_rfl) rfl (by (with_reducible repeat (first | refine Ze ?_ _ | refine Zg ?_ | refine Zf ?_ _)); refine Zu (cs := #[.int .i64 3, .int .i64 0]) ?_ 1 _ rfl; (with_reducible repeat (first | refine Ze ?_ _ | refine Zg ?_ | refine Zf ?_ _)); refine Zu (cs := #[.int .i64 0, .int .i64 0]) ?_ 0 _ rfl; (with_reducible repeat (first | refine Ze ?_ _ | refine Zg ?_ | refine Zf ?_ _)); refine Zr ?_ NB299_298.out _; (with_reducible repeat (first | refine Ze ?_ _ | refine Zg ?_ | refine Zf ?_ _)); refine Zr ?_ NB299_298.out _; (with_reducible repeat (first | refine Ze ?_ _ | refine Zg ?_ | refine Zf ?_ _)); refine Zr ?_ NB299_345.out _; (with_reducible repeat (first | refine Ze ?_ _ | refine Zg ?_ | refine Zf ?_ _)); refine Zr ?_ NB299_345.out _; (with_reducible repeat (first | refine Ze ?_ _ | refine Zg ?_ | refine Zf ?_ _)); exact BK299.out) Try.underlying35 rfl (by kernel_rfl)) rfl ?_
          exact ⟨_, by first | rfl | (simp [errW_none, errW_some] <;> rfl) | (simp [*, errW_none, errW_some] <;> rfl), by first | exact Kd.R_nil _ _ _ _ _ | exact Kd.V_nil _ _ _ _ _ | exact Kd.S_nil _ _ _ _ _, by repeat (first | (with_reducible first | exact HB.out | apply Zc | apply Za | apply Zd | refine Zh ?_ GE298.out | refine Zh ?_ GE299.out | refine Zh ?_ GE307.out | refine Zh ?_ GE345.out) | exact HB.out)⟩
       ·rw [if_neg c50] at H
        exact absurd H (by simp)
 ·replace c4 := Bool.eq_false_iff.mpr c4
  subst c4
  have H1 : (some (false, ([] : List Int), 2, 0)) = some (r1, r2, r3, r4) := by rw [if_neg (show ¬ (false = true) by decide)] at H; exact H
  clear H
  have H := H1
  clear H1
  simp only [Option.some.injEq, Prod.mk.injEq] at H
  obtain ⟨rfl, rfl, rfl, rfl⟩ := H
  go_enter Try.func18, Try.ntmps18
  go_wp2_with (first | ((with_reducible refine Zt (N := 4) rfl ?_); refine Zs ?hg (N := 4) ?hd (cs := #[.bool false, .slice none 0 0]) (t := 24) ?hr ?_; (case hd => rfl); (case hg => rfl); (case hr => first | (go_simp; done) | (go_simp; rfl)); intro gb298 hg w120 hbox hb; have n0_ := Zb.mk (Zl (by repeat (first | (with_reducible first | exact HB.out | apply Zc | apply Za | apply Zd) | exact HB.out)) hb); have n1_ := Zb.mk (hbox); have n2_ := Zb.mk ((by rw [hg]; exact (Zi (by repeat (first | (with_reducible first | exact HB.out | apply Zc | apply Za | apply Zd) | exact HB.out))) : w.heap.size ≤ gb298)); have n3_ := Zb.mk ((by rw [hg]; exact (Zi (by repeat (first | (with_reducible first | exact HB.out | apply Zc | apply Za | apply Zd) | exact HB.out))) : w.heap.size ≤ gb298)); clear HB; have HB := n0_; have BK298 := n1_; have GW298 := n2_; have GE298 := n3_; clear n0_ n1_ n2_ n3_; clear hb hbox hg) | ((with_reducible refine Zt (N := 5) rfl ?_); refine Zs ?hg (N := 5) ?hd (cs := #[.int .i64 0, .int .i64 0]) (t := 35) ?hr ?_; (case hd => rfl); (case hg => rfl); (case hr => first | (go_simp; done) | (go_simp; rfl)); intro gb299 hg w121 hbox hb; have n0_ := Zb.mk (Zn (g := gb298) (o := .cells #[.bool false, .slice none 0 0] 24 (0, 0)) (by (with_reducible repeat (first | refine Ze ?_ _ | refine Zg ?_ | refine Zf ?_ _)); exact BK298.out) hb); have n1_ := Zb.mk (Zl (by repeat (first | (with_reducible first | exact HB.out | apply Zc | apply Za | apply Zd | refine Zh ?_ GE298.out) | exact HB.out)) hb); have n2_ := Zb.mk (hbox); have n3_ := Zb.mk ((by rw [hg]; exact (Zi (by repeat (first | (with_reducible first | exact HB.out | apply Zc | apply Za | apply Zd | refine Zh ?_ GE298.out) | exact HB.out))) : w.heap.size ≤ gb299)); have n4_ := Zb.mk ((by rw [hg]; exact (Zi (by repeat (first | (with_reducible first | exact HB.out | apply Zc | apply Za | apply Zd | refine Zh ?_ GE298.out) | exact HB.out))) : w.heap.size ≤ gb299)); have n5_ := Zb.mk ((by rw [hg]; exact Nat.ne_of_lt (Zw (g := gb298) (o := .cells #[.bool false, .slice none 0 0] 24 (0, 0)) (by (with_reducible repeat (first | refine Ze ?_ _ | refine Zg ?_ | refine Zf ?_ _)); exact BK298.out)) : gb298 ≠ gb299)); have n6_ := Zb.mk ((by rw [hg]; exact Nat.ne_of_gt (Zw (g := gb298) (o := .cells #[.bool false, .slice none 0 0] 24 (0, 0)) (by (with_reducible repeat (first | refine Ze ?_ _ | refine Zg ?_ | refine Zf ?_ _)); exact BK298.out)) : gb299 ≠ gb298)); clear BK298; clear HB; have BK298 := n0_; have HB := n1_; have BK299 := n2_; have GW299 := n3_; have GE299 := n4_; have NB298_299 := n5_; have NB299_298 := n6_; clear n0_ n1_ n2_ n3_ n4_ n5_ n6_; clear hb hbox hg) | ((with_reducible refine Zp (f := 42) rfl ?_); refine ZB (some 12) rfl rfl Try.func42 (by kernel_rfl) rfl #[.int .i64 a1] rfl (by (try simp only [List.map_toArray, List.map_cons, List.map_nil]); first | done | rfl | (simp only [List.length_drop, List.length_take]; rfl)) ?_; (with_reducible refine (r19may.calls a1 false _ A3.out).mono ?_); rintro e w' ⟨rfl, ⟨nd, rfl⟩⟩; refine ⟨_, rfl, ?_⟩; (try (rw [ZK w121]; generalize hq_ : World.drewN w121 _ = w121; have n0_ : Zb (w121.heap[gb298]? = some (.cells #[.bool false, .slice none 0 0] 24 (0, 0))) := ⟨by rw [← hq_]; exact (by (with_reducible repeat (first | refine Ze ?_ _ | refine Zg ?_ | refine Zf ?_ _)); exact BK298.out)⟩; have n1_ : Zb (w121.heap[gb299]? = some (.cells #[.int .i64 0, .int .i64 0] 35 (0, 0))) := ⟨by rw [← hq_]; exact (by (with_reducible repeat (first | refine Ze ?_ _ | refine Zg ?_ | refine Zf ?_ _)); exact BK299.out)⟩; have n2_ : Zb (Below w.heap.size w w121) := ⟨by rw [← hq_]; exact (by repeat (first | (with_reducible first | exact HB.out | apply Zc | apply Za | apply Zd | refine Zh ?_ GE298.out | refine Zh ?_ GE299.out) | exact HB.out))⟩; clear BK298 BK299 HB hq_; have BK298 := n0_; have BK299 := n1_; have HB := n2_; clear n0_ n1_ n2_)); have hnb122 := NB298_299.out; have hnc122 := NB299_298.out; have hcz123_0 : w121.cell? ⟨gb298, 0, none⟩ = some (.bool false) := (Zk BK298.out 0).trans rfl; have hcz123_1 : w121.cell? ⟨gb298, 1, none⟩ = some (.slice none 0 0) := (Zk BK298.out 1).trans rfl; have hfz123_0 := Zj BK298.out 0; have hfz123_1 := Zj BK298.out 1; have hcz124_0 : w121.cell? ⟨gb299, 0, none⟩ = some (.int .i64 0) := (Zk BK299.out 0).trans rfl; have hcz124_1 : w121.cell? ⟨gb299, 1, none⟩ = some (.int .i64 0) := (Zk BK299.out 1).trans rfl; have hfz124_0 := Zj BK299.out 0; have hfz124_1 := Zj BK299.out 1))
  refine bodyPost_ret (results_cc rfl _ _ gb298 gb299 24 35 #[.bool false, .slice none 0 0] #[.int .i64 2, .int .i64 0] (0, 0) (0, 0) _ _ rfl (by (with_reducible repeat (first | refine Ze ?_ _ | refine Zg ?_ | refine Zf ?_ _)); refine Zr ?_ NB298_299.out _; (with_reducible repeat (first | refine Ze ?_ _ | refine Zg ?_ | refine Zf ?_ _)); refine Zr ?_ NB298_299.out _; (with_reducible repeat (first | refine Ze ?_ _ | refine Zg ?_ | refine Zf ?_ _)); refine Zu (cs := #[.bool false, .slice none 0 0]) ?_ 1 _ rfl; (with_reducible repeat (first | refine Ze ?_ _ | refine Zg ?_ | refine Zf ?_ _)); refine Zu (cs := #[.bool false, .slice none 0 0]) ?_ 0 _ rfl; (with_reducible repeat (first | refine Ze ?_ _ | refine Zg ?_ | refine Zf ?_ _)); exact BK298.out) Try.underlying24 rfl (by kernel_rfl) rfl (by (with_reducible repeat (first | refine Ze ?_ _ | refine Zg ?_ | refine Zf ?_ _)); refine Zu (cs := #[.int .i64 2, .int .i64 0]) ?_ 1 _ rfl; (with_reducible repeat (first | refine Ze ?_ _ | refine Zg ?_ | refine Zf ?_ _)); refine Zu (cs := #[.int .i64 0, .int .i64 0]) ?_ 0 _ rfl; (with_reducible repeat (first | refine Ze ?_ _ | refine Zg ?_ | refine Zf ?_ _)); refine Zr ?_ NB299_298.out _; (with_reducible repeat (first | refine Ze ?_ _ | refine Zg ?_ | refine Zf ?_ _)); refine Zr ?_ NB299_298.out _; (with_reducible repeat (first | refine Ze ?_ _ | refine Zg ?_ | refine Zf ?_ _)); exact BK299.out) Try.underlying35 rfl (by kernel_rfl)) rfl ?_
  exact ⟨_, by first | rfl | (simp [errW_none, errW_some] <;> rfl) | (simp [*, errW_none, errW_some] <;> rfl), by first | exact Kd.R_nil _ _ _ _ _ | exact Kd.V_nil _ _ _ _ _ | exact Kd.S_nil _ _ _ _ _, by repeat (first | (with_reducible first | exact HB.out | apply Zc | apply Za | apply Zd | refine Zh ?_ GE298.out | refine Zh ?_ GE299.out) | exact HB.out)⟩
def w19BaseParses.j0 : Nat → ByteArray → Int → Bool → Option (Bool)
 | 0, _, _, _ => none
 | k + 1, x0, x1, x16 => if x16 = true then ((w19awake.f k).bind fun t346 => (some t346)) else ((base_Parse.f k x0 x1).bind fun bt347 => ((r19Parse.f k x0 x1).bind fun bt355 => ((rkSameInt.f k bt347.1 bt347.2.1 bt355.1 bt355.2.1).bind fun t363 => (if t363 = true then (if (bt347.2.2.1 == bt355.2.2.1 && (bt347.2.2.2 == bt355.2.2.2)) = true then ((w19awake.f k).bind fun t364 => (some t364)) else (none)) else (none)))))
def w19BaseParses.f (k : Nat) (a0 : ByteArray) (a1 : Int) : Option (Bool) := if (a0.size : Int) > 3000 then (w19BaseParses.j0 k a0 a1 (decide ((a0.size : Int) ≤ 1048576))) else (w19BaseParses.j0 k a0 a1 false)
set_option maxHeartbeats 8000000 in
set_option maxRecDepth 100000 in
theorem w19BaseParses.calls (k : Nat) (a0 : ByteArray) (a1 : Int) (r : Bool) (w : World) (h : w19BaseParses.f k a0 a1 = some r) :
  Calls Try.prog 4 #[.string a0, .int .i64 a1] w fun e w' => e = .returned (.bool r) ∧ Below w.heap.size w w' := by
 have hu24 := Try.underlying24
 have hu35 := Try.underlying35
 have HB := Zb.mk (Below.refl w.heap.size w)
 have H : (if (a0.size : Int) > 3000 then (w19BaseParses.j0 k a0 a1 (decide ((a0.size : Int) ≤ 1048576))) else (w19BaseParses.j0 k a0 a1 false)) = some r := h
 clear h
 have HC3 := Zb.mk H
 clear H
 go_enter Try.func4, Try.ntmps4
 go_upto_region 1 with (fail)
 go_cut [16] (fun v16 wc => ∃ (kq : Nat) (x16_2 : Bool), v16 = .bool x16_2 ∧ Zb (w19BaseParses.j0 kq a0 a1 x16_2 = some r) ∧ Zb (kq ≤ k) ∧ Zb (Below w.heap.size w wc))
 case first =>
  have H := HC3.out
  clear HC3
  by_cases c4 : (a0.size : Int) > 3000
  ·rw [if_pos c4] at H
   have c4b0 : decide (3000 < (a0.size : Int)) = true := decide_eq_true c4
   have c4b1 : decide (3000 < a0.size) = true := decide_eq_true (by omega)
   clear c4
   (first | rw [c4b0] | (simp only [Zx, ZA]; rw [c4b0]) | skip)
   have H' := Zb.mk H
   clear H
   go_wp2
   go_meet
   case rel => exact ⟨_, (decide ((a0.size : Int) ≤ 1048576)), (by first | rfl | (simp; done) | (simp [*]; done)), H', ⟨by first | omega | exact Nat.le_refl _⟩, ⟨by repeat (first | (with_reducible first | exact HB.out | apply Zc | apply Za | apply Zd) | exact HB.out)⟩⟩
  ·rw [if_neg c4] at H
   have c4b0 : decide (3000 < (a0.size : Int)) = false := decide_eq_false c4
   have c4b1 : decide (3000 < a0.size) = false := decide_eq_false (by omega)
   clear c4
   (first | rw [c4b0] | (simp only [Zx, ZA]; rw [c4b0]) | skip)
   have H' := Zb.mk H
   clear H
   go_wp2
   go_meet
   case rel => exact ⟨_, (false), (by first | rfl | (simp; done) | (simp [*]; done)), H', ⟨by first | omega | exact Nat.le_refl _⟩, ⟨by repeat (first | (with_reducible first | exact HB.out | apply Zc | apply Za | apply Zd) | exact HB.out)⟩⟩
 case rest =>
  clear HC3
  try clear p2
  try clear c4
  try clear c4b0
  try clear c4b1
  obtain ⟨kq, x16_2, rfl, HA, HJ2, HB⟩ := hcut
  cases kq with
  | zero => exact absurd HA.out (by simp [w19BaseParses.j0])
  | succ kj2 =>
   have H := HA.out
   clear HA
   simp only [w19BaseParses.j0] at H
   by_cases c5 : x16_2 = true
   ·subst c5
    have H1 : ((w19awake.f kj2).bind fun t346 => (some t346)) = some r := by rw [if_pos rfl] at H; exact H
    clear H
    have H := H1
    clear H1
    replace H := Option.bind_eq_some_iff.mp H
    obtain ⟨t346, A60, H⟩ := H
    replace H : (some t346) = some r := H
    have A6 := Zb.mk A60
    clear A60
    obtain rfl := Option.some.inj H
    go_wp2_with (first | ((with_reducible refine Zp (f := 10) rfl ?_); refine ZB (some 17) rfl rfl Try.func10 (by kernel_rfl) rfl #[] rfl (by (try simp only [List.map_toArray, List.map_cons, List.map_nil]); first | done | rfl | (simp only [List.length_drop, List.length_take]; rfl)) ?_; (with_reducible refine (w19awake.calls kj2  t346 _ A6.out).mono ?_); rintro e w7 ⟨rfl, hb⟩; refine ⟨_, rfl, ?_⟩; have n0_ := Zb.mk (Zl (by repeat (first | (with_reducible first | exact HB.out | apply Zc | apply Za | apply Zd) | exact HB.out)) hb); clear HB; have HB := n0_; clear n0_; (try clear hb); (try clear hb2); (try clear hk); (try clear hi)))
    go_ret
    exact ⟨by first | rfl | (simp [errW_none, errW_some] <;> rfl) | (simp [*, errW_none, errW_some] <;> rfl), by repeat (first | (with_reducible first | exact HB.out | apply Zc | apply Za | apply Zd) | exact HB.out)⟩
   ·replace c5 := Bool.eq_false_iff.mpr c5
    subst c5
    have H1 : ((base_Parse.f kj2 a0 a1).bind fun bt347 => ((r19Parse.f kj2 a0 a1).bind fun bt355 => ((rkSameInt.f kj2 bt347.1 bt347.2.1 bt355.1 bt355.2.1).bind fun t363 => (if t363 = true then (if (bt347.2.2.1 == bt355.2.2.1 && (bt347.2.2.2 == bt355.2.2.2)) = true then ((w19awake.f kj2).bind fun t364 => (some t364)) else (none)) else (none))))) = some r := by rw [if_neg (show ¬ (false = true) by decide)] at H; exact H
    clear H
    have H := H1
    clear H1
    replace H := Option.bind_eq_some_iff.mp H
    obtain ⟨⟨t347, t348, t351, t352⟩, A80, H⟩ := H
    replace H : ((r19Parse.f kj2 a0 a1).bind fun bt355 => ((rkSameInt.f kj2 t347 t348 bt355.1 bt355.2.1).bind fun t363 => (if t363 = true then (if (t351 == bt355.2.2.1 && (t352 == bt355.2.2.2)) = true then ((w19awake.f kj2).bind fun t364 => (some t364)) else (none)) else (none)))) = some r := H
    have A8 := Zb.mk A80
    clear A80
    replace H := Option.bind_eq_some_iff.mp H
    obtain ⟨⟨t355, t356, t359, t360⟩, A90, H⟩ := H
    replace H : ((rkSameInt.f kj2 t347 t348 t355 t356).bind fun t363 => (if t363 = true then (if (t351 == t359 && (t352 == t360)) = true then ((w19awake.f kj2).bind fun t364 => (some t364)) else (none)) else (none))) = some r := H
    have A9 := Zb.mk A90
    clear A90
    replace H := Option.bind_eq_some_iff.mp H
    obtain ⟨t363, A100, H⟩ := H
    replace H : (if t363 = true then (if (t351 == t359 && (t352 == t360)) = true then ((w19awake.f kj2).bind fun t364 => (some t364)) else (none)) else (none)) = some r := H
    have A10 := Zb.mk A100
    clear A100
    by_cases c11 : t363 = true
    ·subst c11
     have H1 : (if (t351 == t359 && (t352 == t360)) = true then ((w19awake.f kj2).bind fun t364 => (some t364)) else (none)) = some r := by rw [if_pos rfl] at H; exact H
     clear H
     have H := H1
     clear H1
     by_cases c12 : (t351 == t359 && (t352 == t360)) = true
     ·rw [if_pos c12] at H
      have c12b0 : (t351 == t359 && (t352 == t360)) = true := c12
      (try (have c12b1 : decide (t351 = t359 && (t352 == t360)) = true := by simpa using c12))
      (try (have c12b2 : (t351 == t359 && (t352 == t360)) = true := by simpa using c12))
      clear c12
      replace H := Option.bind_eq_some_iff.mp H
      obtain ⟨t364, A130, H⟩ := H
      replace H : (some t364) = some r := H
      have A13 := Zb.mk A130
      clear A130
      obtain rfl := Option.some.inj H
      go_wp2_with (first | ((with_reducible refine Zp (f := 17) rfl ?_); refine ZB (some 21) rfl rfl Try.func17 (by kernel_rfl) rfl #[.string a0, .int .i64 a1] rfl (by (try simp only [List.map_toArray, List.map_cons, List.map_nil]); first | done | rfl | (simp only [List.length_drop, List.length_take]; rfl)) ?_; (with_reducible refine (base_Parse.calls kj2 a0 a1 t347 t348 t351 t352 _ A8.out).mono ?_); rintro e w14 ⟨v349, rfl, ho0, hb⟩; refine ⟨_, rfl, ?_⟩; have n0_ := Zb.mk (Kd.ZG ho0 (Zi (by repeat (first | (with_reducible first | exact HB.out | apply Zc | apply Za | apply Zd) | exact HB.out)))); have n1_ := Zb.mk (Zl (by repeat (first | (with_reducible first | exact HB.out | apply Zc | apply Za | apply Zd) | exact HB.out)) hb); clear HB; have HO350 := n0_; have HB := n1_; clear n0_ n1_; (try clear hb); (try clear hb2); (try clear hk); (try clear hi); (try clear ho0)) | ((with_reducible refine Zt (N := 5) rfl ?_); (try (refine gate_guard (by rfl) ?_; dsimp only)); refine Zs ?hg (N := 5) ?hd (cs := #[.bool false, .slice none 0 0]) (t := 24) ?hr ?_; (case hd => rfl); (case hg => rfl); (case hr => first | (go_simp; done) | (go_simp; rfl)); intro gb353 hg w15 hbox hb; have n0_ := Zb.mk (Kd.Zz (by (with_reducible repeat (first | apply Kd.Zm | apply Kd.Zo)); exact HO350.out) hb); have n1_ := Zb.mk (Zl (by repeat (first | (with_reducible first | exact HB.out | apply Zc | apply Za | apply Zd) | exact HB.out)) hb); have n2_ := Zb.mk (hbox); have n3_ := Zb.mk ((by rw [hg]; exact (Zi (by repeat (first | (with_reducible first | exact HB.out | apply Zc | apply Za | apply Zd) | exact HB.out))) : w.heap.size ≤ gb353)); have n4_ := Zb.mk ((by rw [hg]; exact (Zi (by repeat (first | (with_reducible first | exact HB.out | apply Zc | apply Za | apply Zd) | exact HB.out))) : w.heap.size ≤ gb353)); clear HO350; clear HB; have HO350 := n0_; have HB := n1_; have BK353 := n2_; have GW353 := n3_; have GE353 := n4_; clear n0_ n1_ n2_ n3_ n4_; clear hb hbox hg) | ((with_reducible refine Zt (N := 6) rfl ?_); (try (refine gate_guard (by rfl) ?_; dsimp only)); refine Zs ?hg (N := 6) ?hd (cs := #[.int .i64 0, .int .i64 0]) (t := 35) ?hr ?_; (case hd => rfl); (case hg => rfl); (case hr => first | (go_simp; done) | (go_simp; rfl)); intro gb354 hg w16 hbox hb; have n0_ := Zb.mk (Kd.Zz (by (with_reducible repeat (first | apply Kd.Zm | apply Kd.Zo)); exact HO350.out) hb); have n1_ := Zb.mk (Zn (g := gb353) (o := .cells #[.bool false, .slice none 0 0] 24 (0, 0)) (by (with_reducible repeat (first | refine Ze ?_ _ | refine Zg ?_ | refine Zf ?_ _)); exact BK353.out) hb); have n2_ := Zb.mk (Zl (by repeat (first | (with_reducible first | exact HB.out | apply Zc | apply Za | apply Zd | refine Zh ?_ GE353.out) | exact HB.out)) hb); have n3_ := Zb.mk (hbox); have n4_ := Zb.mk ((by rw [hg]; exact (Zi (by repeat (first | (with_reducible first | exact HB.out | apply Zc | apply Za | apply Zd | refine Zh ?_ GE353.out) | exact HB.out))) : w.heap.size ≤ gb354)); have n5_ := Zb.mk ((by rw [hg]; exact (Zi (by repeat (first | (with_reducible first | exact HB.out | apply Zc | apply Za | apply Zd | refine Zh ?_ GE353.out) | exact HB.out))) : w.heap.size ≤ gb354)); have n6_ := Zb.mk ((by rw [hg]; exact Nat.ne_of_lt (Zw (g := gb353) (o := .cells #[.bool false, .slice none 0 0] 24 (0, 0)) (by (with_reducible repeat (first | refine Ze ?_ _ | refine Zg ?_ | refine Zf ?_ _)); exact BK353.out)) : gb353 ≠ gb354)); have n7_ := Zb.mk ((by rw [hg]; exact Nat.ne_of_gt (Zw (g := gb353) (o := .cells #[.bool false, .slice none 0 0] 24 (0, 0)) (by (with_reducible repeat (first | refine Ze ?_ _ | refine Zg ?_ | refine Zf ?_ _)); exact BK353.out)) : gb354 ≠ gb353)); clear HO350; clear BK353; clear HB; have HO350 := n0_; have BK353 := n1_; have HB := n2_; have BK354 := n3_; have GW354 := n4_; have GE354 := n5_; have NB353_354 := n6_; have NB354_353 := n7_; clear n0_ n1_ n2_ n3_ n4_ n5_ n6_ n7_; clear hb hbox hg; have hnb17 := NB353_354.out; have hnc17 := NB354_353.out; have hcz18_0 : w16.cell? ⟨gb353, 0, none⟩ = some (.bool false) := (Zk BK353.out 0).trans rfl; have hcz18_1 : w16.cell? ⟨gb353, 1, none⟩ = some (.slice none 0 0) := (Zk BK353.out 1).trans rfl; have hfz18_0 := Zj BK353.out 0; have hfz18_1 := Zj BK353.out 1; obtain ⟨Ao19, co19, eo19⟩ := Kd.Zy HO350.out; subst eo19; have hcz20_0 : w16.cell? ⟨gb354, 0, none⟩ = some (.int .i64 0) := (Zk BK354.out 0).trans rfl; have hcz20_1 : w16.cell? ⟨gb354, 1, none⟩ = some (.int .i64 0) := (Zk BK354.out 1).trans rfl; have hfz20_0 := Zj BK354.out 0; have hfz20_1 := Zj BK354.out 1) | ((with_reducible refine Zp (f := 18) rfl ?_); refine ZB (some 27) rfl rfl Try.func18 (by kernel_rfl) rfl #[.string a0, .int .i64 a1] rfl (by (try simp only [List.map_toArray, List.map_cons, List.map_nil]); first | done | rfl | (simp only [List.length_drop, List.length_take]; rfl)) ?_; (with_reducible refine (r19Parse.calls kj2 a0 a1 t355 t356 t359 t360 _ A9.out).mono ?_); rintro e w21 ⟨v357, rfl, ho0, hb⟩; refine ⟨_, rfl, ?_⟩; have n0_ := Zb.mk (Kd.ZJ (by (with_reducible repeat (first | apply Kd.Zm | apply Kd.Zo)); exact (Kd.ZE (Kd.ZE (Kd.ZH (p := ⟨gb354, 1, none⟩) (Kd.ZH (p := ⟨gb354, 0, none⟩) (Kd.ZH (p := ⟨gb353, 1, none⟩) (Kd.ZH (p := ⟨gb353, 0, none⟩) (Kd.ZI (Kd.ZI HO350.out BK353.out (by decide)) BK354.out (by decide)) (fun _ hk => hk.1.2) (.bool t347)) (fun _ hk => hk.1.2) (.slice Ao19 t348.length co19)) (fun _ hk => hk.2) (.int .i64 t351)) (fun _ hk => hk.2) (.int .i64 t352)) (fun _ h_ => h_.1)) (fun _ h_ => h_.1))) (Kd.ZV ho0) hb); have n1_ := Zb.mk (Kd.ZG (Kd.R_new' ho0 (Kd.R_lt (by (with_reducible repeat (first | apply Kd.Zm | apply Kd.Zo)); exact (Kd.ZE (Kd.ZE (Kd.ZH (p := ⟨gb354, 1, none⟩) (Kd.ZH (p := ⟨gb354, 0, none⟩) (Kd.ZH (p := ⟨gb353, 1, none⟩) (Kd.ZH (p := ⟨gb353, 0, none⟩) (Kd.ZI (Kd.ZI HO350.out BK353.out (by decide)) BK354.out (by decide)) (fun _ hk => hk.1.2) (.bool t347)) (fun _ hk => hk.1.2) (.slice Ao19 t348.length co19)) (fun _ hk => hk.2) (.int .i64 t351)) (fun _ hk => hk.2) (.int .i64 t352)) (fun _ h_ => h_.1)) (fun _ h_ => h_.1))))) (Zi (by repeat (first | (with_reducible first | exact HB.out | apply Zc | apply Za | apply Zd | refine Zh ?_ GE353.out | refine Zh ?_ GE354.out) | exact HB.out)))); have n2_ := Zb.mk (Zn (g := gb353) (o := .cells #[.bool t347, .slice Ao19 t348.length co19] 24 (0, 0)) (by (with_reducible repeat (first | refine Ze ?_ _ | refine Zg ?_ | refine Zf ?_ _)); refine Zr ?_ NB353_354.out _; (with_reducible repeat (first | refine Ze ?_ _ | refine Zg ?_ | refine Zf ?_ _)); refine Zr ?_ NB353_354.out _; (with_reducible repeat (first | refine Ze ?_ _ | refine Zg ?_ | refine Zf ?_ _)); refine Zu (cs := #[.bool t347, .slice none 0 0]) ?_ 1 _ rfl; (with_reducible repeat (first | refine Ze ?_ _ | refine Zg ?_ | refine Zf ?_ _)); refine Zu (cs := #[.bool false, .slice none 0 0]) ?_ 0 _ rfl; (with_reducible repeat (first | refine Ze ?_ _ | refine Zg ?_ | refine Zf ?_ _)); exact BK353.out) hb); have n3_ := Zb.mk (Zn (g := gb354) (o := .cells #[.int .i64 t351, .int .i64 t352] 35 (0, 0)) (by (with_reducible repeat (first | refine Ze ?_ _ | refine Zg ?_ | refine Zf ?_ _)); refine Zu (cs := #[.int .i64 t351, .int .i64 0]) ?_ 1 _ rfl; (with_reducible repeat (first | refine Ze ?_ _ | refine Zg ?_ | refine Zf ?_ _)); refine Zu (cs := #[.int .i64 0, .int .i64 0]) ?_ 0 _ rfl; (with_reducible repeat (first | refine Ze ?_ _ | refine Zg ?_ | refine Zf ?_ _)); refine Zr ?_ NB354_353.out _; (with_reducible repeat (first | refine Ze ?_ _ | refine Zg ?_ | refine Zf ?_ _)); refine Zr ?_ NB354_353.out _; (with_reducible repeat (first | refine Ze ?_ _ | refine Zg ?_ | refine Zf ?_ _)); exact BK354.out) hb); have n4_ := Zb.mk (Zl (by repeat (first | (with_reducible first | exact HB.out | apply Zc | apply Za | apply Zd | refine Zh ?_ GE353.out | refine Zh ?_ GE354.out) | exact HB.out)) hb); clear HO350; clear BK353; clear BK354; clear HB; have HO350 := n0_; have HO358 := n1_; have BK353 := n2_; have BK354 := n3_; have HB := n4_; clear n0_ n1_ n2_ n3_ n4_; (try clear hb); (try clear hb2); (try clear hk); (try clear hi); (try clear ho0)) | ((with_reducible refine Zt (N := 7) rfl ?_); (try (refine gate_guard (by rfl) ?_; dsimp only)); refine Zs ?hg (N := 7) ?hd (cs := #[.bool false, .slice none 0 0]) (t := 24) ?hr ?_; (case hd => rfl); (case hg => rfl); (case hr => first | (go_simp; done) | (go_simp; rfl)); intro gb361 hg w22 hbox hb; have n0_ := Zb.mk (Kd.Zz (by (with_reducible repeat (first | apply Kd.Zm | apply Kd.Zo)); exact HO350.out) hb); have n1_ := Zb.mk (Kd.Zz (by (with_reducible repeat (first | apply Kd.Zm | apply Kd.Zo)); exact HO358.out) hb); have n2_ := Zb.mk (Zn (g := gb353) (o := .cells #[.bool t347, .slice Ao19 t348.length co19] 24 (0, 0)) (by (with_reducible repeat (first | refine Ze ?_ _ | refine Zg ?_ | refine Zf ?_ _)); exact BK353.out) hb); have n3_ := Zb.mk (Zn (g := gb354) (o := .cells #[.int .i64 t351, .int .i64 t352] 35 (0, 0)) (by (with_reducible repeat (first | refine Ze ?_ _ | refine Zg ?_ | refine Zf ?_ _)); exact BK354.out) hb); have n4_ := Zb.mk (Zl (by repeat (first | (with_reducible first | exact HB.out | apply Zc | apply Za | apply Zd | refine Zh ?_ GE353.out | refine Zh ?_ GE354.out) | exact HB.out)) hb); have n5_ := Zb.mk (hbox); have n6_ := Zb.mk ((by rw [hg]; exact (Zi (by repeat (first | (with_reducible first | exact HB.out | apply Zc | apply Za | apply Zd | refine Zh ?_ GE353.out | refine Zh ?_ GE354.out) | exact HB.out))) : w.heap.size ≤ gb361)); have n7_ := Zb.mk ((by rw [hg]; exact (Zi (by repeat (first | (with_reducible first | exact HB.out | apply Zc | apply Za | apply Zd | refine Zh ?_ GE353.out | refine Zh ?_ GE354.out) | exact HB.out))) : w.heap.size ≤ gb361)); have n8_ := Zb.mk ((by rw [hg]; exact Nat.ne_of_lt (Zw (g := gb353) (o := .cells #[.bool t347, .slice Ao19 t348.length co19] 24 (0, 0)) (by (with_reducible repeat (first | refine Ze ?_ _ | refine Zg ?_ | refine Zf ?_ _)); exact BK353.out)) : gb353 ≠ gb361)); have n9_ := Zb.mk ((by rw [hg]; exact Nat.ne_of_gt (Zw (g := gb353) (o := .cells #[.bool t347, .slice Ao19 t348.length co19] 24 (0, 0)) (by (with_reducible repeat (first | refine Ze ?_ _ | refine Zg ?_ | refine Zf ?_ _)); exact BK353.out)) : gb361 ≠ gb353)); have n10_ := Zb.mk ((by rw [hg]; exact Nat.ne_of_lt (Zw (g := gb354) (o := .cells #[.int .i64 t351, .int .i64 t352] 35 (0, 0)) (by (with_reducible repeat (first | refine Ze ?_ _ | refine Zg ?_ | refine Zf ?_ _)); exact BK354.out)) : gb354 ≠ gb361)); have n11_ := Zb.mk ((by rw [hg]; exact Nat.ne_of_gt (Zw (g := gb354) (o := .cells #[.int .i64 t351, .int .i64 t352] 35 (0, 0)) (by (with_reducible repeat (first | refine Ze ?_ _ | refine Zg ?_ | refine Zf ?_ _)); exact BK354.out)) : gb361 ≠ gb354)); clear HO350; clear HO358; clear BK353; clear BK354; clear HB; have HO350 := n0_; have HO358 := n1_; have BK353 := n2_; have BK354 := n3_; have HB := n4_; have BK361 := n5_; have GW361 := n6_; have GE361 := n7_; have NB353_361 := n8_; have NB361_353 := n9_; have NB354_361 := n10_; have NB361_354 := n11_; clear n0_ n1_ n2_ n3_ n4_ n5_ n6_ n7_ n8_ n9_ n10_ n11_; clear hb hbox hg) | ((with_reducible refine Zt (N := 8) rfl ?_); (try (refine gate_guard (by rfl) ?_; dsimp only)); refine Zs ?hg (N := 8) ?hd (cs := #[.int .i64 0, .int .i64 0]) (t := 35) ?hr ?_; (case hd => rfl); (case hg => rfl); (case hr => first | (go_simp; done) | (go_simp; rfl)); intro gb362 hg w23 hbox hb; have n0_ := Zb.mk (Kd.Zz (by (with_reducible repeat (first | apply Kd.Zm | apply Kd.Zo)); exact HO350.out) hb); have n1_ := Zb.mk (Kd.Zz (by (with_reducible repeat (first | apply Kd.Zm | apply Kd.Zo)); exact HO358.out) hb); have n2_ := Zb.mk (Zn (g := gb353) (o := .cells #[.bool t347, .slice Ao19 t348.length co19] 24 (0, 0)) (by (with_reducible repeat (first | refine Ze ?_ _ | refine Zg ?_ | refine Zf ?_ _)); exact BK353.out) hb); have n3_ := Zb.mk (Zn (g := gb354) (o := .cells #[.int .i64 t351, .int .i64 t352] 35 (0, 0)) (by (with_reducible repeat (first | refine Ze ?_ _ | refine Zg ?_ | refine Zf ?_ _)); exact BK354.out) hb); have n4_ := Zb.mk (Zn (g := gb361) (o := .cells #[.bool false, .slice none 0 0] 24 (0, 0)) (by (with_reducible repeat (first | refine Ze ?_ _ | refine Zg ?_ | refine Zf ?_ _)); exact BK361.out) hb); have n5_ := Zb.mk (Zl (by repeat (first | (with_reducible first | exact HB.out | apply Zc | apply Za | apply Zd | refine Zh ?_ GE353.out | refine Zh ?_ GE354.out | refine Zh ?_ GE361.out) | exact HB.out)) hb); have n6_ := Zb.mk (hbox); have n7_ := Zb.mk ((by rw [hg]; exact (Zi (by repeat (first | (with_reducible first | exact HB.out | apply Zc | apply Za | apply Zd | refine Zh ?_ GE353.out | refine Zh ?_ GE354.out | refine Zh ?_ GE361.out) | exact HB.out))) : w.heap.size ≤ gb362)); have n8_ := Zb.mk ((by rw [hg]; exact (Zi (by repeat (first | (with_reducible first | exact HB.out | apply Zc | apply Za | apply Zd | refine Zh ?_ GE353.out | refine Zh ?_ GE354.out | refine Zh ?_ GE361.out) | exact HB.out))) : w.heap.size ≤ gb362)); have n9_ := Zb.mk ((by rw [hg]; exact Nat.ne_of_lt (Zw (g := gb353) (o := .cells #[.bool t347, .slice Ao19 t348.length co19] 24 (0, 0)) (by (with_reducible repeat (first | refine Ze ?_ _ | refine Zg ?_ | refine Zf ?_ _)); exact BK353.out)) : gb353 ≠ gb362)); have n10_ := Zb.mk ((by rw [hg]; exact Nat.ne_of_gt (Zw (g := gb353) (o := .cells #[.bool t347, .slice Ao19 t348.length co19] 24 (0, 0)) (by (with_reducible repeat (first | refine Ze ?_ _ | refine Zg ?_ | refine Zf ?_ _)); exact BK353.out)) : gb362 ≠ gb353)); have n11_ := Zb.mk ((by rw [hg]; exact Nat.ne_of_lt (Zw (g := gb354) (o := .cells #[.int .i64 t351, .int .i64 t352] 35 (0, 0)) (by (with_reducible repeat (first | refine Ze ?_ _ | refine Zg ?_ | refine Zf ?_ _)); exact BK354.out)) : gb354 ≠ gb362)); have n12_ := Zb.mk ((by rw [hg]; exact Nat.ne_of_gt (Zw (g := gb354) (o := .cells #[.int .i64 t351, .int .i64 t352] 35 (0, 0)) (by (with_reducible repeat (first | refine Ze ?_ _ | refine Zg ?_ | refine Zf ?_ _)); exact BK354.out)) : gb362 ≠ gb354)); have n13_ := Zb.mk ((by rw [hg]; exact Nat.ne_of_lt (Zw (g := gb361) (o := .cells #[.bool false, .slice none 0 0] 24 (0, 0)) (by (with_reducible repeat (first | refine Ze ?_ _ | refine Zg ?_ | refine Zf ?_ _)); exact BK361.out)) : gb361 ≠ gb362)); have n14_ := Zb.mk ((by rw [hg]; exact Nat.ne_of_gt (Zw (g := gb361) (o := .cells #[.bool false, .slice none 0 0] 24 (0, 0)) (by (with_reducible repeat (first | refine Ze ?_ _ | refine Zg ?_ | refine Zf ?_ _)); exact BK361.out)) : gb362 ≠ gb361)); clear HO350; clear HO358; clear BK353; clear BK354; clear BK361; clear HB; have HO350 := n0_; have HO358 := n1_; have BK353 := n2_; have BK354 := n3_; have BK361 := n4_; have HB := n5_; have BK362 := n6_; have GW362 := n7_; have GE362 := n8_; have NB353_362 := n9_; have NB362_353 := n10_; have NB354_362 := n11_; have NB362_354 := n12_; have NB361_362 := n13_; have NB362_361 := n14_; clear n0_ n1_ n2_ n3_ n4_ n5_ n6_ n7_ n8_ n9_ n10_ n11_ n12_ n13_ n14_; clear hb hbox hg; have hnb24 := NB361_353.out; have hnc24 := NB353_361.out; have hnb25 := NB361_354.out; have hnc25 := NB354_361.out; have hnb26 := NB361_362.out; have hnc26 := NB362_361.out; have hcz27_0 : w23.cell? ⟨gb361, 0, none⟩ = some (.bool false) := (Zk BK361.out 0).trans rfl; have hcz27_1 : w23.cell? ⟨gb361, 1, none⟩ = some (.slice none 0 0) := (Zk BK361.out 1).trans rfl; have hfz27_0 := Zj BK361.out 0; have hfz27_1 := Zj BK361.out 1; obtain ⟨Ao28, co28, eo28⟩ := Kd.Zy HO358.out; subst eo28; have hnb29 := NB362_353.out; have hnc29 := NB353_362.out; have hnb30 := NB362_354.out; have hnc30 := NB354_362.out; have hcz31_0 : w23.cell? ⟨gb362, 0, none⟩ = some (.int .i64 0) := (Zk BK362.out 0).trans rfl; have hcz31_1 : w23.cell? ⟨gb362, 1, none⟩ = some (.int .i64 0) := (Zk BK362.out 1).trans rfl; have hfz31_0 := Zj BK362.out 0; have hfz31_1 := Zj BK362.out 1; have hcz32_0 : w23.cell? ⟨gb353, 0, none⟩ = some (.bool t347) := (Zk BK353.out 0).trans rfl; have hcz32_1 : w23.cell? ⟨gb353, 1, none⟩ = some (.slice Ao19 t348.length co19) := (Zk BK353.out 1).trans rfl; have hfz32_0 := Zj BK353.out 0; have hfz32_1 := Zj BK353.out 1) | ((with_reducible refine Zp (f := 19) rfl ?_); refine ZB (some 32) rfl rfl Try.func19 (by kernel_rfl) rfl #[.agg #[.bool t347, .slice Ao19 t348.length co19], .agg #[.bool t355, .slice Ao28 t356.length co28]] rfl (by (try simp only [List.map_toArray, List.map_cons, List.map_nil]); first | done | rfl | (simp only [List.length_drop, List.length_take]; rfl)) ?_; (with_reducible refine (rkSameInt.calls kj2 t347 _ _ t348 t355 _ _ t356 true _ ?side1 ?side2 ?side3 ?side4 A10.out).mono ?_); (case side1 => refine (Kd.Zv (e := 46) (base := w.heap.size) (ok := fun k_ => (True ∧ some k_ ≠ (.slice Ao28 t356.length co28 : Value).ownBlock)) (n := t348.length) (c := co19) ?_).2.2; exact (by (with_reducible repeat (first | apply Kd.Zm | apply Kd.Zo)); exact (Kd.ZE (Kd.ZE (Kd.ZH (p := ⟨gb362, 1, none⟩) (Kd.ZH (p := ⟨gb362, 0, none⟩) (Kd.ZH (p := ⟨gb361, 1, none⟩) (Kd.ZH (p := ⟨gb361, 0, none⟩) (Kd.ZI (Kd.ZI HO350.out BK361.out (by decide)) BK362.out (by decide)) (fun _ hk => hk.1.2) (.bool t355)) (fun _ hk => hk.1.2) (.slice Ao28 t356.length co28)) (fun _ hk => hk.2) (.int .i64 t359)) (fun _ hk => hk.2) (.int .i64 t360)) (fun _ h_ => h_.1)) (fun _ h_ => h_.1)))); (case side2 => exact (Kd.Zv HO350.out).2.1); (case side3 => refine (Kd.Zv (e := 46) (base := w.heap.size) (ok := fun k_ => (True ∧ some k_ ≠ (.slice Ao19 t348.length co19 : Value).ownBlock)) (n := t356.length) (c := co28) ?_).2.2; exact (by (with_reducible repeat (first | apply Kd.Zm | apply Kd.Zo)); exact (Kd.ZE (Kd.ZE (Kd.ZH (p := ⟨gb362, 1, none⟩) (Kd.ZH (p := ⟨gb362, 0, none⟩) (Kd.ZH (p := ⟨gb361, 1, none⟩) (Kd.ZH (p := ⟨gb361, 0, none⟩) (Kd.ZI (Kd.ZI HO358.out BK361.out (by decide)) BK362.out (by decide)) (fun _ hk => hk.1.2) (.bool t355)) (fun _ hk => hk.1.2) (.slice Ao28 t356.length co28)) (fun _ hk => hk.2) (.int .i64 t359)) (fun _ hk => hk.2) (.int .i64 t360)) (fun _ h_ => h_.1)) (fun _ h_ => h_.1)))); (case side4 => exact (Kd.Zv HO358.out).2.1); rintro e w33 ⟨rfl, hb⟩; refine ⟨_, rfl, ?_⟩; have n0_ := Zb.mk (Kd.Zz (by (with_reducible repeat (first | apply Kd.Zm | apply Kd.Zo)); exact (Kd.ZE (Kd.ZE (Kd.ZH (p := ⟨gb362, 1, none⟩) (Kd.ZH (p := ⟨gb362, 0, none⟩) (Kd.ZH (p := ⟨gb361, 1, none⟩) (Kd.ZH (p := ⟨gb361, 0, none⟩) (Kd.ZI (Kd.ZI HO350.out BK361.out (by decide)) BK362.out (by decide)) (fun _ hk => hk.1.2) (.bool t355)) (fun _ hk => hk.1.2) (.slice Ao28 t356.length co28)) (fun _ hk => hk.2) (.int .i64 t359)) (fun _ hk => hk.2) (.int .i64 t360)) (fun _ h_ => h_.1)) (fun _ h_ => h_.1))) hb); have n1_ := Zb.mk (Kd.Zz (by (with_reducible repeat (first | apply Kd.Zm | apply Kd.Zo)); exact (Kd.ZE (Kd.ZE (Kd.ZH (p := ⟨gb362, 1, none⟩) (Kd.ZH (p := ⟨gb362, 0, none⟩) (Kd.ZH (p := ⟨gb361, 1, none⟩) (Kd.ZH (p := ⟨gb361, 0, none⟩) (Kd.ZI (Kd.ZI HO358.out BK361.out (by decide)) BK362.out (by decide)) (fun _ hk => hk.1.2) (.bool t355)) (fun _ hk => hk.1.2) (.slice Ao28 t356.length co28)) (fun _ hk => hk.2) (.int .i64 t359)) (fun _ hk => hk.2) (.int .i64 t360)) (fun _ h_ => h_.1)) (fun _ h_ => h_.1))) hb); have n2_ := Zb.mk (Zn (g := gb353) (o := .cells #[.bool t347, .slice Ao19 t348.length co19] 24 (0, 0)) (by (with_reducible repeat (first | refine Ze ?_ _ | refine Zg ?_ | refine Zf ?_ _)); refine Zr ?_ NB353_362.out _; (with_reducible repeat (first | refine Ze ?_ _ | refine Zg ?_ | refine Zf ?_ _)); refine Zr ?_ NB353_362.out _; (with_reducible repeat (first | refine Ze ?_ _ | refine Zg ?_ | refine Zf ?_ _)); refine Zr ?_ NB353_361.out _; (with_reducible repeat (first | refine Ze ?_ _ | refine Zg ?_ | refine Zf ?_ _)); refine Zr ?_ NB353_361.out _; (with_reducible repeat (first | refine Ze ?_ _ | refine Zg ?_ | refine Zf ?_ _)); exact BK353.out) hb); have n3_ := Zb.mk (Zn (g := gb354) (o := .cells #[.int .i64 t351, .int .i64 t352] 35 (0, 0)) (by (with_reducible repeat (first | refine Ze ?_ _ | refine Zg ?_ | refine Zf ?_ _)); refine Zr ?_ NB354_362.out _; (with_reducible repeat (first | refine Ze ?_ _ | refine Zg ?_ | refine Zf ?_ _)); refine Zr ?_ NB354_362.out _; (with_reducible repeat (first | refine Ze ?_ _ | refine Zg ?_ | refine Zf ?_ _)); refine Zr ?_ NB354_361.out _; (with_reducible repeat (first | refine Ze ?_ _ | refine Zg ?_ | refine Zf ?_ _)); refine Zr ?_ NB354_361.out _; (with_reducible repeat (first | refine Ze ?_ _ | refine Zg ?_ | refine Zf ?_ _)); exact BK354.out) hb); have n4_ := Zb.mk (Zn (g := gb361) (o := .cells #[.bool t355, .slice Ao28 t356.length co28] 24 (0, 0)) (by (with_reducible repeat (first | refine Ze ?_ _ | refine Zg ?_ | refine Zf ?_ _)); refine Zr ?_ NB361_362.out _; (with_reducible repeat (first | refine Ze ?_ _ | refine Zg ?_ | refine Zf ?_ _)); refine Zr ?_ NB361_362.out _; (with_reducible repeat (first | refine Ze ?_ _ | refine Zg ?_ | refine Zf ?_ _)); refine Zu (cs := #[.bool t355, .slice none 0 0]) ?_ 1 _ rfl; (with_reducible repeat (first | refine Ze ?_ _ | refine Zg ?_ | refine Zf ?_ _)); refine Zu (cs := #[.bool false, .slice none 0 0]) ?_ 0 _ rfl; (with_reducible repeat (first | refine Ze ?_ _ | refine Zg ?_ | refine Zf ?_ _)); exact BK361.out) hb); have n5_ := Zb.mk (Zn (g := gb362) (o := .cells #[.int .i64 t359, .int .i64 t360] 35 (0, 0)) (by (with_reducible repeat (first | refine Ze ?_ _ | refine Zg ?_ | refine Zf ?_ _)); refine Zu (cs := #[.int .i64 t359, .int .i64 0]) ?_ 1 _ rfl; (with_reducible repeat (first | refine Ze ?_ _ | refine Zg ?_ | refine Zf ?_ _)); refine Zu (cs := #[.int .i64 0, .int .i64 0]) ?_ 0 _ rfl; (with_reducible repeat (first | refine Ze ?_ _ | refine Zg ?_ | refine Zf ?_ _)); refine Zr ?_ NB362_361.out _; (with_reducible repeat (first | refine Ze ?_ _ | refine Zg ?_ | refine Zf ?_ _)); refine Zr ?_ NB362_361.out _; (with_reducible repeat (first | refine Ze ?_ _ | refine Zg ?_ | refine Zf ?_ _)); exact BK362.out) hb); have n6_ := Zb.mk (Zl (by repeat (first | (with_reducible first | exact HB.out | apply Zc | apply Za | apply Zd | refine Zh ?_ GE353.out | refine Zh ?_ GE354.out | refine Zh ?_ GE361.out | refine Zh ?_ GE362.out) | exact HB.out)) hb); clear HO350; clear HO358; clear BK353; clear BK354; clear BK361; clear BK362; clear HB; have HO350 := n0_; have HO358 := n1_; have BK353 := n2_; have BK354 := n3_; have BK361 := n4_; have BK362 := n5_; have HB := n6_; clear n0_ n1_ n2_ n3_ n4_ n5_ n6_; (try clear hb); (try clear hb2); (try clear hk); (try clear hi); have hcz34_0 : w33.cell? ⟨gb354, 0, none⟩ = some (.int .i64 t351) := (Zk BK354.out 0).trans rfl; have hcz34_1 : w33.cell? ⟨gb354, 1, none⟩ = some (.int .i64 t352) := (Zk BK354.out 1).trans rfl; have hfz34_0 := Zj BK354.out 0; have hfz34_1 := Zj BK354.out 1; have hcz35_0 : w33.cell? ⟨gb362, 0, none⟩ = some (.int .i64 t359) := (Zk BK362.out 0).trans rfl; have hcz35_1 : w33.cell? ⟨gb362, 1, none⟩ = some (.int .i64 t360) := (Zk BK362.out 1).trans rfl; have hfz35_0 := Zj BK362.out 0; have hfz35_1 := Zj BK362.out 1) | (go_at_call 10; (with_reducible refine (w19awake.calls kj2  t364 _ A13.out).mono ?_); rintro e w36 ⟨rfl, hb⟩; have n0_ := Zb.mk (Kd.Zz (by (with_reducible repeat (first | apply Kd.Zm | apply Kd.Zo)); exact HO350.out) hb); have n1_ := Zb.mk (Kd.Zz (by (with_reducible repeat (first | apply Kd.Zm | apply Kd.Zo)); exact HO358.out) hb); have n2_ := Zb.mk (Zn (g := gb353) (o := .cells #[.bool t347, .slice Ao19 t348.length co19] 24 (0, 0)) (by (with_reducible repeat (first | refine Ze ?_ _ | refine Zg ?_ | refine Zf ?_ _)); exact BK353.out) hb); have n3_ := Zb.mk (Zn (g := gb354) (o := .cells #[.int .i64 t351, .int .i64 t352] 35 (0, 0)) (by (with_reducible repeat (first | refine Ze ?_ _ | refine Zg ?_ | refine Zf ?_ _)); exact BK354.out) hb); have n4_ := Zb.mk (Zn (g := gb361) (o := .cells #[.bool t355, .slice Ao28 t356.length co28] 24 (0, 0)) (by (with_reducible repeat (first | refine Ze ?_ _ | refine Zg ?_ | refine Zf ?_ _)); exact BK361.out) hb); have n5_ := Zb.mk (Zn (g := gb362) (o := .cells #[.int .i64 t359, .int .i64 t360] 35 (0, 0)) (by (with_reducible repeat (first | refine Ze ?_ _ | refine Zg ?_ | refine Zf ?_ _)); exact BK362.out) hb); have n6_ := Zb.mk (Zl (by repeat (first | (with_reducible first | exact HB.out | apply Zc | apply Za | apply Zd | refine Zh ?_ GE353.out | refine Zh ?_ GE354.out | refine Zh ?_ GE361.out | refine Zh ?_ GE362.out) | exact HB.out)) hb); clear HO350; clear HO358; clear BK353; clear BK354; clear BK361; clear BK362; clear HB; have HO350 := n0_; have HO358 := n1_; have BK353 := n2_; have BK354 := n3_; have BK361 := n4_; have BK362 := n5_; have HB := n6_; clear n0_ n1_ n2_ n3_ n4_ n5_ n6_; (try clear hb); (try clear hb2); (try clear hk); (try clear hi)))
      go_ret
      exact ⟨by first | rfl | (simp [errW_none, errW_some] <;> rfl) | (simp [*, errW_none, errW_some] <;> rfl), by repeat (first | (with_reducible first | exact HB.out | apply Zc | apply Za | apply Zd | refine Zh ?_ GE353.out | refine Zh ?_ GE354.out | refine Zh ?_ GE361.out | refine Zh ?_ GE362.out) | exact HB.out)⟩
     ·rw [if_neg c12] at H
      exact absurd H (by simp)
    ·replace c11 := Bool.eq_false_iff.mpr c11
     subst c11
     have H1 : (none) = some r := by rw [if_neg (show ¬ (false = true) by decide)] at H; exact H
     clear H
     have H := H1
     clear H1
     exact absurd H (by simp)
def w19BaseParses.Pure : Prop := ∀ (a0 : ByteArray) (a1 : Int), a0.size ≤ 140737488351232 → (Lit.int .i64 a1).wf = true → ∃ k, w19BaseParses.f k a0 a1 = some true
theorem w19BaseParses.walk (P : w19BaseParses.Pure) (a0 : ByteArray) (a1 : Int) (w : World) (w0 : a0.size ≤ 140737488351232) (w1 : (Lit.int .i64 a1).wf = true) :
  Calls Try.prog 4 #[.string a0, .int .i64 a1] w fun e w' => e = .returned (.bool true) ∧ Below w.heap.size w w' := by
 obtain ⟨k, h⟩ := P a0 a1 w0 w1
 refine (w19BaseParses.calls k a0 a1 true w h).mono ?_
 rintro e w' ⟨rfl, hd⟩
 exact ⟨rfl, hd⟩
end Go.Proofs.Ytokmpejgfkfmbaa.BB
end
section
namespace Go.Proofs.Ytokmpejgfkfmbaa.BM
open Go.RowKit Go.Proofs.YtokmpejgfkfmbaaW.PrintWords Go.Proofs.YtokmpejgfkfmbaaW.PrintLast Go.Proofs.YtokmpejgfkfmbaaW.PrintMore
def Ev {α : Type} (f : Nat → Option α) (r : α) : Prop := ∃ K, ∀ k, K ≤ k → f k = some r
namespace Ev
variable {α β : Type}
theorem pure (r : α) : Ev (fun _ => some r) r := ⟨0, fun _ _ => rfl⟩
theorem succ {f : Nat → Option α} {r : α} (h : Ev (fun k => f (k + 1)) r) : Ev f r := by
 obtain ⟨K, hK⟩ := h
 refine ⟨K + 1, fun k hk => ?_⟩
 have h : f (k - 1 + 1) = some r := hK (k - 1) (by omega)
 rwa [show k - 1 + 1 = k by omega] at h
theorem bind {f : Nat → Option α} {g : Nat → α → Option β} {a : α} {r : β} (hf : Ev f a) (hg : Ev (fun k => g k a) r) : Ev (fun k => (f k).bind (g k)) r := by
 obtain ⟨K, hK⟩ := hf
 obtain ⟨L, hL⟩ := hg
 refine ⟨max K L, fun k hk => ?_⟩
 show (f k).bind (g k) = some r
 rw [hK k (by omega)]
 exact hL k (by omega)
theorem bind1 {f : Option α} {g : Nat → α → Option β} {a : α} {r : β} (hf : f = some a) (hg : Ev (fun k => g k a) r) : Ev (fun k => f.bind (g k)) r := by
 subst hf; exact hg
theorem congr {f g : Nat → Option α} {r : α} (h : Ev g r) (e : ∀ k, f k = g k) : Ev f r := by
 obtain ⟨K, hK⟩ := h
 exact ⟨K, fun k hk => (e k).trans (hK k hk)⟩
theorem ex {f : Nat → Option α} {r : α} (h : Ev f r) : ∃ k, f k = some r := by
 obtain ⟨K, hK⟩ := h
 exact ⟨K, hK K (Nat.le_refl _)⟩
theorem const {f : Option α} {r : α} (h : f = some r) : Ev (fun _ => f) r := ⟨0, fun _ _ => h⟩
theorem uniq {f : Nat → Option α} {r s : α} (h : Ev f r) (h' : Ev f s) : r = s := by
 obtain ⟨K, hK⟩ := h
 obtain ⟨L, hL⟩ := h'
 have a := hK (max K L) (by omega)
 have b := hL (max K L) (by omega)
 rw [a] at b
 exact Option.some.inj b
end Ev
theorem w64 {n : Int} (h0 : -9223372036854775808 ≤ n) (h1 : n < 9223372036854775808) : wrap64 n = n := by unfold wrap64; omega
theorem u64 {n : Int} (h0 : 0 ≤ n) (h1 : n < 18446744073709551616) : IntKind.u64.wrap n = n := by rw [IntKind.wrap_u64]; omega
theorem u64m (n : Int) : IntKind.u64.wrap n = n % 18446744073709551616 := IntKind.wrap_u64 n
def V (B : Int) : List Int → Int
 | [] => 0
 | a :: l => a + B * V B l
def Dig (B : Int) (l : List Int) : Prop := ∀ a ∈ l, 0 ≤ a ∧ a < B
def Num (B : Int) (l : List Int) (n : Int) : Prop := Dig B l ∧ V B l = n
def Top (l : List Int) : Prop := ∀ h : l ≠ [], l.getLast h ≠ 0
def Can (B : Int) (l : List Int) (n : Int) : Prop := Num B l n ∧ Top l
theorem V_append (B : Int) (p q : List Int) : V B (p ++ q) = V B p + B ^ p.length * V B q := by
 induction p with
 | nil => simp [V]
 | cons a p ih => simp only [List.cons_append, V, ih, List.length_cons, Int.pow_succ]; grind
theorem V_snoc (B : Int) (p : List Int) (d : Int) : V B (p ++ [d]) = V B p + B ^ p.length * d := by
 rw [V_append]; simp [V]
theorem V_zeros (B : Int) (n : Nat) : V B (List.replicate n 0) = 0 := by
 induction n with
 | zero => rfl
 | succ n ih => simp [List.replicate_succ, V, ih]
theorem V_nonneg {B : Int} (hB : 0 < B) {l : List Int} (h : Dig B l) : 0 ≤ V B l := by
 induction l with
 | nil => simp [V]
 | cons a l ih =>
  have h1 := h a (by simp)
  have h2 := ih (fun x hx => h x (by simp [hx]))
  have := Int.mul_nonneg (Int.le_of_lt hB) h2
  simp only [V]; omega
theorem V_lt {B : Int} (hB : 0 < B) {l : List Int} (h : Dig B l) : V B l < B ^ l.length := by
 induction l with
 | nil => simp [V]
 | cons a l ih =>
  have h1 := h a (by simp)
  have h2 := ih (fun x hx => h x (by simp [hx]))
  have := Int.mul_le_mul_of_nonneg_left (show V B l + 1 ≤ B ^ l.length by omega) (Int.le_of_lt hB)
  simp only [V, List.length_cons, Int.pow_succ]
  grind
theorem Dig_append {B : Int} {p q : List Int} (hp : Dig B p) (hq : Dig B q) : Dig B (p ++ q) := by
 intro a ha
 rcases List.mem_append.1 ha with h | h
 ·exact hp a h
 ·exact hq a h
theorem Dig_one {B d : Int} (h0 : 0 ≤ d) (h1 : d < B) : Dig B [d] := by
 intro a ha; simp only [List.mem_singleton] at ha; subst ha; exact ⟨h0, h1⟩
theorem Dig_snoc {B d : Int} {p : List Int} (hp : Dig B p) (h0 : 0 ≤ d) (h1 : d < B) : Dig B (p ++ [d]) := Dig_append hp (Dig_one h0 h1)
theorem Dig_nil (B : Int) : Dig B [] := by intro a ha; simp at ha
theorem Dig_zeros {B : Int} (hB : 0 < B) (n : Nat) : Dig B (List.replicate n 0) := by
 intro a ha; have := List.eq_of_mem_replicate ha; subst this; exact ⟨by omega, hB⟩
theorem Dig_take {B : Int} {l : List Int} (h : Dig B l) (i : Nat) : Dig B (l.take i) := fun a ha => h a (List.mem_of_mem_take ha)
theorem Dig_drop {B : Int} {l : List Int} (h : Dig B l) (i : Nat) : Dig B (l.drop i) := fun a ha => h a (List.mem_of_mem_drop ha)
theorem Dig_tail {B a : Int} {l : List Int} (h : Dig B (a :: l)) : Dig B l := fun x hx => h x (by simp [hx])
theorem pow_pos' {B : Int} (hB : 0 < B) (n : Nat) : 0 < B ^ n := by
 induction n with
 | zero => simp
 | succ n ih => rw [Int.pow_succ]; exact Int.mul_pos ih hB
theorem pow_le' {B : Int} (hB : 1 ≤ B) {m n : Nat} (h : m ≤ n) : B ^ m ≤ B ^ n := by
 induction n with
 | zero => rw [show m = 0 by omega]; simp
 | succ n ih =>
  rcases Nat.lt_or_ge m (n + 1) with hlt | hge
  ·have h1 := ih (by omega)
   have h2 := pow_pos' (show 0 < B by omega) n
   have h3 := Int.mul_le_mul_of_nonneg_left hB (Int.le_of_lt h2)
   rw [Int.pow_succ]; omega
  ·rw [show m = n + 1 by omega]; exact Int.le_refl _
theorem pow_mono {a b : Int} (ha : 0 ≤ a) (h : a ≤ b) (n : Nat) : a ^ n ≤ b ^ n := by
 induction n with
 | zero => simp
 | succ n ih =>
  rw [Int.pow_succ, Int.pow_succ]
  exact Int.mul_le_mul ih h ha (Int.pow_nonneg (by omega))
theorem rd_nat (l : List Int) {i : Nat} (h : i < l.length) : rd l (i : Int) = l[i] := by
 unfold rd; simp [List.getD_eq_getElem?_getD, h]
theorem rd_int (l : List Int) {i : Int} (h0 : 0 ≤ i) (h : i < l.length) : rd l i = l[i.toNat]'(by omega) := by
 unfold rd; simp [List.getD_eq_getElem?_getD, show i.toNat < l.length by omega]
theorem rd_dig {B : Int} {l : List Int} (hl : Dig B l) {i : Int} (h0 : 0 ≤ i) (h : i < l.length) : 0 ≤ rd l i ∧ rd l i < B := by
 rw [rd_int l h0 h]; exact hl _ (List.getElem_mem _)
theorem take_rd (l : List Int) {i : Nat} (h : i < l.length) : l.take (i + 1) = l.take i ++ [rd l (i : Int)] := by
 rw [rd_nat l h, List.take_append_getElem h]
theorem V_take (B : Int) (l : List Int) {i : Nat} (h : i < l.length) : V B (l.take (i + 1)) = V B (l.take i) + B ^ i * rd l (i : Int) := by
 rw [take_rd l h, V_snoc, List.length_take, Nat.min_eq_left (by omega)]
theorem set_pad (p : List Int) (d : Int) (j : Nat) : (p ++ List.replicate (j + 1) 0).set p.length d = (p ++ [d]) ++ List.replicate j 0 := by
 rw [List.set_append_right _ _ (Nat.le_refl _)]; simp [List.replicate_succ]
theorem getLast_rd (l : List Int) (h : l ≠ []) : l.getLast h = rd l ((l.length : Int) - 1) := by
 have : 0 < l.length := List.length_pos_iff.2 h
 rw [rd_int l (by omega) (by omega), List.getLast_eq_getElem]
 congr 1; omega
theorem Can_unique {B : Int} (hB : 1 < B) : ∀ {l m : List Int} {n : Int}, Can B l n → Can B m n → l = m
 | [], [], _, _, _ => rfl
 | [], b :: m, n, h, h' => by
  exfalso
  have e : V B (b :: m) = 0 := by rw [h'.1.2, ← h.1.2]; rfl
  have hd := h'.1.1
  have b0 := hd b (by simp)
  have v0 := V_nonneg (by omega : 0 < B) (Dig_tail hd)
  have p0 := Int.mul_nonneg (show 0 ≤ B by omega) v0
  simp only [V] at e
  have hb : b = 0 := by omega
  have hv : B * V B m = 0 := by omega
  have hv' : V B m = 0 := by rcases Int.mul_eq_zero.1 hv with h | h <;> omega
  cases m with
  | nil => exact h'.2 (by simp) (by simpa using hb)
  | cons c m =>
   have : Can B (c :: m) 0 := ⟨⟨Dig_tail hd, hv'⟩, fun hne => by have := h'.2 (by simp); simpa using this⟩
   exact absurd (Can_unique hB (l := []) (m := c :: m) ⟨⟨Dig_nil B, rfl⟩, fun h => absurd rfl h⟩ this) (by simp)
 | a :: l, [], n, h, h' => by
  exfalso
  have e : V B (a :: l) = 0 := by rw [h.1.2, ← h'.1.2]; rfl
  have hd := h.1.1
  have b0 := hd a (by simp)
  have v0 := V_nonneg (by omega : 0 < B) (Dig_tail hd)
  have p0 := Int.mul_nonneg (show 0 ≤ B by omega) v0
  simp only [V] at e
  have hb : a = 0 := by omega
  have hv : B * V B l = 0 := by omega
  have hv' : V B l = 0 := by rcases Int.mul_eq_zero.1 hv with h | h <;> omega
  cases l with
  | nil => exact h.2 (by simp) (by simpa using hb)
  | cons c m =>
   have : Can B (c :: m) 0 := ⟨⟨Dig_tail hd, hv'⟩, fun hne => by have := h.2 (by simp); simpa using this⟩
   exact absurd (Can_unique hB (l := c :: m) (m := []) this ⟨⟨Dig_nil B, rfl⟩, fun h => absurd rfl h⟩) (by simp)
 | a :: l, b :: m, n, h, h' => by
  have e : a + B * V B l = b + B * V B m := by
   have h1 := h.1.2; have h2 := h'.1.2; simp only [V] at h1 h2; omega
  have a0 := h.1.1 a (by simp)
  have b0 := h'.1.1 b (by simp)
  have hab : a = b := by
   have h1 : (a + B * V B l) % B = a := by rw [Int.add_mul_emod_self_left]; exact Int.emod_eq_of_lt a0.1 a0.2
   have h2 : (b + B * V B m) % B = b := by rw [Int.add_mul_emod_self_left]; exact Int.emod_eq_of_lt b0.1 b0.2
   rw [← h1, e, h2]
  have hv : V B l = V B m := by
   have : B * V B l = B * V B m := by omega
   exact Int.eq_of_mul_eq_mul_left (by omega) this
  have tl : Top l := fun hne => by have := h.2 (by simp); rwa [List.getLast_cons hne] at this
  have tm : Top m := fun hne => by have := h'.2 (by simp); rwa [List.getLast_cons hne] at this
  rw [hab, Can_unique hB (l := l) (m := m) (n := V B l) ⟨⟨Dig_tail h.1.1, rfl⟩, tl⟩ ⟨⟨Dig_tail h'.1.1, hv.symm⟩, tm⟩]
 termination_by l m => l.length + m.length
theorem Can_nil (B : Int) : Can B [] 0 := ⟨⟨Dig_nil B, rfl⟩, fun h => absurd rfl h⟩
theorem Can_zero {B : Int} (hB : 1 < B) {l : List Int} (h : Can B l 0) : l = [] := Can_unique hB h (Can_nil B)
theorem Can_low {B : Int} (hB : 1 < B) {l : List Int} {n : Int} (h : Can B l n) (hne : l ≠ []) : B ^ (l.length - 1) ≤ n := by
 have hl : 0 < l.length := List.length_pos_iff.2 hne
 have e : l = l.take (l.length - 1) ++ [l.getLast hne] := by
  rw [List.getLast_eq_getElem]
  conv => lhs; rw [← List.take_length (l := l), show l.length = l.length - 1 + 1 by omega, List.take_add_one]
  simp [show l.length - 1 < l.length by omega]
 have hv := h.1.2
 rw [e, V_snoc, List.length_take, Nat.min_eq_left (by omega)] at hv
 have v0 := V_nonneg (by omega : 0 < B) (Dig_take h.1.1 (l.length - 1))
 have t0 := h.2 hne
 have d0 := h.1.1 (l.getLast hne) (List.getLast_mem hne)
 have := Int.mul_le_mul_of_nonneg_left (show (1 : Int) ≤ l.getLast hne by omega) (Int.le_of_lt (pow_pos' (by omega : 0 < B) (l.length - 1)))
 omega
theorem Can_len {B : Int} (hB : 1 < B) {l : List Int} {n : Int} (h : Can B l n) {c : Nat} (hn : n < B ^ c) : l.length ≤ c := by
 rcases Nat.lt_or_ge c l.length with hlt | hge
 ·exfalso
  have hne : l ≠ [] := by intro h0; subst h0; simp at hlt
  have h1 := Can_low hB h hne
  have h2 := pow_le' (show 1 ≤ B by omega) (show c ≤ l.length - 1 by omega)
  omega
 ·exact hge
theorem Can_pos {B : Int} (hB : 1 < B) {l : List Int} {n : Int} (h : Can B l n) (hne : l ≠ []) : 0 < n := by
 have h1 := Can_low hB h hne
 have h2 := pow_pos' (show 0 < B by omega) (l.length - 1)
 omega
theorem Can_nonneg {B : Int} (hB : 0 < B) {l : List Int} {n : Int} (h : Can B l n) : 0 ≤ n := by
 have := V_nonneg hB h.1.1; rw [h.1.2] at this; exact this
theorem Can_digit {B d : Int} (h0 : 0 < d) (h1 : d < B) : Can B [d] d :=
 ⟨⟨Dig_one (by omega) h1, by simp [V]⟩, fun _ => by simp; omega⟩
theorem V_take_zero (B : Int) (l : List Int) {i : Nat} (h : i < l.length) (h0 : rd l (i : Int) = 0) : V B (l.take i) = V B (l.take (i + 1)) := by
 rw [V_take B l h, h0]; simp
theorem Top_take {l : List Int} {i : Nat} (h : i < l.length) (h0 : rd l (i : Int) ≠ 0) : Top (l.take (i + 1)) := by
 intro hne
 simp only [take_rd l h, List.getLast_append, List.getLast_singleton]
 simpa using h0
theorem bt_range (s : ByteArray) (i : Int) : 0 ≤ bt s i ∧ bt s i < 256 := by
 unfold bt; split
 ·rename_i h
  have := (s[i.toNat]'h).toNat_lt
  omega
 ·omega
end Go.Proofs.Ytokmpejgfkfmbaa.BM
end
section
namespace Go.Proofs.Ytokmpejgfkfmbaa.BM
open Go.RowKit Go.Proofs.YtokmpejgfkfmbaaW.PrintWords Go.Proofs.YtokmpejgfkfmbaaW.PrintLast Go.Proofs.YtokmpejgfkfmbaaW.PrintMore
open Go.Proofs.Ytokmpejgfkfmbaa.BB
theorem nattrim_l0 (B : Int) : ∀ (m : Nat) {l : List Int} {n : Int}, m ≤ l.length → l.length < 1099511627776 → Num B (l.take m) n →
  ∃ r, Ev (fun k => r00NatTrim.l0 k l m) r ∧ Can B r n ∧ r.length ≤ m
 | 0, l, n, hm, hb, hn => by
  have hv : n = 0 := by rw [← hn.2]; simp [V]
  subst hv
  refine ⟨[], Ev.succ (Ev.congr (Ev.pure _) fun k => ?_), Can_nil B, by simp⟩
  rw [r00NatTrim.l0, if_neg (by omega), if_pos (by omega), if_pos (by omega)]
  simp
 | m + 1, l, n, hm, hb, hn => by
  have e : wrap64 (((m + 1 : Nat) : Int) - 1) = ((m : Nat) : Int) := by rw [w64 (by omega) (by omega)]; omega
  have c0 : ((m + 1 : Nat) : Int) > 0 := by clear e; omega
  have c1 : ((m : Nat) : Int) < (l.length : Int) := by clear e; omega
  by_cases h0 : rd l ((m : Nat) : Int) = 0
  ·obtain ⟨r, he, hc, hl⟩ := nattrim_l0 B m (l := l) (n := n) (by clear e; omega) (by clear e; omega)
    ⟨Dig_take (by have := Dig_take hn.1 m; rwa [List.take_take, Nat.min_eq_left (by clear e; omega)] at this) m |> fun h => by rwa [List.take_take, Nat.min_self] at h, by rw [V_take_zero B l (by clear e; omega) h0]; exact hn.2⟩
   refine ⟨r, Ev.succ (Ev.congr he fun k => ?_), hc, by clear e; omega⟩
   rw [r00NatTrim.l0, e, if_pos c0, if_pos (Int.natCast_nonneg _), if_pos c1, if_pos h0]
  ·refine ⟨l.take (m + 1), Ev.succ (Ev.congr (Ev.pure _) fun k => ?_), ⟨hn, Top_take (by clear e; omega) h0⟩, by rw [List.length_take]; clear e; omega⟩
   have c2 : ((m + 1 : Nat) : Int) ≤ (l.length : Int) := by clear e; omega
   have c3 : ([] : List Int).length + (l.take (m + 1)).length < 17592186044416 := by rw [List.length_take, List.length_nil]; clear e; omega
   rw [r00NatTrim.l0, e, if_pos c0, if_pos (Int.natCast_nonneg _), if_pos c1, if_neg h0, if_pos (Int.natCast_nonneg _), if_pos c2, Int.toNat_natCast, if_pos c3]
   simp
theorem low_l0 (B : Int) : ∀ (m : Nat) {l : List Int} {n : Int}, m ≤ l.length → l.length < 1099511627776 → Num B (l.take m) n →
  ∃ r, Ev (fun k => r00low.l0 k l m) r ∧ Can B r n ∧ r.length ≤ m
 | 0, l, n, hm, hb, hn => by
  have hv : n = 0 := by rw [← hn.2]; simp [V]
  subst hv
  refine ⟨[], Ev.succ (Ev.congr (Ev.pure _) fun k => ?_), Can_nil B, by simp⟩
  rw [r00low.l0, if_neg (by omega), if_pos (by omega), if_pos (by omega)]
  simp
 | m + 1, l, n, hm, hb, hn => by
  have e : wrap64 (((m + 1 : Nat) : Int) - 1) = ((m : Nat) : Int) := by rw [w64 (by omega) (by omega)]; omega
  have c0 : ((m + 1 : Nat) : Int) > 0 := by clear e; omega
  have c1 : ((m : Nat) : Int) < (l.length : Int) := by clear e; omega
  by_cases h0 : rd l ((m : Nat) : Int) = 0
  ·obtain ⟨r, he, hc, hl⟩ := low_l0 B m (l := l) (n := n) (by clear e; omega) (by clear e; omega)
    ⟨Dig_take (by have := Dig_take hn.1 m; rwa [List.take_take, Nat.min_eq_left (by clear e; omega)] at this) m |> fun h => by rwa [List.take_take, Nat.min_self] at h, by rw [V_take_zero B l (by clear e; omega) h0]; exact hn.2⟩
   refine ⟨r, Ev.succ (Ev.congr he fun k => ?_), hc, by clear e; omega⟩
   rw [r00low.l0, e, if_pos c0, if_pos (Int.natCast_nonneg _), if_pos c1, if_pos h0]
  ·refine ⟨l.take (m + 1), Ev.succ (Ev.congr (Ev.pure _) fun k => ?_), ⟨hn, Top_take (by clear e; omega) h0⟩, by rw [List.length_take]; clear e; omega⟩
   have c2 : ((m + 1 : Nat) : Int) ≤ (l.length : Int) := by clear e; omega
   rw [r00low.l0, e, if_pos c0, if_pos (Int.natCast_nonneg _), if_pos c1, if_neg h0, if_pos (Int.natCast_nonneg _), if_pos c2, Int.toNat_natCast]
theorem nattrim_ev (B : Int) {l : List Int} {n : Int} (hb : l.length < 1099511627776) (hn : Num B l n) : ∃ r, Ev (fun k => r00NatTrim.f k l) r ∧ Can B r n ∧ r.length ≤ l.length :=
 nattrim_l0 B l.length (Nat.le_refl _) hb (by rw [List.take_length]; exact hn)
theorem low_ev (B : Int) {l : List Int} {n : Int} (hb : l.length < 1099511627776) (hn : Num B l n) : ∃ r, Ev (fun k => r00low.f k l) r ∧ Can B r n ∧ r.length ≤ l.length :=
 low_l0 B l.length (Nat.le_refl _) hb (by rw [List.take_length]; exact hn)
theorem nattrim_can {B : Int} (hB : 1 < B) {l : List Int} {n : Int} (h : Can B l n) (hb : l.length < 1099511627776) : Ev (fun k => r00NatTrim.f k l) l := by
 obtain ⟨r, he, hc, _⟩ := nattrim_ev B hb h.1
 rwa [Can_unique hB hc h] at he
theorem natof_ev {a : Int} (h0 : 0 ≤ a) (h1 : a < 18446744073709551616) : ∃ r, Ev (fun k => r00NatOf.f k a) r ∧ Can 18446744073709551616 r a ∧ r.length ≤ 1 := by
 obtain ⟨r, he, hc, hl⟩ := nattrim_ev 18446744073709551616 (l := [a]) (n := a) (by simp) ⟨Dig_one h0 h1, by simp [V]⟩
 exact ⟨r, Ev.bind (g := fun _ t => some t) he (Ev.pure _), hc, hl⟩
theorem whole_ev {a : Int} (h0 : 0 ≤ a) (h1 : a < 9223372036854775808) : ∃ r, Ev (fun k => r00Whole.f k a) (false, r, 0) ∧ Can 18446744073709551616 r a ∧ r.length ≤ 1 := by
 obtain ⟨r, he, hc, hl⟩ := natof_ev h0 (show a < 18446744073709551616 by omega)
 refine ⟨r, Ev.congr (Ev.bind (g := fun _ t => some (false, t, 0)) he (Ev.pure _)) fun k => ?_, hc, hl⟩
 unfold r00Whole.f
 rw [if_neg (by omega), u64 h0 (by omega)]
theorem whole_neg {a : Int} (h0 : a < 0) (h1 : -9223372036854775808 ≤ a) : ∃ r, Ev (fun k => r00Whole.f k a) (true, r, 0) ∧ Can 18446744073709551616 r (-a) ∧ r.length ≤ 1 := by
 obtain ⟨r, he, hc, hl⟩ := natof_ev (a := -a) (by omega) (show -a < 18446744073709551616 by omega)
 refine ⟨r, Ev.congr (Ev.bind (g := fun _ t => some (true, t, 0)) he (Ev.pure _)) fun k => ?_, hc, hl⟩
 unfold r00Whole.f
 rw [if_pos (by omega), show IntKind.u64.wrap (-(IntKind.u64.wrap a)) = -a by rw [u64m, u64m]; omega]
theorem bits_loop : ∀ (m : Nat) (c x : Int), 0 ≤ x → x < 2 ^ m → m ≤ 64 → 0 ≤ c → c + m < 1099511627776 → Ev (fun k => r00NatBits.l0 k c x) (c + bitLen x.toNat)
 | 0, c, x, h0, h1, hm, hc0, hc => by
  have : x = 0 := by simp at h1; omega
  subst this
  refine Ev.succ (Ev.congr (Ev.pure _) fun k => ?_)
  rw [r00NatBits.l0, if_neg (by omega)]
  simp [bitLen]
 | m + 1, c, x, h0, h1, hm, hc0, hc => by
  by_cases hx : x = 0
  ·subst hx
   refine Ev.succ (Ev.congr (Ev.pure _) fun k => ?_)
   rw [r00NatBits.l0, if_neg (by omega)]
   simp [bitLen]
  ·have h64 : (2 : Int) ^ (m + 1) ≤ 18446744073709551616 := pow_le' (B := 2) (by omega) hm
   have hlt : x / 2 < 2 ^ m := by rw [Int.pow_succ] at h1; omega
   have hb : bitLen x.toNat = bitLen (x / 2).toNat + 1 := by
    have e2 : (x / 2).toNat = x.toNat / 2 ^ 1 := by omega
    by_cases h2 : x.toNat / 2 ^ 1 = 0
    ·have : x = 1 := by omega
     subst this
     decide
    ·rw [e2, bitLen_shift x.toNat 1 h2]; omega
   have h := bits_loop m (c + 1) (x / 2) (by omega) hlt (by omega) (by omega) (by omega)
   refine Ev.succ (Ev.congr (r := c + bitLen x.toNat) (g := fun k => r00NatBits.l0 k (c + 1) (x / 2)) (by rwa [show c + 1 + (bitLen (x / 2).toNat : Int) = c + (bitLen x.toNat : Int) by rw [hb]; omega] at h) fun k => ?_)
   rw [r00NatBits.l0, if_pos (by omega), w64 (by omega) (by omega), Int.tdiv_eq_ediv_of_nonneg h0, u64 (by omega) (by omega)]
end Go.Proofs.Ytokmpejgfkfmbaa.BM
end
section
namespace Go.Proofs.Ytokmpejgfkfmbaa.BM
open Go.RowKit Go.Proofs.YtokmpejgfkfmbaaW.PrintWords Go.Proofs.YtokmpejgfkfmbaaW.PrintLast Go.Proofs.YtokmpejgfkfmbaaW.PrintMore
open Go.Proofs.Ytokmpejgfkfmbaa.BB
def bitsOf (l : List Int) : Int := if l = [] then 0 else 64 * ((l.length : Int) - 1) + bitLen (rd l ((l.length : Int) - 1)).toNat
theorem natbits_ev {l : List Int} {n : Int} (h : Can 18446744073709551616 l n) (hb : l.length < 1073741824) : Ev (fun k => r00NatBits.f k l) (bitsOf l) := by
 refine Ev.bind (g := fun k (t134 : List Int) => if (t134.length : Int) = 0 then some 0 else (if 0 ≤ (wrap64 ((t134.length : Int) - 1)) then (if (wrap64 ((t134.length : Int) - 1)) < (t134.length : Int) then r00NatBits.l0 k (wrap64 (64 * (wrap64 ((t134.length : Int) - 1)))) (rd t134 (wrap64 ((t134.length : Int) - 1))) else none) else none)) (nattrim_can (by omega) h (by omega)) ?_
 by_cases hl : l = []
 ·subst hl; exact Ev.const (by simp [bitsOf])
 ·have h0 : 0 < l.length := List.length_pos_iff.2 hl
  have hr := rd_dig h.1.1 (i := (l.length : Int) - 1) (by omega) (by omega)
  have hlp := bits_loop 64 (64 * ((l.length : Int) - 1)) _ hr.1 hr.2 (by omega) (by omega) (by omega)
  refine Ev.congr (r := bitsOf l) (by unfold bitsOf; rw [if_neg hl]; exact hlp) fun k => ?_
  have c1 : ¬ (l.length : Int) = 0 := by omega
  have c2 : 0 ≤ (l.length : Int) - 1 := by omega
  have c3 : (l.length : Int) - 1 < (l.length : Int) := by omega
  rw [if_neg c1, w64 (n := (l.length : Int) - 1) (by omega) (by omega), if_pos c2, if_pos c3, w64 (by omega) (by omega)]
theorem bitsOf_zero {l : List Int} {n : Int} (h : Can 18446744073709551616 l n) : (bitsOf l == 0) = decide (l = []) := by
 unfold bitsOf
 by_cases hl : l = []
 ·simp [hl]
 ·have h0 : 0 < l.length := List.length_pos_iff.2 hl
  have hr := rd_dig h.1.1 (i := (l.length : Int) - 1) (by omega) (by omega)
  have ht := h.2 hl
  rw [getLast_rd] at ht
  have : bitLen (rd l ((l.length : Int) - 1)).toNat ≠ 0 := by unfold bitLen; rw [if_neg (by omega)]; omega
  rw [if_neg hl, decide_eq_false hl]
  exact beq_false_of_ne (by omega)
theorem bitsOf_le {l : List Int} {n : Int} (h : Can 18446744073709551616 l n) : 0 ≤ bitsOf l ∧ bitsOf l ≤ 64 * (l.length : Int) := by
 unfold bitsOf
 by_cases hl : l = []
 ·simp [hl]
 ·have h0 : 0 < l.length := List.length_pos_iff.2 hl
  have hr := rd_dig h.1.1 (i := (l.length : Int) - 1) (by omega) (by omega)
  have : bitLen (rd l ((l.length : Int) - 1)).toNat ≤ 64 := by
   unfold bitLen
   split
   ·omega
   ·rename_i hx
    have := (Nat.log2_lt hx).2 (show (rd l ((l.length : Int) - 1)).toNat < 2 ^ 64 by omega)
    omega
  rw [if_neg hl]; omega
theorem halves_step (k : Nat) (l p : List Int) (i : Nat) (hi : i < l.length) (hl : l.length < 1099511627776) (hp : p.length = 2 * i) :
  r00halves.l0 (k + 1) l p i = r00halves.l0 k l (p ++ [rd l i % 4294967296, rd l i / 4294967296]) ((i + 1 : Nat) : Int) ∨ ¬ (0 ≤ rd l i ∧ rd l i < 18446744073709551616) := by
 by_cases hr : 0 ≤ rd l i ∧ rd l i < 18446744073709551616
 ·left
  have e1 : Int.tmod (rd l i) 4294967296 = rd l i % 4294967296 := Int.tmod_eq_emod_of_nonneg hr.1
  have e2 : IntKind.u64.wrap (Int.tdiv (rd l i) 4294967296) = rd l i / 4294967296 := by rw [Int.tdiv_eq_ediv_of_nonneg hr.1]; exact u64 (by omega) (by omega)
  have e3 : wrap64 ((i : Int) + 1) = ((i + 1 : Nat) : Int) := by rw [w64 (by omega) (by omega)]; omega
  have c1 : p.length + [rd l i % 4294967296, rd l i / 4294967296].length < 17592186044416 := by simp; clear e1 e2 e3; omega
  rw [r00halves.l0, if_pos (Int.ofNat_lt.2 hi), if_pos (Int.natCast_nonneg _), e1, e2, e3]
  simp only [Option.bind_some]
  rw [if_pos c1]
 ·exact .inr hr
theorem pow_two_i (i : Nat) : (4294967296 : Int) ^ (2 * i) = 18446744073709551616 ^ i := by rw [Int.pow_mul]; rfl
theorem halves_loop {l : List Int} (hd : Dig 18446744073709551616 l) (hl : l.length < 1073741824) : ∀ (m i : Nat) (p : List Int), i + m = l.length → p.length = 2 * i → Dig 4294967296 p → V 4294967296 p = V 18446744073709551616 (l.take i) →
  ∃ r, Ev (fun k => r00halves.l0 k l p i) r ∧ Can 4294967296 r (V 18446744073709551616 l) ∧ r.length ≤ 2 * l.length := by
 intro m
 induction m with
 | zero =>
  intro i p hi hp hdp hv
  rw [List.take_of_length_le (by omega)] at hv
  obtain ⟨r, he, hc, hlen⟩ := low_ev 4294967296 (l := p) (n := V 18446744073709551616 l) (by omega) ⟨hdp, hv⟩
  refine ⟨r, Ev.succ (Ev.congr (Ev.bind (g := fun _ t => some t) he (Ev.pure _)) fun k => ?_), hc, by omega⟩
  rw [r00halves.l0, if_neg (by omega)]
 | succ m ih =>
  intro i p hi hp hdp hv
  have hr := rd_dig hd (i := (i : Int)) (by omega) (by omega)
  obtain ⟨r, he, hc, hlen⟩ := ih (i + 1) (p ++ [rd l i % 4294967296, rd l i / 4294967296]) (by omega) (by simp; omega)
   (Dig_append hdp (by intro a ha; simp at ha; rcases ha with rfl | rfl <;> omega))
   (by rw [V_append, hv, V_take _ _ (by omega), hp, pow_two_i]; simp only [V]; congr 2; omega)
  refine ⟨r, Ev.succ (Ev.congr he fun k => ?_), hc, hlen⟩
  rcases halves_step k l p i (by omega) (by omega) hp with h | h
  ·exact h
  ·exact absurd hr h
theorem halves_ev {l : List Int} {n : Int} (h : Num 18446744073709551616 l n) (hl : l.length < 1073741824) : ∃ r, Ev (fun k => r00halves.f k l) r ∧ Can 4294967296 r n ∧ r.length ≤ 2 * l.length := by
 obtain ⟨r, he, hc, hlen⟩ := halves_loop h.1 hl l.length 0 [] (by omega) rfl (Dig_nil _) (by simp [V])
 rw [h.2] at hc
 exact ⟨r, he, hc, hlen⟩
theorem limbs_step2 (k : Nat) (l p : List Int) (i : Nat) (d : Int) (hi : 2 * i < l.length) (hl : l.length < 1099511627776) (hp : p.length = i)
  (hd : (2 * i + 1 < l.length ∧ IntKind.u64.wrap (rd l ((2 * i : Nat) : Int) + IntKind.u64.wrap (4294967296 * rd l ((2 * i + 1 : Nat) : Int))) = d) ∨ (¬ 2 * i + 1 < l.length ∧ rd l ((2 * i : Nat) : Int) = d)) :
  r00limbs.l0 (k + 1) l p ((2 * i : Nat) : Int) = r00limbs.l0 k l (p ++ [d]) ((2 * (i + 1) : Nat) : Int) := by
 have e1 : wrap64 (((2 * i : Nat) : Int) + 1) = ((2 * i + 1 : Nat) : Int) := by rw [w64 (by omega) (by omega)]; omega
 have e2 : wrap64 (((2 * i : Nat) : Int) + 2) = ((2 * (i + 1) : Nat) : Int) := by rw [w64 (by omega) (by omega)]; omega
 have c1 : p.length < 17592186044416 := by clear e1 e2; omega
 rw [r00limbs.l0, if_pos (Int.ofNat_lt.2 hi), if_pos (Int.natCast_nonneg _), e1, e2]
 rcases hd with ⟨h1, h2⟩ | ⟨h1, h2⟩
 ·rw [if_pos (Int.ofNat_lt.2 h1), if_pos (Int.natCast_nonneg _), if_pos c1, h2]
 ·rw [if_neg (fun h => h1 (Int.ofNat_lt.1 h)), if_pos c1, h2]
theorem limbs2_loop {l : List Int} (hd : Dig 4294967296 l) (hl : l.length < 1073741824) : ∀ (m i : Nat) (p : List Int), l.length - 2 * i ≤ m → p.length = i → Dig 18446744073709551616 p → V 18446744073709551616 p = V 4294967296 (l.take (2 * i)) →
  i ≤ l.length → ∃ r, Ev (fun k => r00limbs.l0 k l p ((2 * i : Nat) : Int)) r ∧ Can 18446744073709551616 r (V 4294967296 l) ∧ r.length ≤ l.length := by
 intro m
 induction m with
 | zero =>
  intro i p hi hp hdp hv hil
  rw [List.take_of_length_le (by omega)] at hv
  obtain ⟨r, he, hc, hlen⟩ := nattrim_ev 18446744073709551616 (l := p) (n := V 4294967296 l) (by omega) ⟨hdp, hv⟩
  refine ⟨r, Ev.succ (Ev.congr (Ev.bind (g := fun _ t => some t) he (Ev.pure _)) fun k => ?_), hc, by omega⟩
  rw [r00limbs.l0, if_neg (by omega)]
 | succ m ih =>
  intro i p hi hp hdp hv hil
  by_cases hlt : 2 * i < l.length
  ·have hr := rd_dig hd (i := ((2 * i : Nat) : Int)) (by omega) (by omega)
   by_cases h1 : 2 * i + 1 < l.length
   ·have hr1 := rd_dig hd (i := ((2 * i + 1 : Nat) : Int)) (by omega) (by omega)
    obtain ⟨d, hdd⟩ : ∃ d, d = rd l ((2 * i : Nat) : Int) + 4294967296 * rd l ((2 * i + 1 : Nat) : Int) := ⟨_, rfl⟩
    obtain ⟨r, he, hc, hlen⟩ := ih (i + 1) (p ++ [d]) (by omega) (by simp; omega) (Dig_snoc hdp (by omega) (by omega))
     (by rw [V_snoc, hv, hp, show 2 * (i + 1) = 2 * i + 1 + 1 by omega, V_take _ _ h1, V_take _ _ hlt, Int.pow_succ, pow_two_i, hdd]; grind) (by omega)
    refine ⟨r, Ev.succ (Ev.congr he fun k => ?_), hc, hlen⟩
    exact limbs_step2 k l p i d hlt (by omega) hp (.inl ⟨h1, by rw [u64 (n := 4294967296 * rd l ((2 * i + 1 : Nat) : Int)) (by omega) (by omega), hdd]; exact u64 (by omega) (by omega)⟩)
   ·obtain ⟨r, he, hc, hlen⟩ := ih (i + 1) (p ++ [rd l ((2 * i : Nat) : Int)]) (by omega) (by simp; omega) (Dig_snoc hdp (by omega) (by omega))
     (by
      have e := V_take 4294967296 l hlt
      rw [List.take_of_length_le (i := 2 * i + 1) (by omega), pow_two_i] at e
      rw [V_snoc, hv, hp, List.take_of_length_le (i := 2 * (i + 1)) (by omega), e]) (by omega)
    refine ⟨r, Ev.succ (Ev.congr he fun k => ?_), hc, hlen⟩
    exact limbs_step2 k l p i _ hlt (by omega) hp (.inr ⟨h1, rfl⟩)
  ·exact ih i p (by omega) hp hdp hv hil
theorem limbs2_ev {l : List Int} {n : Int} (h : Num 4294967296 l n) (hl : l.length < 1073741824) : ∃ r, Ev (fun k => r00limbs.f k l) r ∧ Can 18446744073709551616 r n ∧ r.length ≤ l.length := by
 obtain ⟨r, he, hc, hlen⟩ := limbs2_loop h.1 hl l.length 0 [] (by omega) rfl (Dig_nil _) (by simp [V]) (by omega)
 rw [h.2] at hc
 exact ⟨r, he, hc, hlen⟩
theorem natup_loop {h : List Int} (hd : Dig 4294967296 h) (hl : h.length < 1000000000) : ∀ (m i : Nat), i + m = h.length →
  ∃ r, Ev (fun k => r00NatUp.l1 k h (h.take i) 0 1 i) r ∧ Can 18446744073709551616 r (V 4294967296 h) := by
 intro m
 induction m with
 | zero =>
  intro i hi
  obtain ⟨r, he, hc, hlen⟩ := limbs2_ev (l := h ++ [0]) (n := V 4294967296 h) ⟨Dig_snoc hd (by omega) (by omega), by rw [V_snoc]; simp⟩ (by simp; omega)
  refine ⟨r, Ev.succ (Ev.congr (Ev.bind (g := fun _ t => some t) he (Ev.pure _)) fun k => ?_), hc⟩
  rw [r00NatUp.l1, if_neg (by omega), List.take_of_length_le (by omega), if_pos (by omega)]
 | succ m ih =>
  intro i hi
  have hr := rd_dig hd (i := (i : Int)) (by omega) (by omega)
  obtain ⟨r, he, hc⟩ := ih (i + 1) (by omega)
  refine ⟨r, Ev.succ (Ev.congr he fun k => ?_), hc⟩
  have e1 : IntKind.u64.wrap (IntKind.u64.wrap (rd h (i : Int) * 1) + 0) = rd h (i : Int) := by rw [u64 (n := rd h (i : Int) * 1) (by omega) (by omega)]; rw [u64 (by omega) (by omega)]; omega
  have e2 : Int.tmod (rd h (i : Int)) 4294967296 = rd h (i : Int) := by rw [Int.tmod_eq_emod_of_nonneg hr.1]; omega
  have e3 : IntKind.u64.wrap (Int.tdiv (rd h (i : Int)) 4294967296) = 0 := by rw [Int.tdiv_eq_ediv_of_nonneg hr.1, u64m]; omega
  have e4 : wrap64 ((i : Int) + 1) = ((i + 1 : Nat) : Int) := by rw [w64 (by omega) (by omega)]; omega
  have c1 : (h.take i).length < 17592186044416 := by rw [List.length_take]; clear e1 e2 e3 e4; omega
  have c2 : i < h.length := by clear e1 e2 e3 e4; omega
  rw [r00NatUp.l1, if_pos (Int.ofNat_lt.2 c2), if_pos (Int.natCast_nonneg _), if_pos c1, e1, e2, e3, e4, ← take_rd h c2]
theorem natup_ev {l : List Int} {n : Int} (h : Can 18446744073709551616 l n) (hl : l.length < 268435456) : Ev (fun k => r00NatUp.f k l 0) l := by
 obtain ⟨hh, he, hc, hlen⟩ := halves_ev h.1 (by omega)
 refine Ev.bind (g := fun k (t169 : List Int) => (if (t169.length : Int) = 0 then some ([] : List Int) else (if 0 ≤ (wrap64 (Int.tdiv 0 32)) then (if (wrap64 (Int.tdiv 0 32) : Int).toNat ≤ 35184372088832 then r00NatUp.l0 k 0 t169 (List.replicate (wrap64 (Int.tdiv 0 32) : Int).toNat 0) 0 1 0 else none) else none))) he ?_
 by_cases h0 : hh = []
 ·subst h0
  have : n = 0 := by rw [← hc.1.2]; rfl
  subst this
  rw [Can_zero (by omega) h]
  exact Ev.const (by simp)
 ·obtain ⟨r, hr, hcr⟩ := natup_loop hc.1.1 (by omega) hh.length 0 (by omega)
  rw [hc.1.2] at hcr
  rw [Can_unique (by omega) hcr h] at hr
  refine Ev.congr (Ev.succ (f := fun k => r00NatUp.l0 k 0 hh [] 0 1 0) (Ev.congr hr fun k => ?_)) fun k => ?_
  ·show r00NatUp.l0 (k + 1) 0 hh [] 0 1 0 = _
   rw [r00NatUp.l0, if_neg (by decide)]
   rfl
  ·have : ¬ (hh.length : Int) = 0 := by have := List.length_pos_iff.2 h0; omega
   have e : wrap64 (Int.tdiv 0 32) = 0 := by rw [show Int.tdiv 0 32 = 0 from rfl]; exact w64 (by omega) (by omega)
   rw [if_neg this, e, if_pos (Int.le_refl _), if_pos (by decide)]
   rfl
end Go.Proofs.Ytokmpejgfkfmbaa.BM
end
section
namespace Go.Proofs.Ytokmpejgfkfmbaa.BM
open Go.RowKit Go.Proofs.YtokmpejgfkfmbaaW.PrintWords Go.Proofs.YtokmpejgfkfmbaaW.PrintLast Go.Proofs.YtokmpejgfkfmbaaW.PrintMore
open Go.Proofs.Ytokmpejgfkfmbaa.BB
def dg (l : List Int) (i : Nat) : Int := if i < l.length then rd l i else 0
theorem digit_f (l : List Int) (i : Nat) : r00digit.f l i = some (dg l i) := by
 unfold r00digit.f dg
 by_cases h : i < l.length
 ·rw [if_pos (Int.ofNat_lt.2 h), if_pos (Int.natCast_nonneg _), if_pos h]
 ·rw [if_neg (fun h' => h (Int.ofNat_lt.1 h')), if_neg h]
theorem dg_range {B : Int} (hB : 0 < B) {l : List Int} (h : Dig B l) (i : Nat) : 0 ≤ dg l i ∧ dg l i < B := by
 unfold dg
 split
 ·exact rd_dig h (by omega) (by omega)
 ·omega
theorem V_dg (B : Int) (l : List Int) (i : Nat) : V B (l.take (i + 1)) = V B (l.take i) + B ^ i * dg l i := by
 unfold dg
 split
 ·rename_i h; exact V_take B l h
 ·rw [List.take_of_length_le (by omega), List.take_of_length_le (by omega)]; omega
theorem add_alg (B P vp c va vb d c2 x y : Int) (h : vp + P * c = va + vb) (h2 : x + y + c = d + B * c2) : vp + P * d + P * B * c2 = va + P * x + (vb + P * y) := by
 rw [show vp + P * d + P * B * c2 = vp + P * (d + B * c2) by grind, ← h2, show vp + P * (x + y + c) = (vp + P * c) + P * x + P * y by grind, h]; omega
theorem add_step (k : Nat) (a b p : List Int) (c : Int) (i : Nat) (s : Int) (hc : (i : Int) < (a.length : Int) ∨ (i : Int) < (b.length : Int) ∨ c > 0) (hp : p.length < 17592186044416) (hi : i < 1099511627776)
  (hs : IntKind.u64.wrap (IntKind.u64.wrap (dg a i + dg b i) + c) = s) :
  r00NatAdd.l0 (k + 1 + 1) a b p c i = r00NatAdd.l0 k a b (p ++ [Int.tmod s 4294967296]) (IntKind.u64.wrap (Int.tdiv s 4294967296)) ((i + 1 : Nat) : Int) := by
 have e : wrap64 ((i : Int) + 1) = ((i + 1 : Nat) : Int) := by rw [w64 (by omega) (by omega)]; omega
 have hj : r00NatAdd.l0 (k + 1 + 1) a b p c i = r00NatAdd.j1 (k + 1) a b p c i true := by
  rw [r00NatAdd.l0]
  by_cases h1 : (i : Int) < (a.length : Int)
  ·rw [if_pos h1]
  ·rw [if_neg h1]
   by_cases h2 : (i : Int) < (b.length : Int)
   ·rw [if_pos h2]
   ·have h3 : c > 0 := by rcases hc with h | h | h <;> first | exact absurd h h1 | exact absurd h h2 | exact h
    rw [if_neg h2, decide_eq_true h3]
 rw [hj, r00NatAdd.j1, if_pos rfl, digit_f, digit_f]
 simp only [Option.bind_some]
 rw [if_pos hp, hs, e]
theorem add_loop {a b : List Int} (ha : Dig 4294967296 a) (hb : Dig 4294967296 b) (hla : a.length < 100000000) (hlb : b.length < 100000000) : ∀ (m i : Nat) (p : List Int) (c : Int),
  i + m = max a.length b.length + 1 → p.length = i → Dig 4294967296 p → 0 ≤ c → c ≤ 1 → (m = 0 → c = 0) → V 4294967296 p + 4294967296 ^ i * c = V 4294967296 (a.take i) + V 4294967296 (b.take i) →
  ∃ r, Ev (fun k => r00NatAdd.l0 k a b p c i) r ∧ Can 18446744073709551616 r (V 4294967296 a + V 4294967296 b) := by
 have fin : ∀ (i : Nat) (p : List Int) (c : Int), a.length ≤ i → b.length ≤ i → i ≤ max a.length b.length + 1 → p.length = i → Dig 4294967296 p → c = 0 → V 4294967296 p + 4294967296 ^ i * c = V 4294967296 (a.take i) + V 4294967296 (b.take i) →
   ∃ r, Ev (fun k => r00NatAdd.l0 k a b p c i) r ∧ Can 18446744073709551616 r (V 4294967296 a + V 4294967296 b) := by
  intro i p c hai hbi hi hp hd hc hv
  subst hc
  rw [List.take_of_length_le hai, List.take_of_length_le hbi, Int.mul_zero, Int.add_zero] at hv
  obtain ⟨r, he, hcan, hlen⟩ := limbs2_ev (l := p) ⟨hd, hv⟩ (by omega)
  refine ⟨r, Ev.succ (Ev.succ (Ev.congr (Ev.bind (g := fun _ t => some t) he (Ev.pure _)) fun k => ?_)), hcan⟩
  rw [r00NatAdd.l0, if_neg (by omega), if_neg (by omega), r00NatAdd.j1, if_neg (by decide)]
 intro m
 induction m with
 | zero =>
  intro i p c hi hp hd hc0 hc1 hm hv
  exact fin i p c (by omega) (by omega) (by omega) hp hd (hm rfl) hv
 | succ m ih =>
  intro i p c hi hp hd hc0 hc1 hm hv
  by_cases hgo : i < a.length ∨ i < b.length ∨ c > 0
  ·have ra := dg_range (by omega) ha i
   have rb := dg_range (by omega) hb i
   obtain ⟨s, hs⟩ : ∃ s, s = dg a i + dg b i + c := ⟨_, rfl⟩
   have hlast : m = 0 → s / 4294967296 = 0 := by
    intro hm0
    have e1 : dg a i = 0 := by unfold dg; rw [if_neg (by omega)]
    have e2 : dg b i = 0 := by unfold dg; rw [if_neg (by omega)]
    omega
   obtain ⟨r, he, hcan⟩ := ih (i + 1) (p ++ [s % 4294967296]) (s / 4294967296) (by omega) (by simp; omega) (Dig_snoc hd (by omega) (by omega)) (by omega) (by omega) hlast (by
    rw [V_snoc, hp, V_dg, V_dg, Int.pow_succ]
    exact add_alg 4294967296 (4294967296 ^ i) _ c _ _ _ _ _ _ hv (by omega))
   refine ⟨r, Ev.succ (Ev.succ (Ev.congr he fun k => ?_)), hcan⟩
   have hw : IntKind.u64.wrap (IntKind.u64.wrap (dg a i + dg b i) + c) = s := by rw [u64 (n := dg a i + dg b i) (by omega) (by omega), hs]; exact u64 (by omega) (by omega)
   have := add_step k a b p c i s (hgo.elim (fun h => .inl (Int.ofNat_lt.2 h)) (fun h => .inr (h.elim (fun h => .inl (Int.ofNat_lt.2 h)) .inr))) (by clear hw; omega) (by clear hw; omega) hw
   rw [this, Int.tmod_eq_emod_of_nonneg (by clear hw this; omega), Int.tdiv_eq_ediv_of_nonneg (by clear hw this; omega), u64 (by clear hw this; omega) (by clear hw this; omega)]
  ·exact fin i p c (by omega) (by omega) (by omega) hp hd (by omega) hv
theorem natadd_ev {a b : List Int} {x y : Int} (ha : Num 18446744073709551616 a x) (hb : Num 18446744073709551616 b y) (hla : a.length < 10000000) (hlb : b.length < 10000000) :
  ∃ r, Ev (fun k => r00NatAdd.f k a b) r ∧ Can 18446744073709551616 r (x + y) := by
 obtain ⟨p, hp, hcp, hlp⟩ := halves_ev ha (by omega)
 obtain ⟨q, hq, hcq, hlq⟩ := halves_ev hb (by omega)
 obtain ⟨r, hr, hcr⟩ := add_loop hcp.1.1 hcq.1.1 (by omega) (by omega) (max p.length q.length + 1) 0 [] 0 (by omega) rfl (Dig_nil _) (by omega) (by omega) (by omega) (by simp [V])
 rw [hcp.1.2, hcq.1.2] at hcr
 exact ⟨r, Ev.bind (g := fun k t232 => (r00halves.f k b).bind fun t235 => r00NatAdd.l0 k t232 t235 ([] : List Int) 0 0) hp (Ev.bind (g := fun k t235 => r00NatAdd.l0 k p t235 ([] : List Int) 0 0) hq hr), hcr⟩
theorem V_set (B : Int) (d : Int) : ∀ (l : List Int) (i : Nat), i < l.length → V B (l.set i d) = V B l + B ^ i * (d - rd l i)
 | [], i, h => by simp at h
 | a :: l, 0, _ => by
  have : rd (a :: l) ((0 : Nat) : Int) = a := rfl
  rw [this]; simp [V]; omega
 | a :: l, i + 1, h => by
  have hi : i < l.length := by simpa using h
  have : rd (a :: l) ((i + 1 : Nat) : Int) = rd l (i : Int) := by rw [rd_nat _ h, rd_nat _ hi]; rfl
  rw [this, List.set_cons_succ, V, V, V_set B d l i hi, Int.pow_succ]
  grind
theorem rd_set (l : List Int) (i t : Nat) (d : Int) (hi : i < l.length) : rd (l.set i d) (t : Int) = if t = i then d else rd l (t : Int) := by
 unfold rd
 simp only [List.getD_eq_getElem?_getD, Int.toNat_natCast, List.getElem?_set]
 by_cases h : i = t
 ·subst h; simp [hi]
 ·rw [if_neg h, if_neg (fun h' => h h'.symm)]
theorem Dig_set {B d : Int} {l : List Int} (h : Dig B l) (i : Nat) (h0 : 0 ≤ d) (h1 : d < B) : Dig B (l.set i d) := by
 intro a ha
 rcases List.mem_or_eq_of_mem_set ha with h' | h'
 ·exact h a h'
 ·subst h'; exact ⟨h0, h1⟩
theorem prod_step (k : Nat) (a b buf : List Int) (i j : Nat) (c s : Int) (hj : j < b.length) (hi : i < a.length) (hij : i + j < buf.length) (hb : buf.length < 1099511627776)
  (hs : IntKind.u64.wrap (IntKind.u64.wrap (IntKind.u64.wrap (rd a i * rd b j) + rd buf ((i + j : Nat) : Int)) + c) = s) :
  r00product.l1 (k + 1) a b buf i c j = r00product.l1 k a b (buf.set (i + j) (Int.tmod s 4294967296)) i (IntKind.u64.wrap (Int.tdiv s 4294967296)) ((j + 1 : Nat) : Int) := by
 have e1 : wrap64 ((i : Int) + (j : Int)) = ((i + j : Nat) : Int) := by rw [w64 (by omega) (by omega)]; omega
 have e2 : wrap64 ((j : Int) + 1) = ((j + 1 : Nat) : Int) := by rw [w64 (by omega) (by omega)]; omega
 rw [r00product.l1, if_pos (Int.ofNat_lt.2 hj), if_pos (Int.natCast_nonneg _), if_pos (Int.ofNat_lt.2 hi), if_pos (Int.natCast_nonneg _), e1, if_pos (Int.natCast_nonneg _), if_pos (Int.ofNat_lt.2 hij), hs, e2, Int.toNat_natCast]
theorem prod_end (k : Nat) (a b buf : List Int) (i : Nat) (c : Int) (hij : i + b.length < buf.length) (hb : buf.length < 1099511627776) :
  r00product.l1 (k + 1) a b buf i c b.length = r00product.l0 k a b (buf.set (i + b.length) c) ((i + 1 : Nat) : Int) := by
 have e1 : wrap64 ((i : Int) + (b.length : Int)) = ((i + b.length : Nat) : Int) := by rw [w64 (by omega) (by omega)]; omega
 have e2 : wrap64 ((i : Int) + 1) = ((i + 1 : Nat) : Int) := by rw [w64 (by omega) (by omega)]; omega
 rw [r00product.l1, if_neg (Int.lt_irrefl _), e1, if_pos (Int.natCast_nonneg _), if_pos (Int.ofNat_lt.2 hij), e2, Int.toNat_natCast]
theorem prod_alg (B P Q vb vb0 v c x y z d c2 : Int) (h : vb + P * Q * c = vb0 + P * (x * v)) (h2 : x * y + z + c = d + B * c2) : vb + P * Q * (d - z) + P * Q * B * c2 = vb0 + P * (x * (v + Q * y)) := by
 rw [show vb + P * Q * (d - z) + P * Q * B * c2 = vb + P * Q * (d + B * c2) - P * Q * z by grind, ← h2, show vb + P * Q * (x * y + z + c) - P * Q * z = (vb + P * Q * c) + P * Q * x * y by grind, h]
 grind
theorem prod_in {a b : List Int} (ha : Dig 4294967296 a) (hb : Dig 4294967296 b) (hla : a.length < 100000000) (hlb : b.length < 100000000) (i : Nat) (hi : i < a.length) (buf0 : List Int) (hz : ∀ t, i + b.length ≤ t → rd buf0 ((t : Nat) : Int) = 0)
  (Q : List Int → Prop) (H : ∀ buf, buf.length = a.length + b.length → Dig 4294967296 buf → V 4294967296 buf = V 4294967296 buf0 + 4294967296 ^ i * (rd a i * V 4294967296 b) → (∀ t, i + 1 + b.length ≤ t → rd buf ((t : Nat) : Int) = 0) →
   ∃ r, Ev (fun k => r00product.l0 k a b buf ((i + 1 : Nat) : Int)) r ∧ Q r) :
  ∀ (m j : Nat) (buf : List Int) (c : Int), j + m = b.length → buf.length = a.length + b.length → Dig 4294967296 buf → 0 ≤ c → c < 4294967296 →
   V 4294967296 buf + 4294967296 ^ i * 4294967296 ^ j * c = V 4294967296 buf0 + 4294967296 ^ i * (rd a i * V 4294967296 (b.take j)) → (∀ t, i + j ≤ t → rd buf ((t : Nat) : Int) = rd buf0 ((t : Nat) : Int)) →
   ∃ r, Ev (fun k => r00product.l1 k a b buf i c j) r ∧ Q r := by
 intro m
 induction m with
 | zero =>
  intro j buf c hj hl hd hc0 hc1 hv ht
  have : j = b.length := by omega
  subst this
  rw [List.take_length] at hv
  have h0 : rd buf ((i + b.length : Nat) : Int) = 0 := by rw [ht _ (Nat.le_refl _)]; exact hz _ (Nat.le_refl _)
  obtain ⟨r, he, hq⟩ := H (buf.set (i + b.length) c) (by rw [List.length_set]; exact hl) (Dig_set hd _ hc0 hc1)
   (by rw [V_set _ _ _ _ (by omega), h0, Int.sub_zero, Int.pow_add]; exact hv)
   (fun t ht' => by rw [rd_set _ _ _ _ (by omega), if_neg (by omega), ht t (by omega)]; exact hz t (by omega))
  exact ⟨r, Ev.succ (Ev.congr he fun k => prod_end k a b buf i c (by omega) (by omega)), hq⟩
 | succ m ih =>
  intro j buf c hj hl hd hc0 hc1 hv ht
  have ra := rd_dig ha (i := (i : Int)) (by omega) (by omega)
  have rb := rd_dig hb (i := (j : Int)) (by omega) (by omega)
  have rz := rd_dig hd (i := ((i + j : Nat) : Int)) (by omega) (by omega)
  have hP0 := Int.mul_nonneg ra.1 rb.1
  have hP1 : rd a i * rd b j ≤ 18446744065119617025 := by
   have := Int.mul_le_mul (show rd a (i : Int) ≤ 4294967295 by omega) (show rd b (j : Int) ≤ 4294967295 by omega) rb.1 (by omega)
   simpa using this
  obtain ⟨s, hs⟩ : ∃ s, s = rd a i * rd b j + rd buf ((i + j : Nat) : Int) + c := ⟨_, rfl⟩
  have hs0 : 0 ≤ s := by omega
  have hs1 : s < 18446744073709551616 := by omega
  have hc2 : s / 4294967296 < 4294967296 := by omega
  have hv2 : V 4294967296 (buf.set (i + j) (s % 4294967296)) + 4294967296 ^ i * 4294967296 ^ (j + 1) * (s / 4294967296) = V 4294967296 buf0 + 4294967296 ^ i * (rd a i * V 4294967296 (b.take (j + 1))) := by
   rw [V_set _ _ _ _ (by omega), V_take _ _ (by omega), Int.pow_add, Int.pow_succ, ← Int.mul_assoc]
   exact prod_alg 4294967296 (4294967296 ^ i) (4294967296 ^ j) _ _ _ c _ _ _ _ _ hv (by omega)
  obtain ⟨r, he, hq⟩ := ih (j + 1) (buf.set (i + j) (s % 4294967296)) (s / 4294967296) (by omega) (by rw [List.length_set]; exact hl) (Dig_set hd _ (by omega) (by omega)) (by omega) hc2 hv2
   (fun t ht' => by rw [rd_set _ _ _ _ (by omega), if_neg (by omega)]; exact ht t (by omega))
  refine ⟨r, Ev.succ (Ev.congr he fun k => ?_), hq⟩
  have hw : IntKind.u64.wrap (IntKind.u64.wrap (IntKind.u64.wrap (rd a i * rd b j) + rd buf ((i + j : Nat) : Int)) + c) = s := by
   rw [u64 (n := rd a i * rd b j) hP0 (by omega), u64 (n := rd a i * rd b j + rd buf ((i + j : Nat) : Int)) (by omega) (by omega), ← hs]
   exact u64 hs0 hs1
  have ht' : Int.tmod s 4294967296 = s % 4294967296 := Int.tmod_eq_emod_of_nonneg hs0
  have ht2 : IntKind.u64.wrap (Int.tdiv s 4294967296) = s / 4294967296 := by rw [Int.tdiv_eq_ediv_of_nonneg hs0]; exact u64 (Int.ediv_nonneg hs0 (by decide)) (Int.lt_trans hc2 (by decide))
  rw [prod_step k a b buf i j c s (by clear hw ht' ht2; omega) hi (by clear hw ht' ht2; omega) (by clear hw ht' ht2; omega) hw, ht', ht2]
theorem prod_out {a b : List Int} (ha : Dig 4294967296 a) (hb : Dig 4294967296 b) (hla : a.length < 100000000) (hlb : b.length < 100000000) : ∀ (m i : Nat) (buf : List Int), i + m = a.length → buf.length = a.length + b.length → Dig 4294967296 buf →
  V 4294967296 buf = V 4294967296 (a.take i) * V 4294967296 b → (∀ t, i + b.length ≤ t → rd buf ((t : Nat) : Int) = 0) →
  ∃ r, Ev (fun k => r00product.l0 k a b buf i) r ∧ (Can 4294967296 r (V 4294967296 a * V 4294967296 b) ∧ r.length ≤ a.length + b.length) := by
 intro m
 induction m with
 | zero =>
  intro i buf hi hl hd hv hz
  rw [List.take_of_length_le (by omega)] at hv
  obtain ⟨r, he, hc, hlen⟩ := low_ev 4294967296 (l := buf) (by omega) ⟨hd, hv⟩
  refine ⟨r, Ev.succ (Ev.congr (Ev.bind (g := fun _ t => some t) he (Ev.pure _)) fun k => ?_), hc, by omega⟩
  rw [r00product.l0, if_neg (by omega)]
 | succ m ih =>
  intro i buf hi hl hd hv hz
  obtain ⟨r, he, hq⟩ := prod_in ha hb hla hlb i (by omega) buf hz (fun r => Can 4294967296 r (V 4294967296 a * V 4294967296 b) ∧ r.length ≤ a.length + b.length)
   (fun buf2 hl2 hd2 hv2 hz2 => ih (i + 1) buf2 (by omega) hl2 hd2 (by rw [hv2, hv, V_take _ _ (by omega)]; grind) hz2)
   b.length 0 buf 0 (by omega) hl hd (by omega) (by omega) (by simp [V]) (fun _ _ => rfl)
  refine ⟨r, Ev.succ (Ev.congr he fun k => ?_), hq⟩
  rw [r00product.l0, if_pos (by omega)]
  rfl
theorem product_ev {a b : List Int} {x y : Int} (ha : Num 4294967296 a x) (hb : Num 4294967296 b y) (hla : a.length < 100000000) (hlb : b.length < 100000000) :
  ∃ r, Ev (fun k => r00product.f k a b) r ∧ Can 4294967296 r (x * y) ∧ r.length ≤ a.length + b.length := by
 obtain ⟨r, he, hc⟩ := prod_out ha.1 hb.1 hla hlb a.length 0 (List.replicate (a.length + b.length) 0) (by omega) (by simp) (Dig_zeros (by omega) _) (by simp [V, V_zeros]) (fun t _ => by unfold rd; simp [List.getD_eq_getElem?_getD, List.getElem?_replicate]; split <;> rfl)
 rw [ha.2, hb.2] at hc
 refine ⟨r, Ev.congr he fun k => ?_, hc⟩
 have e : wrap64 ((a.length : Int) + (b.length : Int)) = ((a.length + b.length : Nat) : Int) := by rw [w64 (by omega) (by omega)]; omega
 have c1 : a.length + b.length ≤ 35184372088832 := by clear e; omega
 unfold r00product.f
 rw [e, if_pos (Int.natCast_nonneg _), Int.toNat_natCast, if_pos c1]
 rfl
theorem natmul_ev {a b : List Int} {x y : Int} (ha : Num 18446744073709551616 a x) (hb : Num 18446744073709551616 b y) (hla : a.length < 10000000) (hlb : b.length < 10000000) :
  ∃ r, Ev (fun k => r00NatMul.f k a b) r ∧ Can 18446744073709551616 r (x * y) := by
 obtain ⟨p, hp, hcp, hlp⟩ := halves_ev ha (by omega)
 obtain ⟨q, hq, hcq, hlq⟩ := halves_ev hb (by omega)
 obtain ⟨t, ht, hct, hlt⟩ := product_ev hcp.1 hcq.1 (by omega) (by omega)
 obtain ⟨r, hr, hcr, _⟩ := limbs2_ev hct.1 (by omega)
 exact ⟨r, Ev.bind (g := fun k t268 => (r00halves.f k b).bind fun t271 => (r00product.f k t268 t271).bind fun t274 => (r00limbs.f k t274).bind fun t277 => some t277) hp
  (Ev.bind (g := fun k t271 => (r00product.f k p t271).bind fun t274 => (r00limbs.f k t274).bind fun t277 => some t277) hq
   (Ev.bind (g := fun k t274 => (r00limbs.f k t274).bind fun t277 => some t277) ht (Ev.bind (g := fun _ t277 => some t277) hr (Ev.pure _)))), hcr⟩
end Go.Proofs.Ytokmpejgfkfmbaa.BM
end
section
namespace Go.Proofs.Ytokmpejgfkfmbaa.BM
open Go.RowKit Go.Proofs.YtokmpejgfkfmbaaW.PrintWords Go.Proofs.YtokmpejgfkfmbaaW.PrintLast Go.Proofs.YtokmpejgfkfmbaaW.PrintMore
open Go.Proofs.Ytokmpejgfkfmbaa.BA
theorem trim_ev (B : Int) : ∀ (m : Nat) {l : List Int} {n : Int}, l.length = m → m < 4611686018427387904 → Num B l n →
  ∃ r, Ev (fun k => big_trim.f k l) r ∧ Can B r n ∧ r.length ≤ m
 | 0, l, n, hm, _, hn => by
  have : l = [] := List.eq_nil_of_length_eq_zero hm
  subst this
  refine ⟨[], Ev.succ (Ev.congr (Ev.pure _) fun k => ?_), ⟨hn, fun h => absurd rfl h⟩, by simp⟩
  simp [big_trim.f, big_trim.l0]
 | m + 1, l, n, hm, hb, hn => by
  have e : wrap64 ((l.length : Int) - 1) = ((m : Nat) : Int) := by rw [w64 (by omega) (by omega)]; omega
  by_cases h0 : rd l ((m : Nat) : Int) = 0
  ·obtain ⟨r, he, hc, hl⟩ := trim_ev B m (l := l.take m) (n := n) (by rw [List.length_take]; omega) (by omega)
    ⟨Dig_take hn.1 m, by rw [V_take_zero B l (by omega) h0, show m + 1 = l.length by omega, List.take_length]; exact hn.2⟩
   refine ⟨r, Ev.succ (Ev.congr he fun k => ?_), hc, by omega⟩
   show big_trim.l0 (k + 1) l = big_trim.l0 k _
   rw [big_trim.l0, e, if_pos (by omega), if_pos (by omega), if_pos (by omega), if_pos h0, if_pos (by omega)]
   simp
  ·refine ⟨l, Ev.succ (Ev.congr (Ev.pure _) fun k => ?_), ⟨hn, ?_⟩, by omega⟩
   ·show big_trim.l0 (k + 1) l = _
    rw [big_trim.l0, e, if_pos (by omega), if_pos (by omega), if_pos (by omega), if_neg h0]
   ·have := Top_take (l := l) (i := m) (by omega) h0
    rwa [show m + 1 = l.length by omega, List.take_length] at this
theorem trim_can {B : Int} (hB : 1 < B) {l : List Int} {n : Int} (h : Can B l n) (hl : l.length < 4611686018427387904) : Ev (fun k => big_trim.f k l) l := by
 obtain ⟨r, he, hc, _⟩ := trim_ev B l.length rfl hl h.1
 rwa [Can_unique hB hc h] at he
theorem mul64 {a b : Int} (ha0 : 0 ≤ a) (ha : a < 18446744073709551616) (hb0 : 0 ≤ b) (hb : b < 18446744073709551616) : bits_Mul64.f a b = some (a * b / 18446744073709551616, a * b % 18446744073709551616) := by
 unfold bits_Mul64.f
 have := mul64_arith a b ha0 ha hb0 hb
 simp only [u64m]
 rw [and_low32 a ha0 ha, and_low32 b hb0 hb, and_low32 _ (Int.emod_nonneg _ (by omega)) (Int.emod_lt_of_pos _ (by omega)), this]
theorem add64 {a b c : Int} (ha0 : 0 ≤ a) (hb0 : 0 ≤ b) (hc0 : 0 ≤ c) (hc : c ≤ 1) : bits_Add64.f a b c = some ((a + b + c) % 18446744073709551616, (a + b + c) / 18446744073709551616) := by
 unfold bits_Add64.f
 rw [if_pos ⟨ha0, hb0, hc0, hc⟩]
theorem chunk_loop (b : Int) (hb : 2 ≤ b) (hb' : b ≤ 36) : ∀ (j e : Nat), 1 ≤ e → e + j = 64 → b ^ e < 18446744073709551616 →
  ∃ r : Nat, 1 ≤ r ∧ r ≤ 64 ∧ b ^ r < 18446744073709551616 ∧ 18446744073709551616 ≤ b ^ (r + 1) ∧ Ev (fun k => big_chunk.l0 k b (b ^ e) e) (b ^ r, (r : Int)) := by
 intro j
 induction j with
 | zero =>
  intro e he hj hlt
  exfalso
  have h1 := pow_mono (by omega) hb e
  have : e = 64 := by omega
  subst this
  have h2 : (2 : Int) ^ 64 = 18446744073709551616 := by decide
  omega
 | succ j ih =>
  intro e he hj hlt
  have hp := pow_pos' (show 0 < b by omega) e
  have hm := mul64 (a := b ^ e) (b := b) (by omega) hlt (by omega) (by omega)
  have hu : IntKind.u64.wrap b = b := u64 (by omega) (by omega)
  by_cases hz : b ^ e * b / 18446744073709551616 = 0
  ·have hlt2 : b ^ (e + 1) < 18446744073709551616 := by rw [Int.pow_succ]; omega
   have heq : b ^ e * b % 18446744073709551616 = b ^ (e + 1) := by
    rw [Int.pow_succ] at hlt2 ⊢
    exact Int.emod_eq_of_lt (by have := Int.mul_pos hp (show 0 < b by omega); omega) hlt2
   obtain ⟨r, h1, h2, h3, h4, h5⟩ := ih (e + 1) (by omega) (by omega) hlt2
   refine ⟨r, h1, h2, h3, h4, Ev.succ (Ev.congr h5 fun k => ?_)⟩
   rw [big_chunk.l0, hu, hm]
   simp only [Option.bind_some, hz, if_true, heq]
   rw [w64 (by omega) (by omega)]
   simp
  ·refine ⟨e, he, by omega, hlt, ?_, Ev.succ (Ev.congr (Ev.pure _) fun k => ?_)⟩
   ·rw [Int.pow_succ]; have := Int.mul_pos hp (show 0 < b by omega); omega
   ·rw [big_chunk.l0, hu, hm]
    simp only [Option.bind_some, hz, if_false]
theorem chunk_ev (b : Int) (hb : 2 ≤ b) (hb' : b ≤ 36) :
  ∃ r : Nat, 1 ≤ r ∧ r ≤ 64 ∧ b ^ r < 18446744073709551616 ∧ 18446744073709551616 ≤ b ^ (r + 1) ∧ Ev (fun k => big_chunk.f k b) (b ^ r, (r : Int)) := by
 obtain ⟨r, h1, h2, h3, h4, h5⟩ := chunk_loop b hb hb' 63 1 (by omega) (by omega) (by rw [Int.pow_one]; omega)
 refine ⟨r, h1, h2, h3, h4, Ev.congr h5 fun k => ?_⟩
 rw [big_chunk.f, u64 (show 0 ≤ b by omega) (show b < 18446744073709551616 by omega), Int.pow_one]; rfl
theorem plus_alg (B P vp c va vb d c2 x y : Int) (h : vp + P * c = va + vb) (h2 : x + y + c = d + B * c2) : vp + P * d + P * B * c2 = va + P * x + (vb + P * y) := by grind
theorem plusE_loop {a b : List Int} (hab : b.length ≤ a.length) (ha : Dig 18446744073709551616 a) (hb : Dig 18446744073709551616 b) (hl : a.length < 1099511627776) :
  ∀ (j i : Nat) (p : List Int) (c : Int), i + j = a.length → p.length = i → Dig 18446744073709551616 p → 0 ≤ c → c ≤ 1 →
   V 18446744073709551616 p + 18446744073709551616 ^ i * c = V 18446744073709551616 (a.take i) + V 18446744073709551616 (b.take i) →
   ∃ r, Ev (fun k => big_plus_E1.l0 k a b (p ++ List.replicate (j + 1) 0) c a a.length i) r ∧ Can 18446744073709551616 r (V 18446744073709551616 a + V 18446744073709551616 b) ∧ r.length ≤ a.length + 1 := by
 intro j
 induction j with
 | zero =>
  intro i p c hi hp hd hc0 hc1 hv
  have e1 : i = a.length := by omega
  rw [List.take_of_length_le (by omega), List.take_of_length_le (by omega)] at hv
  obtain ⟨r, he, hcan, hlen⟩ := trim_ev 18446744073709551616 (a.length + 1) (l := p ++ [c]) (n := V 18446744073709551616 a + V 18446744073709551616 b) (by simp; omega) (by omega)
   ⟨Dig_snoc hd hc0 (by omega), by rw [V_snoc, hp]; exact hv⟩
  refine ⟨r, Ev.succ (Ev.congr he fun k => ?_), hcan, hlen⟩
  rw [big_plus_E1.l0, if_neg (by omega), if_pos (by omega), if_pos (by simp; omega), show ((a.length : Int)).toNat = p.length by omega, set_pad]
  simp
 | succ j ih =>
  intro i p c hi hp hd hc0 hc1 hv
  have ra := rd_dig ha (i := (i : Int)) (by omega) (by omega)
  have stepEq : ∃ y, 0 ≤ y ∧ y < 18446744073709551616 ∧ V 18446744073709551616 (b.take (i + 1)) = V 18446744073709551616 (b.take i) + 18446744073709551616 ^ i * y ∧
    ((i : Int) < (b.length : Int) → rd b (i : Int) = y) ∧ (¬ (i : Int) < (b.length : Int) → y = 0) := by
   by_cases hib : i < b.length
   ·have rb := rd_dig hb (i := (i : Int)) (by omega) (by omega)
    exact ⟨rd b (i : Int), rb.1, rb.2, V_take 18446744073709551616 b hib, fun _ => rfl, fun h => absurd (by omega) h⟩
   ·refine ⟨0, by omega, by omega, ?_, fun h => absurd h (by omega), fun _ => rfl⟩
    rw [List.take_of_length_le (by omega), List.take_of_length_le (by omega)]; omega
  obtain ⟨y, y0, y1, hvb, hy1, hy2⟩ := stepEq
  have had := add64 (a := rd a (i : Int)) (b := y) (c := c) ra.1 y0 hc0 hc1
  generalize hs : rd a (i : Int) + y + c = s at had
  obtain ⟨r, he, hcan, hlen⟩ := ih (i + 1) (p ++ [s % 18446744073709551616]) (s / 18446744073709551616) (by omega) (by simp; omega) (Dig_snoc hd (by omega) (by omega)) (by omega) (by omega) (by
   rw [V_snoc, hp, V_take 18446744073709551616 a (by omega), hvb, Int.pow_succ]
   exact plus_alg 18446744073709551616 (18446744073709551616 ^ i) _ c _ _ _ _ _ _ hv (by omega))
  refine ⟨r, Ev.succ (Ev.congr he fun k => ?_), hcan, hlen⟩
  rw [big_plus_E1.l0, if_pos (by omega), if_pos (by omega), if_pos (by omega), w64 (by omega) (by omega)]
  by_cases hib : (i : Int) < (b.length : Int)
  ·rw [if_pos hib, hy1 hib, had]
   simp only [Option.bind_some]
   rw [if_pos (by simp; omega), show ((i : Nat) : Int).toNat = p.length by omega, set_pad]
   simp
  ·have := hy2 hib
   subst this
   rw [if_neg hib, had]
   simp only [Option.bind_some]
   rw [if_pos (by simp; omega), show ((i : Nat) : Int).toNat = p.length by omega, set_pad]
   simp
theorem plusT_loop {a b : List Int} (hab : b.length ≤ a.length) (ha : Dig 18446744073709551616 a) (hb : Dig 18446744073709551616 b) (hl : a.length < 1099511627776) :
  ∀ (j i : Nat) (p : List Int) (c : Int), i + j = a.length → p.length = i → Dig 18446744073709551616 p → 0 ≤ c → c ≤ 1 →
   V 18446744073709551616 p + 18446744073709551616 ^ i * c = V 18446744073709551616 (a.take i) + V 18446744073709551616 (b.take i) →
   ∃ r, Ev (fun k => big_plus_T1.l0 k a b (p ++ List.replicate (j + 1) 0) c a a.length i) r ∧ Can 18446744073709551616 r (V 18446744073709551616 a + V 18446744073709551616 b) ∧ r.length ≤ a.length + 1 := by
 intro j
 induction j with
 | zero =>
  intro i p c hi hp hd hc0 hc1 hv
  have e1 : i = a.length := by omega
  rw [List.take_of_length_le (by omega), List.take_of_length_le (by omega)] at hv
  obtain ⟨r, he, hcan, hlen⟩ := trim_ev 18446744073709551616 (a.length + 1) (l := p ++ [c]) (n := V 18446744073709551616 a + V 18446744073709551616 b) (by simp; omega) (by omega)
   ⟨Dig_snoc hd hc0 (by omega), by rw [V_snoc, hp]; exact hv⟩
  refine ⟨r, Ev.succ (Ev.congr he fun k => ?_), hcan, hlen⟩
  rw [big_plus_T1.l0, if_neg (by omega), if_pos (by omega), if_pos (by simp; omega), show ((a.length : Int)).toNat = p.length by omega, set_pad]
  simp
 | succ j ih =>
  intro i p c hi hp hd hc0 hc1 hv
  have ra := rd_dig ha (i := (i : Int)) (by omega) (by omega)
  have stepEq : ∃ y, 0 ≤ y ∧ y < 18446744073709551616 ∧ V 18446744073709551616 (b.take (i + 1)) = V 18446744073709551616 (b.take i) + 18446744073709551616 ^ i * y ∧
    ((i : Int) < (b.length : Int) → rd b (i : Int) = y) ∧ (¬ (i : Int) < (b.length : Int) → y = 0) := by
   by_cases hib : i < b.length
   ·have rb := rd_dig hb (i := (i : Int)) (by omega) (by omega)
    exact ⟨rd b (i : Int), rb.1, rb.2, V_take 18446744073709551616 b hib, fun _ => rfl, fun h => absurd (by omega) h⟩
   ·refine ⟨0, by omega, by omega, ?_, fun h => absurd h (by omega), fun _ => rfl⟩
    rw [List.take_of_length_le (by omega), List.take_of_length_le (by omega)]; omega
  obtain ⟨y, y0, y1, hvb, hy1, hy2⟩ := stepEq
  have had := add64 (a := rd a (i : Int)) (b := y) (c := c) ra.1 y0 hc0 hc1
  generalize hs : rd a (i : Int) + y + c = s at had
  obtain ⟨r, he, hcan, hlen⟩ := ih (i + 1) (p ++ [s % 18446744073709551616]) (s / 18446744073709551616) (by omega) (by simp; omega) (Dig_snoc hd (by omega) (by omega)) (by omega) (by omega) (by
   rw [V_snoc, hp, V_take 18446744073709551616 a (by omega), hvb, Int.pow_succ]
   exact plus_alg 18446744073709551616 (18446744073709551616 ^ i) _ c _ _ _ _ _ _ hv (by omega))
  refine ⟨r, Ev.succ (Ev.congr he fun k => ?_), hcan, hlen⟩
  rw [big_plus_T1.l0, if_pos (by omega), if_pos (by omega), if_pos (by omega), w64 (by omega) (by omega)]
  by_cases hib : (i : Int) < (b.length : Int)
  ·rw [if_pos hib, hy1 hib, had]
   simp only [Option.bind_some]
   rw [if_pos (by simp; omega), show ((i : Nat) : Int).toNat = p.length by omega, set_pad]
   simp
  ·have := hy2 hib
   subst this
   rw [if_neg hib, had]
   simp only [Option.bind_some]
   rw [if_pos (by simp; omega), show ((i : Nat) : Int).toNat = p.length by omega, set_pad]
   simp
theorem plus_ev {a b : List Int} (ha : Dig 18446744073709551616 a) (hb : Dig 18446744073709551616 b) (hla : a.length < 1099511627776) (hlb : b.length < 1099511627776) :
  ∃ r, Ev (fun k => big_plus.f k a b) r ∧ Can 18446744073709551616 r (V 18446744073709551616 a + V 18446744073709551616 b) ∧ r.length ≤ max a.length b.length + 1 := by
 by_cases h : (a.length : Int) < (b.length : Int)
 ·obtain ⟨r, he, hc, hl⟩ := plusT_loop (a := b) (b := a) (by omega) hb ha hlb b.length 0 [] 0 (by omega) rfl (Dig_nil _) (by omega) (by omega) (by simp [V])
  refine ⟨r, Ev.congr he fun k => ?_, by rw [Int.add_comm]; exact hc, by omega⟩
  unfold big_plus.f big_plus_T1.f
  have e : wrap64 ((b.length : Int) + 1) = (b.length : Int) + 1 := w64 (by omega) (by omega)
  rw [if_pos h, if_pos h, e, if_pos (by omega), if_pos (by omega)]
  simp [show ((b.length : Int) + 1).toNat = b.length + 1 by omega]
 ·obtain ⟨r, he, hc, hl⟩ := plusE_loop (a := a) (b := b) (by omega) ha hb hla a.length 0 [] 0 (by omega) rfl (Dig_nil _) (by omega) (by omega) (by simp [V])
  refine ⟨r, Ev.congr he fun k => ?_, hc, by omega⟩
  unfold big_plus.f big_plus_E1.f
  have e : wrap64 ((a.length : Int) + 1) = (a.length : Int) + 1 := w64 (by omega) (by omega)
  rw [if_neg h, if_neg h, e, if_pos (by omega), if_pos (by omega)]
  simp [show ((a.length : Int) + 1).toNat = a.length + 1 by omega]
end Go.Proofs.Ytokmpejgfkfmbaa.BM
end
section
namespace Go.Proofs.Ytokmpejgfkfmbaa.BM
open Go.RowKit Go.Proofs.YtokmpejgfkfmbaaW.PrintWords Go.Proofs.YtokmpejgfkfmbaaW.PrintLast Go.Proofs.YtokmpejgfkfmbaaW.PrintMore
open Go.Proofs.Ytokmpejgfkfmbaa.BA
theorem times_alg (B P vp c va m d c2 x : Int) (h : vp + P * c = va * m) (h2 : x * m + c = d + B * c2) : vp + P * d + P * B * c2 = (va + P * x) * m := by
 rw [show vp + P * d + P * B * c2 = vp + P * (d + B * c2) by grind, ← h2, show vp + P * (x * m + c) = (vp + P * c) + P * x * m by grind, h, Int.add_mul]
theorem times_step (k : Nat) (x1 x5 : List Int) (x6 x7 x8 : Int) (x29 : List Int) (x30 x31 : Int) (x36 : List Int) (x37 x38 hi lo s1 c1 s2 c2 : Int)
  (h : x38 < x37) (h0 : 0 ≤ x38) (h1 : x38 < (x36.length : Int)) (hm : bits_Mul64.f x7 (rd x36 x38) = some (hi, lo)) (h2 : 0 ≤ wrap64 (x6 + x38)) (h3 : wrap64 (x6 + x38) < (x5.length : Int))
  (ha : bits_Add64.f lo (rd x5 (wrap64 (x6 + x38))) 0 = some (s1, c1)) (hb : bits_Add64.f s1 x8 0 = some (s2, c2)) :
  big_times.l1 (k + 1) x1 x5 x6 x7 x8 x29 x30 x31 x36 x37 x38 = big_times.l1 k x1 (x5.set (wrap64 (x6 + x38)).toNat s2) x6 x7 (IntKind.u64.wrap (IntKind.u64.wrap (hi + c1) + c2)) x29 x30 x31 x36 x37 (wrap64 (x38 + 1)) := by
 rw [big_times.l1, if_pos h, if_pos h0, if_pos h1, hm]
 simp only [Option.bind_some]
 rw [if_pos h2, if_pos h3, ha]
 simp only [Option.bind_some]
 rw [hb]
 simp only [Option.bind_some]
theorem times_outer (k : Nat) (m : Int) (x5 a : List Int) (i : Nat) (hi lo s1 c1 s2 c2 y : Int) (hl : a.length < 1099511627776) (h : i < a.length) (h5 : i + 1 < x5.length)
  (hm : bits_Mul64.f (rd a i) m = some (hi, lo)) (ha : bits_Add64.f lo (rd x5 i) 0 = some (s1, c1)) (hb : bits_Add64.f s1 0 0 = some (s2, c2))
  (hy : IntKind.u64.wrap (IntKind.u64.wrap (hi + c1) + c2) = y) :
  big_times.l0 (k + 1 + 1 + 1) [m] x5 a a.length i = big_times.l0 k [m] ((x5.set i s2).set (i + 1) y) a a.length ((i + 1 : Nat) : Int) := by
 have ew : wrap64 ((i : Int) + 0) = (i : Int) := by rw [w64 (by omega) (by omega)]; omega
 have e1 : wrap64 (0 + 1) = 1 := by rw [w64 (by omega) (by omega)]; rfl
 have e2 : wrap64 ((i : Int) + (([m] : List Int).length : Int)) = ((i + 1 : Nat) : Int) := by rw [w64 (by simp; omega) (by simp; omega)]; simp
 have e3 : wrap64 ((i : Int) + 1) = ((i + 1 : Nat) : Int) := by rw [w64 (by omega) (by omega)]; omega
 rw [big_times.l0, if_pos (by omega), if_pos (by omega), if_pos (by omega)]
 rw [times_step (k + 1) [m] x5 (i : Int) (rd a i) 0 a a.length i [m] ([m] : List Int).length 0 hi lo s1 c1 s2 c2 (by simp) (by omega) (by simp) hm (by rw [ew]; omega) (by rw [ew]; omega) (by rw [ew]; exact ha) hb]
 rw [ew, e1, hy, big_times.l1, if_neg (by simp), e2, e3, if_pos (by omega), if_pos (by rw [List.length_set]; omega)]
 rfl
theorem times_carry (s c : Int) (h0 : 0 ≤ s) (h1 : s ≤ 340282366920938463426481119284349108225) (hc0 : 0 ≤ c) (hc1 : c < 18446744073709551616) :
  IntKind.u64.wrap (IntKind.u64.wrap (s / 18446744073709551616 + (s % 18446744073709551616 + c + 0) / 18446744073709551616) + ((s % 18446744073709551616 + c + 0) % 18446744073709551616 + 0 + 0) / 18446744073709551616) = (s + c) / 18446744073709551616 := by
 rw [u64m, u64m]
 omega
theorem times_loop {a : List Int} (ha : Dig 18446744073709551616 a) {m : Int} (hm0 : 0 ≤ m) (hm : m < 18446744073709551616) (hl : a.length < 1099511627776) :
  ∀ (j i : Nat) (p : List Int) (c : Int), i + j = a.length → p.length = i → Dig 18446744073709551616 p → 0 ≤ c → c < 18446744073709551616 → V 18446744073709551616 p + 18446744073709551616 ^ i * c = V 18446744073709551616 (a.take i) * m →
   ∃ r, Ev (fun k => big_times.l0 k [m] ((p ++ [c]) ++ List.replicate j 0) a a.length i) r ∧ Can 18446744073709551616 r (V 18446744073709551616 a * m) ∧ r.length ≤ a.length + 1 := by
 intro j
 induction j with
 | zero =>
  intro i p c hi hp hd hc0 hc1 hv
  rw [List.take_of_length_le (by omega)] at hv
  obtain ⟨r, he, hcan, hlen⟩ := trim_ev 18446744073709551616 (a.length + 1) (l := p ++ [c]) (n := V 18446744073709551616 a * m) (by simp; omega) (by omega)
   ⟨Dig_snoc hd hc0 (by omega), by rw [V_snoc, hp]; exact hv⟩
  refine ⟨r, Ev.succ (Ev.congr he fun k => ?_), hcan, hlen⟩
  rw [big_times.l0, if_neg (by omega)]
  simp
 | succ j ih =>
  intro i p c hi hp hd hc0 hc1 hv
  have ra := rd_dig ha (i := (i : Int)) (by omega) (by omega)
  have hmul := mul64 (a := rd a (i : Int)) (b := m) ra.1 ra.2 hm0 hm
  have hP0 := Int.mul_nonneg ra.1 hm0
  have hP1 : rd a (i : Int) * m ≤ 340282366920938463426481119284349108225 := by
   have := Int.mul_le_mul (show rd a (i : Int) ≤ 18446744073709551615 by omega) (show m ≤ 18446744073709551615 by omega) hm0 (by omega)
   simpa using this
  generalize hs : rd a (i : Int) * m = s at hmul hP0 hP1
  obtain ⟨r, he, hcan, hlen⟩ := ih (i + 1) (p ++ [(s + c) % 18446744073709551616]) ((s + c) / 18446744073709551616) (by omega) (by simp; omega) (Dig_snoc hd (by omega) (by omega)) (by omega) (by omega) (by
   rw [V_snoc, hp, V_take 18446744073709551616 a (by omega), Int.pow_succ]
   exact times_alg 18446744073709551616 (18446744073709551616 ^ i) _ c _ _ _ _ _ hv (by omega))
  refine ⟨r, Ev.succ (Ev.succ (Ev.succ (Ev.congr he fun k => ?_))), hcan, hlen⟩
  have e1 : rd (p ++ [c] ++ List.replicate (j + 1) 0) (i : Int) = c := by
   unfold rd; simp [List.getD_eq_getElem?_getD, hp]
  have e2 : (p ++ [c] ++ List.replicate (j + 1) 0).set i ((s + c) % 18446744073709551616) = (p ++ [(s + c) % 18446744073709551616]) ++ List.replicate (j + 1) 0 := by
   rw [← hp, List.append_assoc, List.set_append_right _ _ (Nat.le_refl _)]; simp
  have hA := add64 (a := s % 18446744073709551616) (b := c) (c := 0) (by omega) hc0 (by omega) (by omega)
  have hA2 := add64 (a := (s % 18446744073709551616 + c + 0) % 18446744073709551616) (b := 0) (c := 0) (by omega) (by omega) (by omega) (by omega)
  refine (times_outer k m _ a i _ _ _ _ _ _ _ hl (by omega) (by simp; omega) hmul (by rw [e1]; exact hA) hA2 (times_carry s c hP0 hP1 hc0 hc1)).trans ?_
  rw [show ((s % 18446744073709551616 + c + 0) % 18446744073709551616 + 0 + 0) % 18446744073709551616 = (s + c) % 18446744073709551616 by omega, e2]
  rw [show i + 1 = (p ++ [(s + c) % 18446744073709551616]).length by simp; omega, set_pad]
theorem times_ev {a : List Int} (ha : Dig 18446744073709551616 a) {m : Int} (hm0 : 0 ≤ m) (hm : m < 18446744073709551616) (hl : a.length < 1099511627776) :
  ∃ r, Ev (fun k => big_times.f k a [m]) r ∧ Can 18446744073709551616 r (V 18446744073709551616 a * m) ∧ r.length ≤ a.length + 1 := by
 by_cases h0 : a.length = 0
 ·have : a = [] := List.eq_nil_of_length_eq_zero h0
  subst this
  refine ⟨[], Ev.succ (Ev.congr (Ev.pure _) fun k => ?_), by simpa [V] using Can_nil 18446744073709551616, by simp⟩
  simp [big_times.f, big_times.j0]
 ·obtain ⟨r, he, hc, hlen⟩ := times_loop ha hm0 hm hl a.length 0 [] 0 (by omega) rfl (Dig_nil _) (by omega) (by omega) (by simp [V])
  refine ⟨r, Ev.succ (Ev.congr he fun k => ?_), hc, hlen⟩
  have e : wrap64 ((a.length : Int) + (([m] : List Int).length : Int)) = (a.length : Int) + 1 := by simp; rw [w64 (by omega) (by omega)]
  unfold big_times.f
  rw [if_neg (by omega), big_times.j0, if_neg (by simp), e, if_pos (by omega), if_pos (by omega)]
  simp [show ((a.length : Int) + 1).toNat = a.length + 1 by omega, List.replicate_succ]
end Go.Proofs.Ytokmpejgfkfmbaa.BM
end
section
namespace Go.Proofs.Ytokmpejgfkfmbaa.BM
open Go.RowKit Go.Proofs.YtokmpejgfkfmbaaW.PrintWords Go.Proofs.YtokmpejgfkfmbaaW.PrintLast Go.Proofs.YtokmpejgfkfmbaaW.PrintMore
open Go.Proofs.Ytokmpejgfkfmbaa.BA
def wv (c b : Int) : Int := if 48 ≤ c ∧ c ≤ 57 ∧ c - 48 < b then c - 48 else if 97 ≤ c ∧ c ≤ 122 ∧ c - 87 < b then c - 87 else -1
theorem wv_lt (c b : Int) (hb : 0 < b) : wv c b < b := by unfold wv; split <;> (try split) <;> omega
theorem worth_ev (c b : Int) (h0 : 0 ≤ c) (h1 : c < 256) (hb : 2 ≤ b) (hb' : b ≤ 36) : Ev (fun k => big_worth.f k c b) (wv c b) := by
 refine Ev.succ (Ev.succ (Ev.congr (Ev.pure _) fun k => ?_))
 simp only [big_worth.f, big_worth.j0, big_worth.j1, decide_eq_true_eq, wv]
 repeat' split
 all_goals first | rfl | (exfalso; omega) | (congr 1; omega)
def D (b : Int) (g : Nat → Int) : Nat → Int
 | 0 => 0
 | i + 1 => D b g i * b + g i
theorem D_add (b : Int) (g : Nat → Int) (i : Nat) : ∀ t, D b g (i + t) = D b g i * b ^ t + D b (fun j => g (i + j)) t
 | 0 => by simp [D]
 | t + 1 => by
  show D b g (i + t) * b + g (i + t) = _
  rw [D_add b g i t, Int.pow_succ]
  simp only [D]
  grind
theorem D_nonneg {b : Int} (hb : 0 ≤ b) {g : Nat → Int} : ∀ {t : Nat}, (∀ j, j < t → 0 ≤ g j) → 0 ≤ D b g t
 | 0, _ => by simp [D]
 | t + 1, h => by
  have h1 := D_nonneg hb (t := t) (fun j hj => h j (by omega))
  have h2 := h t (by omega)
  have := Int.mul_nonneg h1 hb
  simp only [D]; omega
theorem D_lt {b : Int} (hb : 0 < b) {g : Nat → Int} : ∀ {t : Nat}, (∀ j, j < t → g j < b) → D b g t < b ^ t
 | 0, _ => by simp [D]
 | t + 1, h => by
  have h1 := D_lt hb (t := t) (fun j hj => h j (by omega))
  have h2 := h t (by omega)
  have := Int.mul_le_mul_of_nonneg_right (show D b g t + 1 ≤ b ^ t by omega) (Int.le_of_lt hb)
  rw [Int.add_mul] at this
  rw [Int.pow_succ]; simp only [D]; omega
theorem D_congr {b : Int} {g g' : Nat → Int} : ∀ {t : Nat}, (∀ j, j < t → g j = g' j) → D b g t = D b g' t
 | 0, _ => rfl
 | t + 1, h => by simp only [D]; rw [D_congr (t := t) (fun j hj => h j (by omega)), h t (by omega)]
theorem bt_extract (s : ByteArray) {i j t : Nat} (h : i + t < j) (hj : j ≤ s.size) : bt (s.extract i j) ((t : Nat) : Int) = bt s ((i + t : Nat) : Int) := by
 unfold bt
 have h1 : ((t : Nat) : Int).toNat = t := by omega
 have h2 : ((i + t : Nat) : Int).toNat = i + t := by omega
 simp only [h1, h2]
 have hs : (s.extract i j).size = j - i := by rw [ByteArray.size_extract]; omega
 rw [dif_pos (by omega), dif_pos (by omega)]
 congr 2
 rw [ByteArray.getElem_extract]
theorem pow_lt_of_le {b : Int} (hb : 1 ≤ b) {m n : Nat} (h : m ≤ n) {c : Int} (hc : b ^ n < c) : b ^ m < c := by
 have := pow_le' hb h; omega
theorem ss_step (k : Nat) (s : ByteArray) (b : Int) (neg : Bool) (e : Int) (acc : List Int) (pos v p cnt : Int) (c : ByteArray) (n i w : Int) (h : i < n) (h0 : 0 ≤ i) (h1 : i < (c.size : Int))
  (hw : big_worth.f k (bt c i) b = some w) (hw0 : ¬ w < 0) :
  bISetString.l1 (k + 1) s b neg e acc pos v p cnt c n i =
   bISetString.l1 k s b neg e acc pos (IntKind.u64.wrap (IntKind.u64.wrap (v * IntKind.u64.wrap b) + IntKind.u64.wrap w)) (IntKind.u64.wrap (p * IntKind.u64.wrap b)) cnt c n (wrap64 (i + 1)) := by
 rw [bISetString.l1, if_pos h, if_pos h0, if_pos h1, hw]
 simp only [Option.bind_some]
 rw [if_neg hw0]
theorem Ev.step {α β : Type} {f : Nat → Option α} {g : Nat → Option β} {a : α} {r : β} {t : Nat → Option β} (hf : Ev f a) (h : ∀ k, f k = some a → t (k + 1) = g k) (hg : Ev g r) : Ev t r := by
 obtain ⟨K, hK⟩ := hf
 obtain ⟨L, hL⟩ := hg
 refine ⟨max K L + 1, fun k hk => ?_⟩
 have h1 := h (k - 1) (hK _ (by omega))
 rw [show k - 1 + 1 = k by omega] at h1
 rw [h1]
 exact hL _ (by omega)
def ssTail (s : ByteArray) (b : Int) (neg : Bool) (e : Int) (acc : List Int) (nxt v p : Int) (k : Nat) : Option (List Int × Bool) :=
 (big_times.f k acc [p]).bind fun t => (big_trim.f k [v]).bind fun u => (big_plus.f k t u).bind fun x => bISetString.l0 k s b neg e x nxt
theorem ss_l1 (s : ByteArray) (b : Int) (hb : 2 ≤ b) (hb' : b ≤ 36) (neg : Bool) (e : Int) (acc : List Int) (pos cnt nxt : Int) (hnx : wrap64 (pos + cnt) = nxt) (c : ByteArray) (hc : ∀ i : Nat, i < c.size → 0 ≤ wv (bt c i) b) (hn : c.size < 4294967296)
  (hp : b ^ c.size < 18446744073709551616) (r : List Int × Bool)
  (ht : Ev (ssTail s b neg e acc nxt (D b (fun i => wv (bt c i) b) c.size) (b ^ c.size)) r) :
  ∀ (j u : Nat), u + j = c.size → Ev (fun k => bISetString.l1 k s b neg e acc pos (D b (fun i => wv (bt c i) b) u) (b ^ u) cnt c c.size u) r := by
 intro j
 induction j with
 | zero =>
  intro u hu
  have : u = c.size := by omega
  subst this
  refine Ev.succ (Ev.congr ht fun k => ?_)
  rw [bISetString.l1, if_neg (by omega), hnx]
  rfl
 | succ j ih =>
  intro u hu
  have hbr := bt_range c (u : Int)
  refine Ev.step (worth_ev (bt c (u : Int)) b hbr.1 hbr.2 hb hb') (fun k hk => ?_) (ih (u + 1) (by omega))
  show bISetString.l1 (k + 1) s b neg e acc pos (D b (fun i => wv (bt c i) b) u) (b ^ u) cnt c c.size u = bISetString.l1 k s b neg e acc pos (D b (fun i => wv (bt c i) b) (u + 1)) (b ^ (u + 1)) cnt c c.size ((u + 1 : Nat) : Int)
  have hw0 := hc u (by omega)
  have hwl := wv_lt (bt c (u : Int)) b (by omega)
  have hD0 := D_nonneg (b := b) (g := fun i => wv (bt c i) b) (t := u) (by omega) (fun j hj => hc j (by omega))
  have hDl := D_lt (b := b) (g := fun i => wv (bt c i) b) (t := u + 1) (by omega) (fun j _ => wv_lt _ b (by omega))
  have hpu := pow_lt_of_le (show 1 ≤ b by omega) (show u + 1 ≤ c.size by omega) hp
  have hq := pow_pos' (show 0 < b by omega) u
  have hm0 := Int.mul_nonneg hD0 (show 0 ≤ b by omega)
  have hm1 := Int.mul_nonneg (Int.le_of_lt hq) (show 0 ≤ b by omega)
  have hbu : IntKind.u64.wrap b = b := u64 (by omega) (by omega)
  have hwu : IntKind.u64.wrap (wv (bt c (u : Int)) b) = wv (bt c (u : Int)) b := u64 (by omega) (by omega)
  have e1 : IntKind.u64.wrap (b ^ u * IntKind.u64.wrap b) = b ^ (u + 1) := by
   rw [Int.pow_succ] at hpu ⊢
   rw [hbu]
   exact u64 hm1 hpu
  simp only [D] at hDl ⊢
  have e2 : IntKind.u64.wrap (IntKind.u64.wrap (D b (fun i => wv (bt c i) b) u * IntKind.u64.wrap b) + IntKind.u64.wrap (wv (bt c (u : Int)) b)) = D b (fun i => wv (bt c i) b) u * b + wv (bt c (u : Int)) b := by
   rw [hwu, hbu, u64 hm0 (by omega)]
   exact u64 (by omega) (by omega)
  rw [ss_step k s b neg e acc pos _ _ cnt c _ _ _ (by omega) (by omega) (by omega) hk (by omega), e1, e2, w64 (by omega) (by omega)]
  rfl
theorem ss_outer (k : Nat) (s : ByteArray) (b : Int) (neg : Bool) (e : Int) (acc : List Int) (pos cnt : Nat) (h : pos < s.size) (he : e ≠ 0)
  (hcnt : wrap64 ((Int.tmod (wrap64 ((wrap64 ((s.size : Int) - (pos : Int))) - 1)) e) + 1) = (cnt : Int)) (e4 : wrap64 ((pos : Int) + (cnt : Int)) = ((pos + cnt : Nat) : Int)) (hle : pos + cnt ≤ s.size) :
  bISetString.l0 (k + 1) s b neg e acc pos = bISetString.l1 k s b neg e acc pos 0 1 cnt (s.extract pos (pos + cnt)) ((s.extract pos (pos + cnt)).size : Int) 0 := by
 rw [bISetString.l0, if_pos (by omega), if_neg he, if_pos (by omega), hcnt, e4, if_pos (by omega), if_pos (by omega)]
 simp only [Int.toNat_natCast]
theorem ss_cnt {n pos e : Nat} (h : pos < n) (hn : n < 1073741824) (he1 : 1 ≤ e) (he : e ≤ 64) :
  wrap64 ((Int.tmod (wrap64 ((wrap64 ((n : Int) - (pos : Int))) - 1)) (e : Int)) + 1) = (((n - pos - 1) % e + 1 : Nat) : Int) := by
 have h2 : (n - pos - 1) % e < e := Nat.mod_lt _ (by omega)
 rw [w64 (n := (n : Int) - (pos : Int)) (by omega) (by omega), w64 (n := (n : Int) - (pos : Int) - 1) (by omega) (by omega)]
 rw [show (n : Int) - (pos : Int) - 1 = ((n - pos - 1 : Nat) : Int) by omega]
 have h1 : Int.tmod ((n - pos - 1 : Nat) : Int) (e : Int) = (((n - pos - 1) % e : Nat) : Int) := by
  rw [Int.tmod_eq_emod_of_nonneg (by omega), Int.natCast_emod]
 rw [h1, w64 (by omega) (by omega)]
 omega
theorem ss_tail_ev {s : ByteArray} {b : Int} {neg : Bool} {e : Int} {acc : List Int} {nxt v p : Int} {x1 x2 x3 : List Int} {r : List Int × Bool} (h1 : Ev (fun k => big_times.f k acc [p]) x1) (h2 : Ev (fun k => big_trim.f k [v]) x2)
  (h3 : Ev (fun k => big_plus.f k x1 x2) x3) (h4 : Ev (fun k => bISetString.l0 k s b neg e x3 nxt) r) : Ev (ssTail s b neg e acc nxt v p) r :=
 Ev.bind (g := fun k t => (big_trim.f k [v]).bind fun u => (big_plus.f k t u).bind fun x => bISetString.l0 k s b neg e x nxt) h1
  (Ev.bind (g := fun k u => (big_plus.f k x1 u).bind fun x => bISetString.l0 k s b neg e x nxt) h2 (Ev.bind (g := fun k x => bISetString.l0 k s b neg e x nxt) h3 h4))
theorem ss_chunk (s : ByteArray) (b : Int) (hb : 2 ≤ b) (hb' : b ≤ 36) (hs : s.size < 1073741824) (hg : ∀ i : Nat, i < s.size → 0 ≤ wv (bt s i) b) (e : Nat) (he : b ^ e < 18446744073709551616) (neg : Bool)
  (pos cnt : Nat) (acc : List Int) (c : ByteArray) (hle2 : pos + cnt ≤ s.size) (hle : cnt ≤ e) (hc1 : 1 ≤ cnt) (hsz : c.size = cnt) (hbt : ∀ i : Nat, i < cnt → bt c (i : Int) = bt s ((pos + i : Nat) : Int))
  (hc : Can 18446744073709551616 acc (D b (fun i => wv (bt s i) b) pos)) :
  ∃ x3, (∀ (nxt : Int) (r : List Int × Bool), wrap64 ((pos : Int) + (cnt : Int)) = nxt → Ev (fun k => bISetString.l0 k s b neg e x3 nxt) r → Ev (fun k => bISetString.l1 k s b neg e acc pos 0 1 cnt c c.size 0) r) ∧
   Can 18446744073709551616 x3 (D b (fun i => wv (bt s i) b) (pos + cnt)) := by
 have hpc := pow_lt_of_le (show 1 ≤ b by omega) hle he
 have hal : acc.length ≤ pos := by
  refine Can_len (by omega) hc ?_
  have h1 := D_lt (b := b) (g := fun i => wv (bt s i) b) (t := pos) (by omega) (fun j _ => wv_lt _ b (by omega))
  have h2 := pow_mono (show 0 ≤ b by omega) (show b ≤ 18446744073709551616 by omega) pos
  exact Int.lt_of_lt_of_le h1 h2
 have hgc : ∀ i : Nat, i < c.size → 0 ≤ wv (bt c i) b := fun i hi => by rw [hbt i (by omega)]; exact hg (pos + i) (by omega)
 have hD0 := D_nonneg (b := b) (g := fun i => wv (bt c i) b) (t := cnt) (by omega) (fun j hj => hgc j (by omega))
 have hDl := D_lt (b := b) (g := fun i => wv (bt c i) b) (t := cnt) (by omega) (fun j _ => wv_lt _ b (by omega))
 have hv : D b (fun i => wv (bt s i) b) pos * b ^ cnt + D b (fun i => wv (bt c i) b) cnt = D b (fun i => wv (bt s i) b) (pos + cnt) := by
  rw [D_add]
  congr 1
  exact D_congr (fun j hj => by show wv _ b = wv _ b; rw [hbt j hj])
 obtain ⟨x1, ht1, hc1', hl1⟩ := times_ev hc.1.1 (m := b ^ cnt) (Int.le_of_lt (pow_pos' (by omega) cnt)) hpc (by omega)
 obtain ⟨x2, ht2, hc2', hl2⟩ := trim_ev 18446744073709551616 1 (l := [D b (fun i => wv (bt c i) b) cnt]) (n := D b (fun i => wv (bt c i) b) cnt) rfl (by omega) ⟨Dig_one hD0 (Int.lt_trans hDl hpc), by simp [V]⟩
 obtain ⟨x3, ht3, hc3', hl3⟩ := plus_ev hc1'.1.1 hc2'.1.1 (by omega) (by omega)
 rw [hc1'.1.2, hc2'.1.2, hc.1.2, hv] at hc3'
 refine ⟨x3, fun nxt r hn hr => ?_, hc3'⟩
 subst hsz
 have h := ss_l1 s b hb hb' neg e acc pos c.size nxt hn c hgc (by omega) hpc r (ss_tail_ev ht1 ht2 ht3 hr) c.size 0 (by omega)
 simpa only [D, Int.pow_zero, Int.natCast_zero, Int.cast_ofNat_Int] using h
theorem ss_l0 (s : ByteArray) (b : Int) (hb : 2 ≤ b) (hb' : b ≤ 36) (neg : Bool) (hs0 : 0 < s.size) (hs : s.size < 1073741824) (hg : ∀ i : Nat, i < s.size → 0 ≤ wv (bt s i) b)
  (e : Nat) (he1 : 1 ≤ e) (he : b ^ e < 18446744073709551616) (he64 : e ≤ 64) :
  ∀ (m pos : Nat) (acc : List Int), s.size - pos ≤ m → pos ≤ s.size → Can 18446744073709551616 acc (D b (fun i => wv (bt s i) b) pos) →
   ∃ r, Ev (fun k => bISetString.l0 k s b neg e acc pos) (r, neg) ∧ Can 18446744073709551616 r (D b (fun i => wv (bt s i) b) s.size) := by
 intro m
 induction m with
 | zero =>
  intro pos acc hm hp hc
  have : pos = s.size := by omega
  subst this
  refine ⟨acc, Ev.succ (Ev.congr (Ev.pure _) fun k => ?_), hc⟩
  rw [bISetString.l0, if_neg (by omega), if_neg ?_]
  intro h0
  have := (toList_nil_iff_emptyBytes s).1 h0
  subst this
  simp at hs0
 | succ m ih =>
  intro pos acc hm hp hc
  rcases Nat.lt_or_ge pos s.size with hlt | hge
  ·obtain ⟨cnt, hcn⟩ : ∃ cnt, cnt = (s.size - pos - 1) % e + 1 := ⟨_, rfl⟩
   have hle : cnt ≤ e := by have := Nat.mod_lt (s.size - pos - 1) (show 0 < e by omega); omega
   have hle2 : pos + cnt ≤ s.size := by have := Nat.mod_le (s.size - pos - 1) e; omega
   have hc1 : 1 ≤ cnt := by omega
   have hne : (e : Int) ≠ 0 := by omega
   have hdone : s.size - (pos + cnt) ≤ m := by omega
   have hsz : (s.extract pos (pos + cnt)).size = cnt := by rw [ByteArray.size_extract]; omega
   have hbt : ∀ i : Nat, i < cnt → bt (s.extract pos (pos + cnt)) (i : Int) = bt s ((pos + i : Nat) : Int) := fun i hi => bt_extract s (by omega) (by omega)
   have e4 : wrap64 ((pos : Int) + (cnt : Int)) = ((pos + cnt : Nat) : Int) := by rw [w64 (by omega) (by omega)]; omega
   have hcnt := ss_cnt hlt hs he1 he64
   rw [← hcn] at hcnt
   have hout := fun k => ss_outer k s b neg e acc pos cnt hlt hne hcnt e4 hle2
   generalize hce : s.extract pos (pos + cnt) = c at hsz hbt hout
   obtain ⟨x3, hx3, hc3⟩ := ss_chunk s b hb hb' hs hg e he neg pos cnt acc c hle2 hle hc1 hsz hbt hc
   obtain ⟨r, hr, hcr⟩ := ih (pos + cnt) x3 hdone hle2 hc3
   refine ⟨r, Ev.succ (Ev.congr ?_ hout), hcr⟩
   exact hx3 _ (r, neg) e4 hr
  ·exact ih pos acc (by omega) hp hc
def bodyOf (s : ByteArray) : ByteArray := if 0 < s.size ∧ bt s 0 = 45 then s.extract 1 s.size else s
theorem ss_ev (s : ByteArray) (b : Int) (hb : 2 ≤ b) (hb' : b ≤ 36) (hs0 : 0 < (bodyOf s).size) (hs : s.size < 1073741824) (hg : ∀ i : Nat, i < (bodyOf s).size → 0 ≤ wv (bt (bodyOf s) i) b) :
  ∃ r, Ev (fun k => bISetString.f k 0 s b) (r, (bt s 0 == 45)) ∧ Can 18446744073709551616 r (D b (fun i => wv (bt (bodyOf s) i) b) (bodyOf s).size) := by
 obtain ⟨e, h1, h2, h3, _, h5⟩ := chunk_ev b hb hb'
 have hsz : 0 < s.size := by
  rcases Nat.eq_zero_or_pos s.size with h | h
  ·exfalso
   unfold bodyOf at hs0
   rw [if_neg (by omega)] at hs0
   omega
  ·exact h
 have hbs : (bodyOf s).size ≤ s.size := by unfold bodyOf; split <;> simp
 obtain ⟨r, hr, hcr⟩ := ss_l0 (bodyOf s) b hb hb' (bt s 0 == 45) hs0 (by omega) hg e h1 h3 h2 (bodyOf s).size 0 [] (by omega) (by omega) (Can_nil _)
 refine ⟨r, Ev.succ (Ev.succ (Ev.congr (Ev.bind (g := fun k a => bISetString.l0 k (bodyOf s) b (bt s 0 == 45) a.2 [] 0) h5 hr) fun k => ?_)), hcr⟩
 unfold bISetString.f
 rw [if_pos (by omega), if_pos (by omega), bISetString.j0]
 by_cases hm : bt s 0 = 45
 ·rw [if_pos (by simp [hm]), if_pos (by omega), bISetString.j1]
  unfold bodyOf
  rw [if_pos ⟨hsz, hm⟩]
 ·rw [if_neg (by simp [hm]), bISetString.j1]
  unfold bodyOf
  rw [if_neg (by simp [hm])]
end Go.Proofs.Ytokmpejgfkfmbaa.BM
end
section
namespace Go.Proofs.Ytokmpejgfkfmbaa.BM
open Go.RowKit Go.Proofs.YtokmpejgfkfmbaaW.PrintWords Go.Proofs.YtokmpejgfkfmbaaW.PrintLast Go.Proofs.YtokmpejgfkfmbaaW.PrintMore
open Go.Proofs.Ytokmpejgfkfmbaa.BA
def tab8 : ByteArray := (⟨#[0, 1, 2, 2, 3, 3, 3, 3, 4, 4, 4, 4, 4, 4, 4, 4, 5, 5, 5, 5, 5, 5, 5, 5, 5, 5, 5, 5, 5, 5, 5, 5, 6, 6, 6, 6, 6, 6, 6, 6, 6, 6, 6, 6, 6, 6, 6, 6, 6, 6, 6, 6, 6, 6, 6, 6, 6, 6, 6, 6, 6, 6, 6, 6, 7, 7, 7, 7, 7, 7, 7, 7, 7, 7, 7, 7, 7, 7, 7, 7, 7, 7, 7, 7, 7, 7, 7, 7, 7, 7, 7, 7, 7, 7, 7, 7, 7, 7, 7, 7, 7, 7, 7, 7, 7, 7, 7, 7, 7, 7, 7, 7, 7, 7, 7, 7, 7, 7, 7, 7, 7, 7, 7, 7, 7, 7, 7, 7, 8, 8, 8, 8, 8, 8, 8, 8, 8, 8, 8, 8, 8, 8, 8, 8, 8, 8, 8, 8, 8, 8, 8, 8, 8, 8, 8, 8, 8, 8, 8, 8, 8, 8, 8, 8, 8, 8, 8, 8, 8, 8, 8, 8, 8, 8, 8, 8, 8, 8, 8, 8, 8, 8, 8, 8, 8, 8, 8, 8, 8, 8, 8, 8, 8, 8, 8, 8, 8, 8, 8, 8, 8, 8, 8, 8, 8, 8, 8, 8, 8, 8, 8, 8, 8, 8, 8, 8, 8, 8, 8, 8, 8, 8, 8, 8, 8, 8, 8, 8, 8, 8, 8, 8, 8, 8, 8, 8, 8, 8, 8, 8, 8, 8, 8, 8, 8, 8, 8, 8, 8, 8, 8, 8, 8, 8, 8, 8]⟩ : ByteArray)
theorem tab8_bt (i : Int) (h0 : 0 ≤ i) (h1 : i < 256) : bt tab8 i = (bitLen i.toNat : Int) := by
 have hs : tab8.size = 256 := by decide +kernel
 have h : i.toNat < tab8.size := by omega
 unfold bt
 rw [dif_pos h]
 exact congrArg Int.ofNat (len8tab_get i.toNat h)
theorem len_j0 (k : Nat) (y c : Int) (h0 : 0 ≤ y) (h1 : y < 4294967296) (hc0 : 0 ≤ c) (hc : c ≤ 32) : bits_Len64.j0 (k + 1) y c = some (c + bitLen y.toNat) := by
 have e : bits_Len64.j0 (k + 1) y c = if y ≥ 65536 then (if (y / 65536) ≥ 256 then (if 0 ≤ (((y / 65536) / 256) % 256) then (if (((y / 65536) / 256) % 256) < 256 then (some (wrap64 ((wrap64 ((wrap64 (c + 16)) + 8)) + (wrap64 (bt tab8 (((y / 65536) / 256) % 256)))))) else none) else none)
   else (if 0 ≤ ((y / 65536) % 256) then (if ((y / 65536) % 256) < 256 then (some (wrap64 ((wrap64 (c + 16)) + (wrap64 (bt tab8 ((y / 65536) % 256)))))) else none) else none))
   else (if y ≥ 256 then (if 0 ≤ ((y / 256) % 256) then (if ((y / 256) % 256) < 256 then (some (wrap64 ((wrap64 (c + 8)) + (wrap64 (bt tab8 ((y / 256) % 256)))))) else none) else none)
   else (if 0 ≤ ((y) % 256) then (if ((y) % 256) < 256 then (some (wrap64 (c + (wrap64 (bt tab8 ((y) % 256)))))) else none) else none)) := by
  rw [bits_Len64.j0]; rfl
 have fin : ∀ (z d : Int) (b : Nat), 0 ≤ z → z < 256 → 0 ≤ d → d ≤ 64 → bitLen y.toNat = b + bitLen z.toNat → c + b = d → wrap64 (d + wrap64 (bt tab8 z)) = c + bitLen y.toNat := by
  intro z d b hz0 hz hd0 hd hb hcd
  have h8 := bitLen_le8 z.toNat (by omega)
  rw [tab8_bt z hz0 hz, w64 (n := (bitLen z.toNat : Int)) (by omega) (by omega), w64 (by omega) (by omega), hb]
  omega
 have sh : ∀ (b : Nat) (z : Int), (z = y / 2 ^ b) → 0 < z → bitLen y.toNat = b + bitLen z.toNat := by
  intro b z hz hz0
  have ez : z.toNat = y.toNat / 2 ^ b := by
   subst hz
   have : ((y.toNat / 2 ^ b : Nat) : Int) = y / 2 ^ b := by rw [Int.natCast_ediv, Int.toNat_of_nonneg h0, Int.natCast_pow]; rfl
   omega
  rw [bitLen_shift y.toNat b (by omega), ez]
 rw [e]
 clear e
 by_cases g1 : y ≥ 65536
 ·rw [if_pos g1]
  by_cases g2 : y / 65536 ≥ 256
  ·rw [if_pos g2, if_pos (by omega), if_pos (by omega), w64 (n := c + 16) (by omega) (by omega), w64 (n := c + 16 + 8) (by omega) (by omega)]
   exact congrArg some (fin _ _ 24 (by omega) (by omega) (by omega) (by omega) (by rw [show y / 65536 / 256 % 256 = y / 16777216 by omega]; exact sh 24 _ (by rfl) (by omega)) (by omega))
  ·rw [if_neg g2, if_pos (by omega), if_pos (by omega), w64 (n := c + 16) (by omega) (by omega)]
   exact congrArg some (fin _ _ 16 (by omega) (by omega) (by omega) (by omega) (by rw [show y / 65536 % 256 = y / 65536 by omega]; exact sh 16 _ (by rfl) (by omega)) (by omega))
 ·rw [if_neg g1]
  by_cases g2 : y ≥ 256
  ·rw [if_pos g2, if_pos (by omega), if_pos (by omega), w64 (n := c + 8) (by omega) (by omega)]
   exact congrArg some (fin _ _ 8 (by omega) (by omega) (by omega) (by omega) (by rw [show y / 256 % 256 = y / 256 by omega]; exact sh 8 _ (by rfl) (by omega)) (by omega))
  ·rw [if_neg g2, if_pos (by omega), if_pos (by omega)]
   exact congrArg some (fin _ _ 0 (by omega) (by omega) (by omega) (by omega) (by rw [show y % 256 = y by omega]; omega) (by omega))
theorem len_ev (x : Int) (h0 : 0 ≤ x) (h1 : x < 18446744073709551616) : Ev (fun k => bits_Len64.f k x) (bitLen x.toNat : Int) := by
 refine Ev.succ (Ev.congr (Ev.pure _) fun k => ?_)
 unfold bits_Len64.f
 by_cases g : x ≥ 4294967296
 ·rw [if_pos g, len_j0 k _ _ (by omega) (by omega) (by omega) (by omega)]
  have ez : (x / 4294967296).toNat = x.toNat / 2 ^ 32 := by
   have : ((x.toNat / 2 ^ 32 : Nat) : Int) = x / 4294967296 := by omega
   omega
  have := bitLen_shift x.toNat 32 (by omega)
  rw [ez, this]
  congr 1
 ·rw [if_neg g, len_j0 k _ _ (by omega) (by omega) (by omega) (by omega)]
  congr 1
  omega
theorem bitLen_le64 {x : Nat} (h : x < 18446744073709551616) : bitLen x ≤ 64 := by
 unfold bitLen
 split
 ·omega
 ·rename_i h0
  have := (Nat.log2_lt h0).2 (show x < 2 ^ 64 from h)
  omega
theorem bitLen_pos {x : Nat} (h : x ≠ 0) : 1 ≤ bitLen x := by unfold bitLen; rw [if_neg h]; omega
theorem lz_ev (x : Int) (h0 : 0 ≤ x) (h1 : x < 18446744073709551616) : Ev (fun k => bits_LeadingZeros64.f k x) (64 - bitLen x.toNat : Int) := by
 refine Ev.bind (g := fun _ t => some (wrap64 (64 - t))) (len_ev x h0 h1) (Ev.const ?_)
 have := bitLen_le64 (x := x.toNat) (by omega)
 rw [w64 (by omega) (by omega)]
def topOf (l : List Int) : Int := rd l ((l.length : Int) - 1)
theorem size_ev {l : List Int} (hl : l ≠ []) (hd : Dig 18446744073709551616 l) (hlen : l.length < 1099511627776) :
  Ev (fun k => big_size.f k l) (64 * ((l.length : Int) - 1) + bitLen (topOf l).toNat) := by
 have h0 : 0 < l.length := List.length_pos_iff.2 hl
 have hr := rd_dig hd (i := (l.length : Int) - 1) (by omega) (by omega)
 have hb := bitLen_le64 (x := (topOf l).toNat) (by unfold topOf; omega)
 have := Ev.bind (g := fun _ t => some (wrap64 ((wrap64 (64 * (l.length : Int))) - t))) (lz_ev (topOf l) hr.1 hr.2) (Ev.const (r := 64 * ((l.length : Int) - 1) + bitLen (topOf l).toNat) (by rw [w64 (n := 64 * (l.length : Int)) (by omega) (by omega), w64 (by omega) (by omega)]; congr 1; omega))
 refine Ev.congr this fun k => ?_
 have e : wrap64 ((l.length : Int) - 1) = (l.length : Int) - 1 := w64 (by omega) (by omega)
 have c1 : ¬ (l.length : Int) = 0 := by omega
 have c2 : 0 ≤ (l.length : Int) - 1 := by omega
 have c3 : (l.length : Int) - 1 < (l.length : Int) := by omega
 unfold big_size.f
 rw [if_neg c1, e, if_pos c2, if_pos c3]
 rfl
theorem or_byte {a b : Int} (h0 : 0 ≤ a) (h1 : a < 72057594037927936) (hb0 : 0 ≤ b) (hb : b < 256) : Go.bits .or .u64 (IntKind.u64.wrap (a * 256)) (IntKind.u64.wrap b) = a * 256 + b := by
 rw [u64 (by omega) (by omega), u64 (by omega) (by omega)]
 obtain ⟨n, rfl⟩ := Int.eq_ofNat_of_zero_le h0
 obtain ⟨m, rfl⟩ := Int.eq_ofNat_of_zero_le hb0
 have := bits_or_u64_nat (n * 256) m (by omega) (by omega)
 rw [show ((n : Nat) : Int) * 256 = ((n * 256 : Nat) : Int) by omega, this]
 have h2 := Nat.two_pow_add_eq_or_of_lt (i := 8) (b := m) (by omega) n
 rw [show n * 256 = 2 ^ 8 * n by omega, ← h2]
 omega
theorem pow256 (m : Nat) : (2 : Int) ^ (8 * m) = 256 ^ m := by rw [Int.pow_mul]; rfl
def byteAt (l : List Int) (j : Nat) : Int := rd l ((j / 8 : Nat) : Int) / 256 ^ (j % 8) % 256
theorem byteAt_range (l : List Int) (j : Nat) : 0 ≤ byteAt l j ∧ byteAt l j < 256 := by unfold byteAt; omega
theorem shr_byte (x : Int) (m : Nat) (h : m < 8) : shr .u64 x ((8 * m : Nat) : Int) % 256 = x / 256 ^ m % 256 := by
 unfold shr
 rw [show min ((8 * m : Nat) : Int).toNat IntKind.u64.bits = 8 * m by simp [IntKind.bits]; omega, pow256]
def bytesOf (l : List Int) (nb : Nat) : List Int := (List.range nb).map fun i => byteAt l (nb - 1 - i)
theorem bytes_step (k : Nat) (l x4 : List Int) (nb i j : Nat) (hi : i < nb) (h4 : x4.length = nb) (hj : j = nb - 1 - i) (hj8 : j / 8 < l.length) (hn : nb < 1099511627776) :
  bIBytes.l0 (k + 1) l nb x4 nb i = bIBytes.l0 k l nb (x4.set i (byteAt l j)) nb ((i + 1 : Nat) : Int) := by
 have e1 : wrap64 ((wrap64 ((nb : Int) - 1)) - (i : Int)) = (j : Int) := by rw [w64 (n := (nb : Int) - 1) (by omega) (by omega), w64 (by omega) (by omega)]; omega
 have e2 : wrap64 (Int.tdiv ((j : Nat) : Int) 8) = ((j / 8 : Nat) : Int) := by rw [Int.tdiv_eq_ediv_of_nonneg (by omega), w64 (by omega) (by omega)]; omega
 have e3 : wrap64 (8 * (Int.tmod ((j : Nat) : Int) 8)) = ((8 * (j % 8) : Nat) : Int) := by rw [Int.tmod_eq_emod_of_nonneg (by omega), w64 (by omega) (by omega)]; omega
 have e4 : wrap64 ((i : Int) + 1) = ((i + 1 : Nat) : Int) := by rw [w64 (by omega) (by omega)]; omega
 have c1 : (i : Int) < (nb : Int) := by clear e1 e2 e3 e4; omega
 have c2 : ((j / 8 : Nat) : Int) < (l.length : Int) := by clear e1 e2 e3 e4; omega
 have c3 : (i : Int) < (x4.length : Int) := by clear e1 e2 e3 e4; omega
 rw [bIBytes.l0, if_pos c1, e1, e2, e3, e4, if_pos (Int.natCast_nonneg _), if_pos c2, if_pos (Int.natCast_nonneg _), if_pos (Int.natCast_nonneg _), if_pos c3, shr_byte _ _ (Nat.mod_lt _ (by decide))]
 rfl
theorem bytes_loop (l : List Int) (nb : Nat) (hn : nb < 1099511627776) (hl : ∀ j, j < nb → j / 8 < l.length) : ∀ (m i : Nat), i + m = nb →
  Ev (fun k => bIBytes.l0 k l nb ((List.range i).map (fun i => byteAt l (nb - 1 - i)) ++ List.replicate m 0) nb i) (bytesOf l nb) := by
 intro m
 induction m with
 | zero =>
  intro i hi
  refine Ev.succ (Ev.congr (Ev.pure _) fun k => ?_)
  have : i = nb := by omega
  subst this
  rw [bIBytes.l0, if_neg (Int.lt_irrefl _)]
  simp [bytesOf]
 | succ m ih =>
  intro i hi
  refine Ev.succ (Ev.congr (ih (i + 1) (by omega)) fun k => ?_)
  rw [bytes_step k l _ nb i (nb - 1 - i) (by omega) (by simp; omega) rfl (hl _ (by omega)) hn]
  have e := set_pad ((List.range i).map (fun i => byteAt l (nb - 1 - i))) (byteAt l (nb - 1 - i)) m
  rw [List.length_map, List.length_range] at e
  rw [e, List.range_succ, List.map_append]
  rfl
def nbOf (l : List Int) : Nat := 8 * (l.length - 1) + (bitLen (topOf l).toNat + 7) / 8
theorem bytes_ev {l : List Int} (hl : l ≠ []) (hd : Dig 18446744073709551616 l) (hlen : l.length < 1073741824) : Ev (fun k => bIBytes.f k l) (bytesOf l (nbOf l)) := by
 have h0 : 0 < l.length := List.length_pos_iff.2 hl
 have hr := rd_dig hd (i := (l.length : Int) - 1) (by omega) (by omega)
 have hb := bitLen_le64 (x := (topOf l).toNat) (by unfold topOf; omega)
 have hloop := bytes_loop l (nbOf l) (by unfold nbOf; omega) (fun j hj => by unfold nbOf at hj; omega) (nbOf l) 0 (by omega)
 have e : wrap64 (Int.tdiv (wrap64 (64 * ((l.length : Int) - 1) + (bitLen (topOf l).toNat : Int) + 7)) 8) = ((nbOf l : Nat) : Int) := by
  rw [w64 (n := 64 * ((l.length : Int) - 1) + (bitLen (topOf l).toNat : Int) + 7) (by omega) (by omega), Int.tdiv_eq_ediv_of_nonneg (by omega), w64 (by omega) (by omega)]
  unfold nbOf; omega
 have c : (((nbOf l : Nat) : Int)).toNat ≤ 281474976710656 := by clear e; unfold nbOf; omega
 refine Ev.bind (g := fun k t121 => (if 0 ≤ (wrap64 (Int.tdiv (wrap64 (t121 + 7)) 8)) then (if (wrap64 (Int.tdiv (wrap64 (t121 + 7)) 8) : Int).toNat ≤ 281474976710656 then (bIBytes.l0 k l (wrap64 (Int.tdiv (wrap64 (t121 + 7)) 8)) (List.replicate (wrap64 (Int.tdiv (wrap64 (t121 + 7)) 8) : Int).toNat 0) (wrap64 (Int.tdiv (wrap64 (t121 + 7)) 8)) 0) else none) else none)) (size_ev hl hd (by omega)) (Ev.congr hloop fun k => ?_)
 rw [e, if_pos (Int.natCast_nonneg _), if_pos c, Int.toNat_natCast]
 simp
end Go.Proofs.Ytokmpejgfkfmbaa.BM
end
section
namespace Go.Proofs.Ytokmpejgfkfmbaa.BM
open Go.RowKit Go.Proofs.YtokmpejgfkfmbaaW.PrintWords Go.Proofs.YtokmpejgfkfmbaaW.PrintLast Go.Proofs.YtokmpejgfkfmbaaW.PrintMore
open Go.Proofs.Ytokmpejgfkfmbaa.BA
theorem limbs_step (k : Nat) (x3 x4 : List Int) (x5 x6 y z : Int) (c : List Int) (u : Nat) (hu : u < c.length) (hl : c.length < 100) (hz : rd c u = z) (hy : Go.bits .or .u64 (IntKind.u64.wrap (x6 * 256)) (IntKind.u64.wrap z) = y) :
  exact_Limbs.l1 (k + 1) x3 x4 x5 x6 c c.length u = exact_Limbs.l1 k x3 x4 x5 y c c.length ((u + 1 : Nat) : Int) := by
 have e : wrap64 ((u : Int) + 1) = ((u + 1 : Nat) : Int) := by rw [w64 (by omega) (by omega)]; omega
 rw [exact_Limbs.l1, if_pos (Int.ofNat_lt.2 hu), if_pos (Int.natCast_nonneg _), if_pos (Int.ofNat_lt.2 hu), hz, hy, e]
theorem div_step (x : Int) (m : Nat) : x / 256 ^ (m + 1) * 256 + x / 256 ^ m % 256 = x / 256 ^ m := by
 rw [Int.pow_succ, ← Int.ediv_ediv_of_nonneg (Int.pow_nonneg (by omega))]
 omega
theorem div_small {x : Int} {m : Nat} (h0 : 0 ≤ x) (h1 : x < 18446744073709551616) : x / 256 ^ (m + 1) < 72057594037927936 := by
 have hp := pow_pos' (show (0 : Int) < 256 by omega) m
 rw [Int.pow_succ, Int.mul_comm, ← Int.ediv_ediv_of_nonneg (by omega)]
 have := Int.ediv_le_self (a := x / 256) (256 ^ m) (by omega)
 omega
theorem limb_loop (x : Int) (h0 : 0 ≤ x) (h1 : x < 18446744073709551616) (x3 x4 : List Int) (x5 : Int) (c : List Int) (hl : c.length < 100) (hc : ∀ u : Nat, u < c.length → rd c (u : Int) = x / 256 ^ (c.length - 1 - u) % 256)
  (h3 : x3.length < 17592186044416) (nxt : Int) (hnx : wrap64 (x5 - 8) = nxt) (r : List Int) (hr : Ev (fun k => exact_Limbs.l0 k (x3 ++ [x]) x4 nxt) r) :
  ∀ (m u : Nat), u + m = c.length → Ev (fun k => exact_Limbs.l1 k x3 x4 x5 (x / 256 ^ m) c c.length u) r := by
 intro m
 induction m with
 | zero =>
  intro u hu
  have : u = c.length := by omega
  subst this
  refine Ev.succ (Ev.congr hr fun k => ?_)
  rw [exact_Limbs.l1, if_neg (Int.lt_irrefl _), if_pos h3, hnx]
  simp
 | succ m ih =>
  intro u hu
  have hd0 : 0 ≤ x / 256 ^ (m + 1) := Int.ediv_nonneg h0 (Int.pow_nonneg (by omega))
  refine Ev.succ (Ev.congr (ih (u + 1) (by omega)) fun k => ?_)
  refine limbs_step k x3 x4 x5 _ _ (x / 256 ^ m % 256) c u (by omega) hl ?_ ?_
  ·rw [hc u (by omega), show c.length - 1 - u = m by omega]
  ·rw [or_byte hd0 (div_small h0 h1) (by omega) (by omega), div_step]
theorem rd_bytes (l : List Int) (nb i : Nat) (h : i < nb) : (bytesOf l nb)[i]'(by simp [bytesOf]; exact h) = byteAt l (nb - 1 - i) := by simp [bytesOf]
theorem limbs_out (k : Nat) (x3 x4 : List Int) (x5 lo : Nat) (c : List Int) (h : 0 < x5) (hx : x5 < 1099511627776) (hlo : lo = x5 - 8) (h4 : x5 ≤ x4.length) (hc : (x4.take x5).drop lo = c) :
  exact_Limbs.l0 (k + 1) x3 x4 x5 = exact_Limbs.l1 k x3 x4 x5 0 c c.length 0 := by
 have e : mx (wrap64 ((x5 : Int) - 8)) 0 = (lo : Int) := by
  rw [w64 (by omega) (by omega)]
  unfold mx
  split <;> omega
 have c0 : (x5 : Int) > 0 := by omega
 have c1 : (lo : Int) ≤ (x5 : Int) := by omega
 have c2 : (x5 : Int) ≤ (x4.length : Int) := by omega
 rw [exact_Limbs.l0, if_pos c0, e, if_pos (Int.natCast_nonneg _), if_pos c1, if_pos c2, Int.toNat_natCast, Int.toNat_natCast, hc]
theorem pow_bits {x : Int} (h0 : 0 ≤ x) (c : Nat) (h : bitLen x.toNat ≤ 8 * c) : x < 256 ^ c := by
 have h1 := (bitLen_spec x.toNat).1
 have h2 : (2 : Nat) ^ bitLen x.toNat ≤ 2 ^ (8 * c) := Nat.pow_le_pow_right (by omega) h
 have h3 : x.toNat < 2 ^ (8 * c) := Nat.lt_of_lt_of_le h1 h2
 rw [← pow256]
 have : ((2 ^ (8 * c) : Nat) : Int) = (2 : Int) ^ (8 * c) := by rw [Int.natCast_pow]; rfl
 omega
theorem limbs_loop {l : List Int} (hl : l ≠ []) (hd : Dig 18446744073709551616 l) (ht : Top l) (hlen : l.length < 1073741824) :
  ∀ (m t : Nat), t + m = l.length → Ev (fun k => exact_Limbs.l0 k (l.take t) (bytesOf l (nbOf l)) ((nbOf l : Int) - 8 * (t : Int))) l := by
 have h0 : 0 < l.length := List.length_pos_iff.2 hl
 have hr := rd_dig hd (i := (l.length : Int) - 1) (by omega) (by omega)
 have hb := bitLen_le64 (x := (topOf l).toNat) (by unfold topOf; omega)
 have htop : topOf l ≠ 0 := by have := ht hl; rwa [getLast_rd] at this
 have hb1 := bitLen_pos (x := (topOf l).toNat) (by unfold topOf at htop ⊢; omega)
 have hnb : nbOf l = 8 * (l.length - 1) + (bitLen (topOf l).toNat + 7) / 8 := rfl
 have hnl : (bytesOf l (nbOf l)).length = nbOf l := by simp [bytesOf]
 intro m
 induction m with
 | zero =>
  intro t htt
  have : t = l.length := by omega
  subst this
  refine Ev.succ (Ev.congr (Ev.pure _) fun k => ?_)
  rw [exact_Limbs.l0, if_neg (by omega), List.take_length]
 | succ m ih =>
  intro t htt
  have hx := rd_dig hd (i := (t : Int)) (by omega) (by omega)
  have h5 : 8 * t < nbOf l := by omega
  have hih := ih (t + 1) (by omega)
  rw [show l.take (t + 1) = l.take t ++ [rd l (t : Int)] from take_rd l (by omega)] at hih
  obtain ⟨x5, e5⟩ : ∃ x5, x5 = nbOf l - 8 * t := ⟨_, rfl⟩
  obtain ⟨c, ec⟩ : ∃ c, ((bytesOf l (nbOf l)).take x5).drop (x5 - 8) = c := ⟨_, rfl⟩
  have hcl : c.length = x5 - (x5 - 8) := by rw [← ec, List.length_drop, List.length_take, hnl]; omega
  have hcr : ∀ u : Nat, u < c.length → rd c (u : Int) = rd l (t : Int) / 256 ^ (c.length - 1 - u) % 256 := by
   intro u hu
   have h1 : rd c (u : Int) = (bytesOf l (nbOf l))[x5 - 8 + u]'(by rw [hnl]; omega) := by
    rw [rd_nat c hu]
    simp only [← ec, List.getElem_drop, List.getElem_take]
   have e8 : nbOf l - 1 - (x5 - 8 + u) = 8 * t + (c.length - 1 - u) := by omega
   rw [h1, rd_bytes l (nbOf l) _ (by omega), e8]
   unfold byteAt
   rw [show (8 * t + (c.length - 1 - u)) / 8 = t by omega, show (8 * t + (c.length - 1 - u)) % 8 = c.length - 1 - u by omega]
  have hzero : rd l (t : Int) / 256 ^ c.length = 0 := by
   refine Int.ediv_eq_zero_of_lt hx.1 ?_
   rcases Nat.lt_or_ge (t + 1) l.length with hlt | hge
   ·have : c.length = 8 := by omega
    rw [this]; exact hx.2
   ·have e : topOf l = rd l (t : Int) := by unfold topOf; rw [show (l.length : Int) - 1 = (t : Int) by omega]
    rw [← e]
    refine pow_bits (by rw [e]; exact hx.1) _ ?_
    omega
  have hnx : wrap64 ((x5 : Int) - 8) = (nbOf l : Int) - 8 * ((t + 1 : Nat) : Int) := by rw [w64 (by omega) (by omega)]; omega
  have hloop := limb_loop (rd l (t : Int)) hx.1 hx.2 (l.take t) (bytesOf l (nbOf l)) (x5 : Int) c (by clear hnx; omega) hcr (by clear hnx; rw [List.length_take]; omega) _ hnx l hih c.length 0 (by clear hnx; omega)
  rw [hzero] at hloop
  refine Ev.succ (Ev.congr hloop fun k => ?_)
  rw [show (nbOf l : Int) - 8 * (t : Int) = (x5 : Int) by clear hnx; omega]
  exact limbs_out k (l.take t) (bytesOf l (nbOf l)) x5 (x5 - 8) c (by clear hnx; omega) (by clear hnx; omega) rfl (by clear hnx; omega) ec
theorem limbs_ev {l : List Int} (hl : l ≠ []) (hd : Dig 18446744073709551616 l) (ht : Top l) (hlen : l.length < 1073741824) : Ev (fun k => exact_Limbs.f k (bytesOf l (nbOf l))) l := by
 have hnl : (bytesOf l (nbOf l)).length = nbOf l := by simp [bytesOf]
 refine Ev.congr (limbs_loop hl hd ht hlen l.length 0 (by omega)) fun k => ?_
 unfold exact_Limbs.f
 rw [hnl]
 simp
theorem clone_f (l : List Int) (h : l.length < 17592186044416) : sClone.f l = some l := by
 unfold sClone.f
 simp [h]
theorem bigLimbs_ev {l : List Int} {n : Int} (h : Can 18446744073709551616 l n) (hlen : l.length < 1073741824) : Ev (fun k => bigLimbs.f k l) l := by
 refine Ev.bind1 (clone_f l (by omega)) ?_
 refine Ev.bind (g := fun k m => (bIBytes.f k m).bind fun b => exact_Limbs.f k b) (trim_can (by omega) h (by omega)) ?_
 by_cases hl : l = []
 ·subst hl
  refine Ev.bind (g := fun k b => exact_Limbs.f k b) (a := []) ?_ ?_
  ·refine Ev.succ (Ev.congr (Ev.pure _) fun k => ?_)
   unfold bIBytes.f big_size.f
   rw [if_pos (show ((([] : List Int).length : Nat) : Int) = 0 from rfl)]
   simp [wrap64, bIBytes.l0]
  ·refine Ev.succ (Ev.congr (Ev.pure _) fun k => ?_)
   unfold exact_Limbs.f
   rw [exact_Limbs.l0]
   simp
 ·exact Ev.bind (g := fun k b => exact_Limbs.f k b) (bytes_ev hl h.1.1 hlen) (limbs_ev hl h.1.1 h.2 hlen)
theorem told_ev {l : List Int} {n : Int} (h : Can 18446744073709551616 l n) (hlen : l.length ≤ 4096) (neg : Bool) : Ev (fun k => exact_Told.f k (neg && decide (0 < l.length)) l) (neg && decide (0 < l.length), l, true) := by
 unfold exact_Told.f bigSign.f
 simp only [Option.bind_some]
 refine Ev.bind (g := fun _ (t103 : List Int) => if (t103.length : Int) > 4096 then some (false, ([] : List Int), false) else some (decide ((if l.length = 0 then (0 : Int) else if (neg && decide (0 < l.length)) = true then -1 else 1) < 0), t103, true)) (bigLimbs_ev h (by omega)) (Ev.const ?_)
 rw [if_neg (by omega)]
 congr 2
 by_cases h0 : l.length = 0
 ·simp [h0]
 ·rw [if_neg h0]
  cases neg <;> simp [show 0 < l.length by omega]
theorem bigRead_of {s : ByteArray} {b : Int} {q1 m : List Int} {q2 : Bool} {r : Bool × List Int × Bool} (h1 : Ev (fun k => bISetString.f k 0 s b) (q1, q2)) (h2 : Ev (fun k => big_trim.f k q1) m)
  (h3 : Ev (fun k => exact_Told.f k (q2 && decide (0 < m.length)) m) r) : Ev (fun k => bigRead.f k s b) r := by
 obtain ⟨K1, h1⟩ := h1
 obtain ⟨K2, h2⟩ := h2
 obtain ⟨K3, h3⟩ := h3
 refine ⟨max K1 (max K2 K3), fun k hk => ?_⟩
 have e1 : bISetString.f k 0 s b = some (q1, q2) := h1 k (by omega)
 have e2 : big_trim.f k q1 = some m := h2 k (by omega)
 have e3 : exact_Told.f k (q2 && decide (0 < m.length)) m = some r := h3 k (by omega)
 show bigRead.f k s b = some r
 unfold bigRead.f
 rw [e1, Option.bind_some, e2, Option.bind_some, e3]
theorem bigRead_ev (s : ByteArray) (b : Int) (hb : 2 ≤ b) (hb' : b ≤ 36) (hs0 : 0 < (bodyOf s).size) (hs : s.size ≤ 4096) (hg : ∀ i : Nat, i < (bodyOf s).size → 0 ≤ wv (bt (bodyOf s) i) b) :
  ∃ l, Ev (fun k => bigRead.f k s b) ((bt s 0 == 45) && decide (0 < l.length), l, true) ∧ Can 18446744073709551616 l (D b (fun i => wv (bt (bodyOf s) i) b) (bodyOf s).size) := by
 obtain ⟨l, h1, h2⟩ := ss_ev s b hb hb' hs0 (by omega) hg
 have hbs : (bodyOf s).size ≤ s.size := by unfold bodyOf; split <;> simp
 have hlen : l.length ≤ (bodyOf s).size := by
  refine Can_len (by omega) h2 ?_
  have h1 := D_lt (b := b) (g := fun i => wv (bt (bodyOf s) i) b) (t := (bodyOf s).size) (by omega) (fun j _ => wv_lt _ b (by omega))
  have h2 := pow_mono (show 0 ≤ b by omega) (show b ≤ 18446744073709551616 by omega) (bodyOf s).size
  exact Int.lt_of_lt_of_le h1 h2
 have hl4 : l.length ≤ 4096 := by omega
 have hl5 : l.length < 4611686018427387904 := by omega
 refine ⟨l, ?_, h2⟩
 exact bigRead_of h1 (trim_can (B := 18446744073709551616) (n := D b (fun i => wv (bt (bodyOf s) i) b) (bodyOf s).size) (by omega) h2 hl5) (told_ev h2 hl4 (bt s 0 == 45))
end Go.Proofs.Ytokmpejgfkfmbaa.BM
end
section
namespace Go.Proofs.Ytokmpejgfkfmbaa.BM
open Go.RowKit Go.Proofs.YtokmpejgfkfmbaaW.PrintWords Go.Proofs.YtokmpejgfkfmbaaW.PrintLast Go.Proofs.YtokmpejgfkfmbaaW.PrintMore
open Go.Proofs.Ytokmpejgfkfmbaa.BB
def Late (P : Nat → Prop) : Prop := ∃ K, ∀ k, K ≤ k → P k
theorem Late.and {P Q : Nat → Prop} (h : Late P) (h' : Late Q) : Late fun k => P k ∧ Q k := by
 obtain ⟨K, hK⟩ := h
 obtain ⟨L, hL⟩ := h'
 exact ⟨max K L, fun k hk => ⟨hK k (by omega), hL k (by omega)⟩⟩
theorem Ev.late {α : Type} {f : Nat → Option α} {r : α} (h : Ev f r) : Late fun k => f k = some r := h
theorem Ev.up {α : Type} {f : Nat → Option α} {r : α} (h : Ev f r) : Ev (fun k => f (k + 1)) r := by
 obtain ⟨K, hK⟩ := h
 exact ⟨K, fun k hk => hK (k + 1) (by omega)⟩
theorem Late.step {β : Type} {P : Nat → Prop} {g t : Nat → Option β} {r : β} (hP : Late P) (h : ∀ k, P k → t k = g k) (hg : Ev g r) : Ev t r := by
 obtain ⟨K, hK⟩ := hP
 obtain ⟨L, hL⟩ := hg
 exact ⟨max K L, fun k hk => (h k (hK k (by omega))).trans (hL k (by omega))⟩
theorem zero_ev {l : List Int} {n : Int} (h : Can 18446744073709551616 l n) (hb : l.length < 1073741824) (neg : Bool) (e : Int) : Ev (fun k => r00Num_Zero.f k neg l e) (decide (l = [])) := by
 refine Ev.bind (g := fun _ t139 => some (t139 == 0)) (natbits_ev h hb) (Ev.const ?_)
 rw [bitsOf_zero h]
theorem times0_ev {a b : List Int} {x y : Int} (ha : Can 18446744073709551616 a x) (hb : Can 18446744073709551616 b y) (hla : a.length < 10000000) (hlb : b.length < 10000000) (n m : Bool) :
  ∃ r, Ev (fun k => r00Times.f k n a 0 m b 0) ((n != m), r, 0) ∧ Can 18446744073709551616 r (x * y) := by
 obtain ⟨r, hr, hc⟩ := natmul_ev ha.1 hb.1 hla hlb
 refine ⟨r, Ev.bind (g := fun _ t283 => some ((n != m), t283, wrap64 (0 + 0))) hr (Ev.const ?_), hc⟩
 rw [w64 (by omega) (by omega)]
 rfl
theorem plus0_ev {a b : List Int} {x y : Int} (ha : Can 18446744073709551616 a x) (hb : Can 18446744073709551616 b y) (hla : a.length < 10000000) (hlb : b.length < 10000000) (n : Bool) :
  ∃ r, Ev (fun k => r00Plus.f k n a 0 n b 0) (n, r, 0) ∧ Can 18446744073709551616 r (x + y) := by
 by_cases h1 : a = []
 ·subst h1
  have hx : x = 0 := by rw [← ha.1.2]; rfl
  subst hx
  refine ⟨b, Ev.succ (Late.step (g := fun _ => some (n, b, 0)) (zero_ev ha (by omega) n 0).late (fun k hk => ?_) (Ev.pure _)), by rwa [Int.zero_add]⟩
  have hk' : r00Num_Zero.f k n [] 0 = some true := hk
  rw [r00Plus.f, hk']
  rfl
 ·by_cases h2 : b = []
  ·subst h2
   have hy : y = 0 := by rw [← hb.1.2]; rfl
   subst hy
   refine ⟨a, Ev.succ (Late.step (g := fun _ => some (n, a, 0)) ((zero_ev ha (by omega) n 0).late.and (zero_ev hb (by omega) n 0).late) (fun k hk => ?_) (Ev.pure _)), by rwa [Int.add_zero]⟩
   have hk1 : r00Num_Zero.f k n a 0 = some false := by rw [hk.1, decide_eq_false h1]
   have hk2 : r00Num_Zero.f k n [] 0 = some true := hk.2
   rw [r00Plus.f, hk1, Option.bind_some, if_neg (by decide), hk2]
   rfl
  ·obtain ⟨r, hr, hc⟩ := natadd_ev ha.1 hb.1 hla hlb
   refine ⟨r, Ev.succ (Late.step (g := fun _ => some (n, r, 0)) ((zero_ev ha (by omega) n 0).late.and ((zero_ev hb (by omega) n 0).late.and ((natup_ev hb (by omega)).late.and hr.late))) (fun k hk => ?_) (Ev.pure _)), hc⟩
   have hk1 : r00Num_Zero.f k n a 0 = some false := by rw [hk.1, decide_eq_false h1]
   have hk2 : r00Num_Zero.f k n b 0 = some false := by rw [hk.2.1, decide_eq_false h2]
   have hk3 : r00NatUp.f k b 0 = some b := hk.2.2.1
   have hk4 : r00NatAdd.f k a b = some r := hk.2.2.2
   have e : wrap64 (0 - 0) = 0 := w64 (by omega) (by omega)
   rw [r00Plus.f, hk1, Option.bind_some, if_neg (by decide), hk2, Option.bind_some, if_neg (by decide), if_neg (by decide), e, hk3, Option.bind_some, if_pos (by simp), hk4, Option.bind_some]
theorem tell_ev {l : List Int} {n : Int} (h : Can 18446744073709551616 l n) (hl : l.length ≤ 4096) (neg : Bool) : Ev (fun k => r00TellInt.f k neg l 0) (neg && decide (0 < l.length), l, true) := by
 have hb := bitsOf_le h
 by_cases h1 : l = []
 ·subst h1
  refine Late.step (g := fun _ => some (false, ([] : List Int), true)) (zero_ev h (by omega) neg 0).late (fun k hk => ?_) (Ev.const (by simp))
  have hk' : r00Num_Zero.f k neg [] 0 = some true := hk
  unfold r00TellInt.f
  rw [hk']
  rfl
 ·have h0 : 0 < l.length := List.length_pos_iff.2 h1
  refine Late.step (g := fun _ => some (neg, l, true)) ((zero_ev h (by omega) neg 0).late.and ((natbits_ev h (by omega)).late.and (natup_ev h (by omega)).late)) (fun k hk => ?_) (Ev.const (by simp [h0]))
  have hk1 : r00Num_Zero.f k neg l 0 = some false := by rw [hk.1, decide_eq_false h1]
  have hk2 : r00NatBits.f k l = some (bitsOf l) := hk.2.1
  have hk3 : r00NatUp.f k l 0 = some l := hk.2.2
  unfold r00TellInt.f r00Num_Top.f
  rw [hk1, Option.bind_some, if_neg (by decide), hk2, Option.bind_some, Option.bind_some, w64 (by omega) (by omega), if_neg (by omega), hk3, Option.bind_some]
theorem told0_ev {l : List Int} {n : Int} (h : Can 18446744073709551616 l n) (hl : l.length ≤ 4096) (neg : Bool) : Ev (fun k => r13Told.f k neg l 0) (neg && decide (0 < l.length), l, 0) :=
 Ev.bind (g := fun _ (bt292 : Bool × List Int × Bool) => if bt292.2.2 = true then some (bt292.1, bt292.2.1, 0) else some (false, ([] : List Int), 3)) (tell_ev h hl neg) (Ev.pure _)
def dgt (x : Int) : Int := if x < 10 then 48 + x else 87 + x
theorem ref_digit (x : Int) (h0 : 0 ≤ x) (h1 : x < 36) : r19digit.f x = some (dgt x) := by
 unfold r19digit.f dgt
 split
 ·rw [w64 (by omega) (by omega)]; congr 1; omega
 ·rw [w64 (n := 97 + x) (by omega) (by omega), w64 (by omega) (by omega)]; congr 1; omega
theorem refworth_loop (c b : Int) (hb : 2 ≤ b) (hb' : b ≤ 36) : ∀ (m : Nat) (x : Int), x + m = b → 0 ≤ x → (∀ t, 0 ≤ t → t < x → dgt t ≠ c) → Ev (fun k => r19worth.l0 k c b x) (wv c b) := by
 intro m
 induction m with
 | zero =>
  intro x hx h0 hn
  refine Ev.succ (Ev.congr (Ev.pure _) fun k => ?_)
  rw [r19worth.l0, if_neg (by omega)]
  congr 1
  have h1 := hn (c - 48)
  have h2 := hn (c - 87)
  unfold dgt at h1 h2
  unfold wv
  split
  ·rw [if_pos (by omega)] at h1; omega
  ·split
   ·rw [if_neg (by omega)] at h2; omega
   ·rfl
 | succ m ih =>
  intro x hx h0 hn
  by_cases hd : dgt x = c
  ·refine Ev.succ (Ev.congr (Ev.pure _) fun k => ?_)
   rw [r19worth.l0, if_pos (by omega), ref_digit x h0 (by omega), Option.bind_some, if_pos hd]
   congr 1
   unfold dgt at hd
   unfold wv
   split at hd <;> (repeat' split) <;> omega
  ·refine Ev.succ (Ev.congr (ih (x + 1) (by omega) (by omega) (fun t ht0 ht1 => ?_)) fun k => ?_)
   ·rcases Int.lt_or_eq_of_le (show t ≤ x by omega) with h | h
    ·exact hn t ht0 h
    ·subst h; exact hd
   ·rw [r19worth.l0, if_pos (by omega), ref_digit x h0 (by omega), Option.bind_some, if_neg hd, w64 (by omega) (by omega)]
theorem refworth_ev (c b : Int) (hb : 2 ≤ b) (hb' : b ≤ 36) : Ev (fun k => r19worth.f k c b) (wv c b) :=
 refworth_loop c b hb hb' b.toNat 0 (by omega) (by omega) (fun t h0 h1 => by omega)
theorem parse_step (k : Nat) (s : ByteArray) (b : Int) (i : Nat) (acc bb t ww u : List Int) (w : Int) (h : i < s.size) (hs : s.size < 1099511627776) (hm : bt s i ≠ 45) (w1 : r00Whole.f k b = some (false, bb, 0)) (w2 : r00Times.f k false acc 0 false bb 0 = some (false, t, 0))
  (w3 : r19worth.f k (bt s i) b = some w) (w4 : r00Whole.f k w = some (false, ww, 0)) (w5 : r00Plus.f k false t 0 false ww 0 = some (false, u, 0)) :
  r19Parse.l0 (k + 1) s b i false acc 0 = r19Parse.l0 k s b ((i + 1 : Nat) : Int) false u 0 := by
 have e : wrap64 ((i : Int) + 1) = ((i + 1 : Nat) : Int) := by rw [w64 (by omega) (by omega)]; omega
 rw [r19Parse.l0, if_pos (Int.ofNat_lt.2 h), if_pos (Int.natCast_nonneg _), if_neg hm, e, w1, Option.bind_some, w2, Option.bind_some, w3, Option.bind_some, w4, Option.bind_some, w5, Option.bind_some]
theorem parse_loop (s : ByteArray) (b : Int) (hb : 2 ≤ b) (hb' : b ≤ 36) (st : Nat) (hst : st = if bt s 0 = 45 then 1 else 0) (hs0 : st < s.size) (hs : s.size ≤ 4096) (hg : ∀ i : Nat, st ≤ i → i < s.size → 0 ≤ wv (bt s i) b) :
  ∀ (m i : Nat) (acc : List Int), i + m = s.size - st → Can 18446744073709551616 acc (D b (fun i => wv (bt s ((st + i : Nat) : Int)) b) i) →
   ∃ l, Ev (fun k => r19Parse.l0 k s b ((st + i : Nat) : Int) false acc 0) ((bt s 0 == 45) && decide (0 < l.length), l, 0, 0) ∧ Can 18446744073709551616 l (D b (fun i => wv (bt s ((st + i : Nat) : Int)) b) (s.size - st)) := by
 have len : ∀ (i : Nat) (acc : List Int), i ≤ s.size → Can 18446744073709551616 acc (D b (fun i => wv (bt s ((st + i : Nat) : Int)) b) i) → acc.length ≤ 4096 := by
  intro i acc hi hc
  refine Nat.le_trans (Can_len (c := i) (by omega) hc ?_) (by omega)
  have h1 := D_lt (b := b) (g := fun i => wv (bt s ((st + i : Nat) : Int)) b) (t := i) (by omega) (fun j _ => wv_lt _ b (by omega))
  have h2 := pow_mono (show 0 ≤ b by omega) (show b ≤ 18446744073709551616 by omega) i
  exact Int.lt_of_lt_of_le h1 h2
 intro m
 induction m with
 | zero =>
  intro i acc hi hc
  have hi' : i = s.size - st := by omega
  have hl := len i acc (by omega) hc
  refine ⟨acc, ?_, by rw [← hi']; exact hc⟩
  refine Ev.succ (Late.step (g := fun _ => some ((bt s 0 == 45) && decide (0 < acc.length), acc, 0, 0)) ((told0_ev hc hl true).late.and (told0_ev hc hl false).late) (fun k hk => ?_) (Ev.pure _))
  have hk1 : r13Told.f k true acc 0 = some (true && decide (0 < acc.length), acc, 0) := hk.1
  have hk2 : r13Told.f k false acc 0 = some (false && decide (0 < acc.length), acc, 0) := hk.2
  rw [r19Parse.l0, if_neg (by omega), if_pos (by omega)]
  by_cases h45 : bt s 0 = 45
  ·rw [if_pos h45]
   simp only [r00Minus.f, Option.bind_some, Bool.not_false, hk1, h45, if_true]
   rfl
  ·rw [if_neg h45, hk2, Option.bind_some, if_pos rfl]
   simp [h45]
 | succ m ih =>
  intro i acc hi hc
  have hl := len i acc (by omega) hc
  have hw0 := hg (st + i) (by omega) (by omega)
  have hw1 := wv_lt (bt s ((st + i : Nat) : Int)) b (by omega)
  obtain ⟨bb, hbb, hcb, hlb⟩ := whole_ev (a := b) (by omega) (by omega)
  obtain ⟨t, ht, hct⟩ := times0_ev hc hcb (by omega) (by omega) false false
  obtain ⟨ww, hww, hcw, hlw⟩ := whole_ev (a := wv (bt s ((st + i : Nat) : Int)) b) hw0 (by omega)
  have htl : t.length ≤ 4097 := by
   refine Can_len (c := 4097) (by omega) hct ?_
   have h1 := D_lt (b := b) (g := fun i => wv (bt s ((st + i : Nat) : Int)) b) (t := i) (by omega) (fun j _ => wv_lt _ b (by omega))
   have h2 := pow_mono (show 0 ≤ b by omega) (show b ≤ 18446744073709551616 by omega) (i + 1)
   have h3 := pow_le' (B := 18446744073709551616) (by omega) (show i + 1 ≤ 4097 by omega)
   have h4 := Int.mul_lt_mul_of_pos_right h1 (show 0 < b by omega)
   rw [← Int.pow_succ] at h4
   exact Int.lt_of_lt_of_le h4 (Int.le_trans h2 h3)
  obtain ⟨u, hu, hcu⟩ := plus0_ev hct hcw (by omega) (by omega) false
  obtain ⟨l, hll, hcl⟩ := ih (i + 1) u (by omega) hcu
  refine ⟨l, Ev.succ (Late.step (hbb.late.and (ht.late.and ((refworth_ev (bt s ((st + i : Nat) : Int)) b hb hb').late.and (hww.late.and hu.late)))) (fun k hk => ?_) hll), hcl⟩
  have hm : bt s ((st + i : Nat) : Int) ≠ 45 := by
   intro h45
   rw [h45] at hw0
   revert hw0
   unfold wv
   rw [if_neg (by omega), if_neg (by omega)]
   decide
  exact parse_step k s b (st + i) acc bb t ww u _ (by omega) (by omega) hm hk.1 hk.2.1 hk.2.2.1 hk.2.2.2.1 hk.2.2.2.2
theorem parse0_ev (s : ByteArray) (b : Int) (hb : 2 ≤ b) (hb' : b ≤ 36) (st : Nat) (hst : st = if bt s 0 = 45 then 1 else 0) (hs0 : st < s.size) (hs : s.size ≤ 4096) (hg : ∀ i : Nat, st ≤ i → i < s.size → 0 ≤ wv (bt s i) b) :
  ∃ l, Ev (fun k => r19Parse.l0 k s b 0 false [] 0) ((bt s 0 == 45) && decide (0 < l.length), l, 0, 0) ∧ Can 18446744073709551616 l (D b (fun i => wv (bt s ((st + i : Nat) : Int)) b) (s.size - st)) := by
 obtain ⟨l, he, hc⟩ := parse_loop s b hb hb' st hst hs0 hs hg (s.size - st) 0 [] (by omega) (Can_nil _)
 refine ⟨l, ?_, hc⟩
 by_cases h45 : bt s 0 = 45
 ·rw [if_pos h45] at hst
  subst hst
  refine Ev.succ (Ev.congr he fun k => ?_)
  have e : wrap64 (0 + 1) = ((1 + 0 : Nat) : Int) := by rw [w64 (by omega) (by omega)]; rfl
  have c : (0 : Int) < (s.size : Int) := by clear e; omega
  rw [r19Parse.l0, if_pos c, if_pos (Int.le_refl _), if_pos h45, e]
 ·rw [if_neg h45] at hst
  subst hst
  exact he
end Go.Proofs.Ytokmpejgfkfmbaa.BM
end

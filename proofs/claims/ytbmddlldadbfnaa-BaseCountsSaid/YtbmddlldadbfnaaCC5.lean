/- Part of the proof that a number of at most 40 limbs is at least the base to the power of its digits less one, and below that of its digits; its digits are those of its text. -/
import Derived.Laws.MathBits
import Derived.Laws.Bits64b
import Derived.Laws.RangeString
import Derived.Test.YtbmddlldadbfnaaCC4
section
namespace Go.Proofs.Ytbmddlldadbfnaa.BC
open Go.RowKit Go.Proofs.Ytbmddlldadbfnaa.BA Go.Proofs.Ytbmddlldadbfnaa.BB Go.Proofs.Ytbmddlldadbfnaa.BD Go.Proofs.Ytbmddlldadbfnaa.BE Go.Proofs.YtbmddlldadbfnaaW.PrintWords Go.Proofs.YtbmddlldadbfnaaW.PrintLast Go.Proofs.YtbmddlldadbfnaaW.PrintMore
attribute [local go_sem] ZU ZS max_two min_two ZP ZO ZT ZR
set_option linter.unusedVariables false
set_option linter.unusedSimpArgs false
def r00Compare.f (k : Nat) (a0_0 : Bool) (l0_1 : List Int) (a0_2 : Int) (a1_0 : Bool) (l1_1 : List Int) (a1_2 : Int) : Option (Int) := (r00Num_Sign.f k a0_0 l0_1 a0_2).bind fun t103 => ((r00Num_Sign.f k a1_0 l1_1 a1_2).bind fun t104 => (if t103 < t104 then (none) else (if t103 > t104 then (none) else (if t103 = 0 then (none) else ((r00Num_Top.f k a0_0 l0_1 a0_2).bind fun t105 => ((r00Num_Top.f k a1_0 l1_1 a1_2).bind fun t106 => (if t105 < t106 then (some (wrap64 (-t103))) else ((r00Num_Top.f k a0_0 l0_1 a0_2).bind fun t107 => ((r00Num_Top.f k a1_0 l1_1 a1_2).bind fun t108 => (if t107 > t108 then (none) else ((r00Less.f k a0_0 l0_1 a0_2 a1_0 l1_1 a1_2).bind fun bt109 => ((r00Num_Sign.f k bt109.1 bt109.2.1 bt109.2.2).bind fun t114 => (some t114)))))))))))))
set_option maxHeartbeats 8000000 in
set_option maxRecDepth 100000 in
theorem r00Compare.calls (k : Nat) (a0_0 : Bool) (A0_1 : Option Addr) (c0_1 : Nat) (l0_1 : List Int) (a0_2 : Int) (a1_0 : Bool) (A1_1 : Option Addr) (c1_1 : Nat) (l1_1 : List Int) (a1_2 : Int) (r : Int) (w : World) (hr0_1 : Kd.C (Kd.int .u64) w A0_1 l0_1.length l0_1) (hc0_1 : l0_1.length ≤ c0_1) (hr1_1 : Kd.C (Kd.int .u64) w A1_1 l1_1.length l1_1) (hc1_1 : l1_1.length ≤ c1_1) (h : r00Compare.f k a0_0 l0_1 a0_2 a1_0 l1_1 a1_2 = some r) :
  Calls Try.prog 28 #[.agg #[.bool a0_0, .slice A0_1 l0_1.length c0_1, .int .i64 a0_2], .agg #[.bool a1_0, .slice A1_1 l1_1.length c1_1, .int .i64 a1_2]] w fun e w' => e = .returned (.int .i64 r) ∧ Below w.heap.size w w' := by
 have hu48 := Try.underlying48
 have HR0_1 := Zb.mk hr0_1
 have HC0_1 := Zb.mk hc0_1
 clear hr0_1 hc0_1
 have HR1_1 := Zb.mk hr1_1
 have HC1_1 := Zb.mk hc1_1
 clear hr1_1 hc1_1
 have HB := Zb.mk (Below.refl w.heap.size w)
 have H : ((r00Num_Sign.f k a0_0 l0_1 a0_2).bind fun t103 => ((r00Num_Sign.f k a1_0 l1_1 a1_2).bind fun t104 => (if t103 < t104 then (none) else (if t103 > t104 then (none) else (if t103 = 0 then (none) else ((r00Num_Top.f k a0_0 l0_1 a0_2).bind fun t105 => ((r00Num_Top.f k a1_0 l1_1 a1_2).bind fun t106 => (if t105 < t106 then (some (wrap64 (-t103))) else ((r00Num_Top.f k a0_0 l0_1 a0_2).bind fun t107 => ((r00Num_Top.f k a1_0 l1_1 a1_2).bind fun t108 => (if t107 > t108 then (none) else ((r00Less.f k a0_0 l0_1 a0_2 a1_0 l1_1 a1_2).bind fun bt109 => ((r00Num_Sign.f k bt109.1 bt109.2.1 bt109.2.2).bind fun t114 => (some t114)))))))))))))) = some r := h
 clear h
 replace H := Option.bind_eq_some_iff.mp H
 obtain ⟨t103, A30, H⟩ := H
 replace H : ((r00Num_Sign.f k a1_0 l1_1 a1_2).bind fun t104 => (if t103 < t104 then (none) else (if t103 > t104 then (none) else (if t103 = 0 then (none) else ((r00Num_Top.f k a0_0 l0_1 a0_2).bind fun t105 => ((r00Num_Top.f k a1_0 l1_1 a1_2).bind fun t106 => (if t105 < t106 then (some (wrap64 (-t103))) else ((r00Num_Top.f k a0_0 l0_1 a0_2).bind fun t107 => ((r00Num_Top.f k a1_0 l1_1 a1_2).bind fun t108 => (if t107 > t108 then (none) else ((r00Less.f k a0_0 l0_1 a0_2 a1_0 l1_1 a1_2).bind fun bt109 => ((r00Num_Sign.f k bt109.1 bt109.2.1 bt109.2.2).bind fun t114 => (some t114))))))))))))) = some r := H
 have A3 := Zb.mk A30
 clear A30
 replace H := Option.bind_eq_some_iff.mp H
 obtain ⟨t104, A40, H⟩ := H
 replace H : (if t103 < t104 then (none) else (if t103 > t104 then (none) else (if t103 = 0 then (none) else ((r00Num_Top.f k a0_0 l0_1 a0_2).bind fun t105 => ((r00Num_Top.f k a1_0 l1_1 a1_2).bind fun t106 => (if t105 < t106 then (some (wrap64 (-t103))) else ((r00Num_Top.f k a0_0 l0_1 a0_2).bind fun t107 => ((r00Num_Top.f k a1_0 l1_1 a1_2).bind fun t108 => (if t107 > t108 then (none) else ((r00Less.f k a0_0 l0_1 a0_2 a1_0 l1_1 a1_2).bind fun bt109 => ((r00Num_Sign.f k bt109.1 bt109.2.1 bt109.2.2).bind fun t114 => (some t114)))))))))))) = some r := H
 have A4 := Zb.mk A40
 clear A40
 by_cases c5 : t103 < t104
 ·rw [if_pos c5] at H
  exact absurd H (by simp)
 ·rw [if_neg c5] at H
  have c5b0 : decide (t103 < t104) = false := decide_eq_false c5
  clear c5
  by_cases c6 : t103 > t104
  ·rw [if_pos c6] at H
   exact absurd H (by simp)
  ·rw [if_neg c6] at H
   have c6b0 : decide (t104 < t103) = false := decide_eq_false c6
   clear c6
   by_cases c7 : t103 = 0
   ·rw [if_pos c7] at H
    exact absurd H (by simp)
   ·rw [if_neg c7] at H
    have c7b0 : (t103 == 0) = false := beq_eq_false_iff_ne.mpr c7
    have c7b1 : (t103 != 0) = true := bne_iff_ne.mpr c7
    replace H := Option.bind_eq_some_iff.mp H
    obtain ⟨t105, A80, H⟩ := H
    replace H : ((r00Num_Top.f k a1_0 l1_1 a1_2).bind fun t106 => (if t105 < t106 then (some (wrap64 (-t103))) else ((r00Num_Top.f k a0_0 l0_1 a0_2).bind fun t107 => ((r00Num_Top.f k a1_0 l1_1 a1_2).bind fun t108 => (if t107 > t108 then (none) else ((r00Less.f k a0_0 l0_1 a0_2 a1_0 l1_1 a1_2).bind fun bt109 => ((r00Num_Sign.f k bt109.1 bt109.2.1 bt109.2.2).bind fun t114 => (some t114)))))))) = some r := H
    have A8 := Zb.mk A80
    clear A80
    replace H := Option.bind_eq_some_iff.mp H
    obtain ⟨t106, A90, H⟩ := H
    replace H : (if t105 < t106 then (some (wrap64 (-t103))) else ((r00Num_Top.f k a0_0 l0_1 a0_2).bind fun t107 => ((r00Num_Top.f k a1_0 l1_1 a1_2).bind fun t108 => (if t107 > t108 then (none) else ((r00Less.f k a0_0 l0_1 a0_2 a1_0 l1_1 a1_2).bind fun bt109 => ((r00Num_Sign.f k bt109.1 bt109.2.1 bt109.2.2).bind fun t114 => (some t114))))))) = some r := H
    have A9 := Zb.mk A90
    clear A90
    by_cases c10 : t105 < t106
    ·rw [if_pos c10] at H
     have c10b0 : decide (t105 < t106) = true := decide_eq_true c10
     clear c10
     obtain rfl := Option.some.inj H
     go_enter Try.func28, Try.ntmps28
     try go_wp2_with (first | ((with_reducible refine Zt (N := 2) rfl ?_); refine Zs ?hg (N := 2) ?hd (cs := #[.bool a0_0, .slice A0_1 l0_1.length c0_1, .int .i64 a0_2]) (t := 48) ?hr ?_; (case hd => rfl); (case hg => rfl); (case hr => first | (go_simp; done) | (go_simp; rfl)); intro gb101 hg w11 hbox hb; have n0_ := Zb.mk (Zl (by repeat (with_reducible first | exact HB.out | apply Zc | apply Za | apply Zd)) hb); have n1_ := Zb.mk (hbox); have n2_ := Zb.mk ((by rw [hg]; exact (Zi (by repeat (with_reducible first | exact HB.out | apply Zc | apply Za | apply Zd))) : w.heap.size ≤ gb101)); have n3_ := Zb.mk ((by rw [hg]; exact (Zi (by repeat (with_reducible first | exact HB.out | apply Zc | apply Za | apply Zd))) : w.heap.size ≤ gb101)); clear HB; have HB := n0_; have BK101 := n1_; have GW101 := n2_; have GE101 := n3_; clear n0_ n1_ n2_ n3_; clear hb hbox hg) | ((with_reducible refine Zt (N := 3) rfl ?_); refine Zs ?hg (N := 3) ?hd (cs := #[.bool a1_0, .slice A1_1 l1_1.length c1_1, .int .i64 a1_2]) (t := 48) ?hr ?_; (case hd => rfl); (case hg => rfl); (case hr => first | (go_simp; done) | (go_simp; rfl)); intro gb102 hg w12 hbox hb; have n0_ := Zb.mk (Zn (g := gb101) (o := .cells #[.bool a0_0, .slice A0_1 l0_1.length c0_1, .int .i64 a0_2] 48 (0, 0)) (by (with_reducible repeat first | refine Ze ?_ _ | refine Zg ?_ | refine Zf ?_ _); exact BK101.out) hb); have n1_ := Zb.mk (Zl (by repeat (with_reducible first | exact HB.out | apply Zc | apply Za | apply Zd | refine Zh ?_ GE101.out)) hb); have n2_ := Zb.mk (hbox); have n3_ := Zb.mk ((by rw [hg]; exact (Zi (by repeat (with_reducible first | exact HB.out | apply Zc | apply Za | apply Zd | refine Zh ?_ GE101.out))) : w.heap.size ≤ gb102)); have n4_ := Zb.mk ((by rw [hg]; exact (Zi (by repeat (with_reducible first | exact HB.out | apply Zc | apply Za | apply Zd | refine Zh ?_ GE101.out))) : w.heap.size ≤ gb102)); have n5_ := Zb.mk ((by rw [hg]; exact Nat.ne_of_lt (Zw (g := gb101) (o := .cells #[.bool a0_0, .slice A0_1 l0_1.length c0_1, .int .i64 a0_2] 48 (0, 0)) (by (with_reducible repeat first | refine Ze ?_ _ | refine Zg ?_ | refine Zf ?_ _); exact BK101.out)) : gb101 ≠ gb102)); have n6_ := Zb.mk ((by rw [hg]; exact Nat.ne_of_gt (Zw (g := gb101) (o := .cells #[.bool a0_0, .slice A0_1 l0_1.length c0_1, .int .i64 a0_2] 48 (0, 0)) (by (with_reducible repeat first | refine Ze ?_ _ | refine Zg ?_ | refine Zf ?_ _); exact BK101.out)) : gb102 ≠ gb101)); clear BK101; clear HB; have BK101 := n0_; have HB := n1_; have BK102 := n2_; have GW102 := n3_; have GE102 := n4_; have NB101_102 := n5_; have NB102_101 := n6_; clear n0_ n1_ n2_ n3_ n4_ n5_ n6_; clear hb hbox hg))
     have n0_ := Zb.mk (Zg BK101.out)
     have n1_ := Zb.mk (Zg BK102.out)
     have n2_ := Zb.mk (Zd HB.out)
     clear BK101
     clear BK102
     clear HB
     have BK101 := n0_
     have BK102 := n1_
     have HB := n2_
     clear n0_ n1_ n2_
     refine start_ (n := 6) (S := fun w' => w'.cell? ⟨gb101, 0, none⟩ = some (.bool a0_0) ∧ w'.cell? ⟨gb101, 1, none⟩ = some (.slice A0_1 l0_1.length c0_1) ∧ w'.cell? ⟨gb101, 2, none⟩ = some (.int .i64 a0_2) ∧ w'.cell? ⟨gb102, 0, none⟩ = some (.bool a1_0) ∧ w'.cell? ⟨gb102, 1, none⟩ = some (.slice A1_1 l1_1.length c1_1) ∧ w'.cell? ⟨gb102, 2, none⟩ = some (.int .i64 a1_2)) (ds := []) #[false, false, false, false, false, false] (by kernel_rfl) rfl rfl ⟨(Zk BK101.out 0).trans rfl, (Zk BK101.out 1).trans rfl, (Zk BK101.out 2).trans rfl, (Zk BK102.out 0).trans rfl, (Zk BK102.out 1).trans rfl, (Zk BK102.out 2).trans rfl⟩ (fun hHeld => ?_)
     generalize w12.drew = w13 at BK101 BK102 HB hHeld ⊢
     refine take_ (i := 0) (N := some 7) (v := ?_) (a' := ?_) #[true, false, false, false, false, false] rfl rfl (by kernel_rfl) (fun _ _ _ h => h) (Or.inl ⟨by rfl, ?_⟩) hHeld ?_ ?_
     rotate_left
     ·rintro w' ⟨s0, s1, s2, s3, s4, s5⟩
      go_simp
      with_reducible rfl
     rotate_left
     ·simp only [Act.put, List.setIfInBounds_toArray, List.set_cons_zero, List.set_cons_succ, Zx, ZA]
      rfl
     refine take_ (i := 2) (N := some 9) (v := ?_) (a' := ?_) #[true, false, true, false, false, false] rfl rfl (by kernel_rfl) (fun _ _ _ h => h) (Or.inl ⟨by rfl, ?_⟩) hHeld ?_ ?_
     rotate_left
     ·rintro w' ⟨s0, s1, s2, s3, s4, s5⟩
      go_simp
      with_reducible rfl
     rotate_left
     ·simp only [Act.put, List.setIfInBounds_toArray, List.set_cons_zero, List.set_cons_succ, Zx, ZA]
      rfl
     refine one_ (i := 1) (N := some 8) #[true, true, true, false, false, false] rfl rfl (by kernel_rfl) (by decide) (fun K hK => ?_)
     refine goes_ Try.func60 (by kernel_rfl) rfl #[.agg #[.bool a0_0, .slice A0_1 l0_1.length c0_1, .int .i64 a0_2]] (by rfl) rfl rfl (by (try simp only [List.map_toArray, List.map_cons, List.map_nil]); first | done | rfl | (simp only [List.length_drop, List.length_take]; rfl)) ?_
     with_reducible refine (r00Num_Sign.calls k a0_0 _ _ l0_1 a0_2 t103 _ ?side1 ?side2 A3.out).mono ?_
     (case side1 => repeat (first | exact (Kd.C_below HR0_1.out HB.out) | (with_reducible refine Kd.ZC ?_ _) | (with_reducible refine Kd.ZF ?_ _) | (with_reducible refine Kd.ZN ?_)))
     (case side2 => exact HC0_1.out)
     rintro e w14 ⟨rfl, hb⟩
     refine ⟨_, rfl, ?_⟩
     have n0_ := Zb.mk (Zn (g := gb101) (o := .cells #[.bool a0_0, .slice A0_1 l0_1.length c0_1, .int .i64 a0_2] 48 (0, 0)) (by (with_reducible repeat first | refine Ze ?_ _ | refine Zg ?_ | refine Zf ?_ _); exact BK101.out) hb)
     have n1_ := Zb.mk (Zn (g := gb102) (o := .cells #[.bool a1_0, .slice A1_1 l1_1.length c1_1, .int .i64 a1_2] 48 (0, 0)) (by (with_reducible repeat first | refine Ze ?_ _ | refine Zg ?_ | refine Zf ?_ _); exact BK102.out) hb)
     have n2_ := Zb.mk (Zl (by repeat (with_reducible first | exact HB.out | apply Zc | apply Za | apply Zd | refine Zh ?_ GE101.out | refine Zh ?_ GE102.out)) hb)
     clear BK101
     clear BK102
     clear HB
     have BK101 := n0_
     have BK102 := n1_
     have HB := n2_
     clear n0_ n1_ n2_
     (try clear hb)
     (try clear hb2)
     (try clear hk)
     (try clear hi)
     refine hK.out _ _ ⟨(Zk BK101.out 0).trans rfl, (Zk BK101.out 1).trans rfl, (Zk BK101.out 2).trans rfl, (Zk BK102.out 0).trans rfl, (Zk BK102.out 1).trans rfl, (Zk BK102.out 2).trans rfl⟩ (fun hHeld => ?_)
     clear hK K
     refine norm_ (a' := ?_) ?_ ?_
     rotate_left
     ·show Act.put _ (some 8) _ = _
      simp only [Act.put, List.setIfInBounds_toArray, List.set_cons_zero, List.set_cons_succ, Zx, ZA]
      rfl
     refine one_ (i := 3) (N := some 10) #[true, true, true, true, false, false] rfl rfl (by kernel_rfl) (by decide) (fun K hK => ?_)
     refine goes_ Try.func60 (by kernel_rfl) rfl #[.agg #[.bool a1_0, .slice A1_1 l1_1.length c1_1, .int .i64 a1_2]] (by rfl) rfl rfl (by (try simp only [List.map_toArray, List.map_cons, List.map_nil]); first | done | rfl | (simp only [List.length_drop, List.length_take]; rfl)) ?_
     with_reducible refine (r00Num_Sign.calls k a1_0 _ _ l1_1 a1_2 t104 _ ?side1 ?side2 A4.out).mono ?_
     (case side1 => repeat (first | exact (Kd.C_below HR1_1.out HB.out) | (with_reducible refine Kd.ZC ?_ _) | (with_reducible refine Kd.ZF ?_ _) | (with_reducible refine Kd.ZN ?_)))
     (case side2 => exact HC1_1.out)
     rintro e w15 ⟨rfl, hb⟩
     refine ⟨_, rfl, ?_⟩
     have n0_ := Zb.mk (Zn (g := gb101) (o := .cells #[.bool a0_0, .slice A0_1 l0_1.length c0_1, .int .i64 a0_2] 48 (0, 0)) (by (with_reducible repeat first | refine Ze ?_ _ | refine Zg ?_ | refine Zf ?_ _); exact BK101.out) hb)
     have n1_ := Zb.mk (Zn (g := gb102) (o := .cells #[.bool a1_0, .slice A1_1 l1_1.length c1_1, .int .i64 a1_2] 48 (0, 0)) (by (with_reducible repeat first | refine Ze ?_ _ | refine Zg ?_ | refine Zf ?_ _); exact BK102.out) hb)
     have n2_ := Zb.mk (Zl (by repeat (with_reducible first | exact HB.out | apply Zc | apply Za | apply Zd | refine Zh ?_ GE101.out | refine Zh ?_ GE102.out)) hb)
     clear BK101
     clear BK102
     clear HB
     have BK101 := n0_
     have BK102 := n1_
     have HB := n2_
     clear n0_ n1_ n2_
     (try clear hb)
     (try clear hb2)
     (try clear hk)
     (try clear hi)
     refine hK.out _ _ ⟨(Zk BK101.out 0).trans rfl, (Zk BK101.out 1).trans rfl, (Zk BK101.out 2).trans rfl, (Zk BK102.out 0).trans rfl, (Zk BK102.out 1).trans rfl, (Zk BK102.out 2).trans rfl⟩ (fun hHeld => ?_)
     clear hK K
     refine norm_ (a' := ?_) ?_ ?_
     rotate_left
     ·show Act.put _ (some 10) _ = _
      simp only [Act.put, List.setIfInBounds_toArray, List.set_cons_zero, List.set_cons_succ, Zx, ZA]
      rfl
     refine ZM (i := 4) (N := some 5) (v := ?_) (a' := ?_) #[true, true, true, true, true, false] rfl rfl (by kernel_rfl) (fun _ _ _ h => h) (Or.inl ⟨by rfl, ?_⟩) ?_ ?_
     rotate_left
     ·intro w'
      go_simp
      with_reducible rfl
     rotate_left
     ·simp only [Act.put, List.setIfInBounds_toArray, List.set_cons_zero, List.set_cons_succ, Zx, ZA]
      rfl
     refine ZM (i := 5) (N := some 6) (v := ?_) (a' := ?_) #[true, true, true, true, true, true] rfl rfl (by kernel_rfl) (fun _ _ _ h => h) (Or.inl ⟨by rfl, ?_⟩) ?_ ?_
     rotate_left
     ·intro w'
      go_simp
      with_reducible rfl
     rotate_left
     ·simp only [Act.put, List.setIfInBounds_toArray, List.set_cons_zero, List.set_cons_succ, Zx, ZA]
      rfl
     refine done_ (by kernel_rfl) ?_
     try go_wp2
     have n0_ := Zb.mk (Zg BK101.out)
     have n1_ := Zb.mk (Zg BK102.out)
     have n2_ := Zb.mk (Zd HB.out)
     clear BK101
     clear BK102
     clear HB
     have BK101 := n0_
     have BK102 := n1_
     have HB := n2_
     clear n0_ n1_ n2_
     refine start_ (n := 6) (S := fun w' => w'.cell? ⟨gb101, 0, none⟩ = some (.bool a0_0) ∧ w'.cell? ⟨gb101, 1, none⟩ = some (.slice A0_1 l0_1.length c0_1) ∧ w'.cell? ⟨gb101, 2, none⟩ = some (.int .i64 a0_2) ∧ w'.cell? ⟨gb102, 0, none⟩ = some (.bool a1_0) ∧ w'.cell? ⟨gb102, 1, none⟩ = some (.slice A1_1 l1_1.length c1_1) ∧ w'.cell? ⟨gb102, 2, none⟩ = some (.int .i64 a1_2)) (ds := []) #[false, false, false, false, false, false] (by kernel_rfl) rfl rfl ⟨(Zk BK101.out 0).trans rfl, (Zk BK101.out 1).trans rfl, (Zk BK101.out 2).trans rfl, (Zk BK102.out 0).trans rfl, (Zk BK102.out 1).trans rfl, (Zk BK102.out 2).trans rfl⟩ (fun hHeld => ?_)
     generalize w15.drew = w16 at BK101 BK102 HB hHeld ⊢
     refine take_ (i := 0) (N := some 23) (v := ?_) (a' := ?_) #[true, false, false, false, false, false] rfl rfl (by kernel_rfl) (fun _ _ _ h => h) (Or.inl ⟨by rfl, ?_⟩) hHeld ?_ ?_
     rotate_left
     ·rintro w' ⟨s0, s1, s2, s3, s4, s5⟩
      go_simp
      with_reducible rfl
     rotate_left
     ·simp only [Act.put, List.setIfInBounds_toArray, List.set_cons_zero, List.set_cons_succ, Zx, ZA]
      rfl
     refine take_ (i := 2) (N := some 25) (v := ?_) (a' := ?_) #[true, false, true, false, false, false] rfl rfl (by kernel_rfl) (fun _ _ _ h => h) (Or.inl ⟨by rfl, ?_⟩) hHeld ?_ ?_
     rotate_left
     ·rintro w' ⟨s0, s1, s2, s3, s4, s5⟩
      go_simp
      with_reducible rfl
     rotate_left
     ·simp only [Act.put, List.setIfInBounds_toArray, List.set_cons_zero, List.set_cons_succ, Zx, ZA]
      rfl
     refine one_ (i := 1) (N := some 24) #[true, true, true, false, false, false] rfl rfl (by kernel_rfl) (by decide) (fun K hK => ?_)
     refine goes_ Try.func61 (by kernel_rfl) rfl #[.agg #[.bool a0_0, .slice A0_1 l0_1.length c0_1, .int .i64 a0_2]] (by rfl) rfl rfl (by (try simp only [List.map_toArray, List.map_cons, List.map_nil]); first | done | rfl | (simp only [List.length_drop, List.length_take]; rfl)) ?_
     with_reducible refine (r00Num_Top.calls k a0_0 _ _ l0_1 a0_2 t105 _ ?side1 ?side2 A8.out).mono ?_
     (case side1 => repeat (first | exact (Kd.C_below HR0_1.out HB.out) | (with_reducible refine Kd.ZC ?_ _) | (with_reducible refine Kd.ZF ?_ _) | (with_reducible refine Kd.ZN ?_)))
     (case side2 => exact HC0_1.out)
     rintro e w17 ⟨rfl, hb⟩
     refine ⟨_, rfl, ?_⟩
     have n0_ := Zb.mk (Zn (g := gb101) (o := .cells #[.bool a0_0, .slice A0_1 l0_1.length c0_1, .int .i64 a0_2] 48 (0, 0)) (by (with_reducible repeat first | refine Ze ?_ _ | refine Zg ?_ | refine Zf ?_ _); exact BK101.out) hb)
     have n1_ := Zb.mk (Zn (g := gb102) (o := .cells #[.bool a1_0, .slice A1_1 l1_1.length c1_1, .int .i64 a1_2] 48 (0, 0)) (by (with_reducible repeat first | refine Ze ?_ _ | refine Zg ?_ | refine Zf ?_ _); exact BK102.out) hb)
     have n2_ := Zb.mk (Zl (by repeat (with_reducible first | exact HB.out | apply Zc | apply Za | apply Zd | refine Zh ?_ GE101.out | refine Zh ?_ GE102.out)) hb)
     clear BK101
     clear BK102
     clear HB
     have BK101 := n0_
     have BK102 := n1_
     have HB := n2_
     clear n0_ n1_ n2_
     (try clear hb)
     (try clear hb2)
     (try clear hk)
     (try clear hi)
     refine hK.out _ _ ⟨(Zk BK101.out 0).trans rfl, (Zk BK101.out 1).trans rfl, (Zk BK101.out 2).trans rfl, (Zk BK102.out 0).trans rfl, (Zk BK102.out 1).trans rfl, (Zk BK102.out 2).trans rfl⟩ (fun hHeld => ?_)
     clear hK K
     refine norm_ (a' := ?_) ?_ ?_
     rotate_left
     ·show Act.put _ (some 24) _ = _
      simp only [Act.put, List.setIfInBounds_toArray, List.set_cons_zero, List.set_cons_succ, Zx, ZA]
      rfl
     refine one_ (i := 3) (N := some 26) #[true, true, true, true, false, false] rfl rfl (by kernel_rfl) (by decide) (fun K hK => ?_)
     refine goes_ Try.func61 (by kernel_rfl) rfl #[.agg #[.bool a1_0, .slice A1_1 l1_1.length c1_1, .int .i64 a1_2]] (by rfl) rfl rfl (by (try simp only [List.map_toArray, List.map_cons, List.map_nil]); first | done | rfl | (simp only [List.length_drop, List.length_take]; rfl)) ?_
     with_reducible refine (r00Num_Top.calls k a1_0 _ _ l1_1 a1_2 t106 _ ?side1 ?side2 A9.out).mono ?_
     (case side1 => repeat (first | exact (Kd.C_below HR1_1.out HB.out) | (with_reducible refine Kd.ZC ?_ _) | (with_reducible refine Kd.ZF ?_ _) | (with_reducible refine Kd.ZN ?_)))
     (case side2 => exact HC1_1.out)
     rintro e w18 ⟨rfl, hb⟩
     refine ⟨_, rfl, ?_⟩
     have n0_ := Zb.mk (Zn (g := gb101) (o := .cells #[.bool a0_0, .slice A0_1 l0_1.length c0_1, .int .i64 a0_2] 48 (0, 0)) (by (with_reducible repeat first | refine Ze ?_ _ | refine Zg ?_ | refine Zf ?_ _); exact BK101.out) hb)
     have n1_ := Zb.mk (Zn (g := gb102) (o := .cells #[.bool a1_0, .slice A1_1 l1_1.length c1_1, .int .i64 a1_2] 48 (0, 0)) (by (with_reducible repeat first | refine Ze ?_ _ | refine Zg ?_ | refine Zf ?_ _); exact BK102.out) hb)
     have n2_ := Zb.mk (Zl (by repeat (with_reducible first | exact HB.out | apply Zc | apply Za | apply Zd | refine Zh ?_ GE101.out | refine Zh ?_ GE102.out)) hb)
     clear BK101
     clear BK102
     clear HB
     have BK101 := n0_
     have BK102 := n1_
     have HB := n2_
     clear n0_ n1_ n2_
     (try clear hb)
     (try clear hb2)
     (try clear hk)
     (try clear hi)
     refine hK.out _ _ ⟨(Zk BK101.out 0).trans rfl, (Zk BK101.out 1).trans rfl, (Zk BK101.out 2).trans rfl, (Zk BK102.out 0).trans rfl, (Zk BK102.out 1).trans rfl, (Zk BK102.out 2).trans rfl⟩ (fun hHeld => ?_)
     clear hK K
     refine norm_ (a' := ?_) ?_ ?_
     rotate_left
     ·show Act.put _ (some 26) _ = _
      simp only [Act.put, List.setIfInBounds_toArray, List.set_cons_zero, List.set_cons_succ, Zx, ZA]
      rfl
     refine ZM (i := 4) (N := some 27) (v := ?_) (a' := ?_) #[true, true, true, true, true, false] rfl rfl (by kernel_rfl) (fun _ _ _ h => h) (Or.inl ⟨by rfl, ?_⟩) ?_ ?_
     rotate_left
     ·intro w'
      go_simp
      with_reducible rfl
     rotate_left
     ·simp only [Act.put, List.setIfInBounds_toArray, List.set_cons_zero, List.set_cons_succ, Zx, ZA]
      rfl
     refine ZM (i := 5) (N := some 22) (v := ?_) (a' := ?_) #[true, true, true, true, true, true] rfl rfl (by kernel_rfl) (fun _ _ _ h => h) (Or.inl ⟨by rfl, ?_⟩) ?_ ?_
     rotate_left
     ·intro w'
      go_simp
      with_reducible rfl
     rotate_left
     ·simp only [Act.put, List.setIfInBounds_toArray, List.set_cons_zero, List.set_cons_succ, Zx, ZA]
      rfl
     refine done_ (by kernel_rfl) ?_
     try go_wp2
     go_ret
     exact ⟨by first | rfl | (simp [errW_none, errW_some] <;> rfl) | (simp [*, errW_none, errW_some] <;> rfl), by repeat (with_reducible first | exact HB.out | apply Zc | apply Za | apply Zd | refine Zh ?_ GE101.out | refine Zh ?_ GE102.out)⟩
    ·rw [if_neg c10] at H
     have c10b0 : decide (t105 < t106) = false := decide_eq_false c10
     clear c10
     replace H := Option.bind_eq_some_iff.mp H
     obtain ⟨t107, A190, H⟩ := H
     replace H : ((r00Num_Top.f k a1_0 l1_1 a1_2).bind fun t108 => (if t107 > t108 then (none) else ((r00Less.f k a0_0 l0_1 a0_2 a1_0 l1_1 a1_2).bind fun bt109 => ((r00Num_Sign.f k bt109.1 bt109.2.1 bt109.2.2).bind fun t114 => (some t114))))) = some r := H
     have A19 := Zb.mk A190
     clear A190
     replace H := Option.bind_eq_some_iff.mp H
     obtain ⟨t108, A200, H⟩ := H
     replace H : (if t107 > t108 then (none) else ((r00Less.f k a0_0 l0_1 a0_2 a1_0 l1_1 a1_2).bind fun bt109 => ((r00Num_Sign.f k bt109.1 bt109.2.1 bt109.2.2).bind fun t114 => (some t114)))) = some r := H
     have A20 := Zb.mk A200
     clear A200
     by_cases c21 : t107 > t108
     ·rw [if_pos c21] at H
      exact absurd H (by simp)
     ·rw [if_neg c21] at H
      have c21b0 : decide (t108 < t107) = false := decide_eq_false c21
      clear c21
      replace H := Option.bind_eq_some_iff.mp H
      obtain ⟨⟨t109, t110, t113⟩, A220, H⟩ := H
      replace H : ((r00Num_Sign.f k t109 t110 t113).bind fun t114 => (some t114)) = some r := H
      have A22 := Zb.mk A220
      clear A220
      replace H := Option.bind_eq_some_iff.mp H
      obtain ⟨t114, A230, H⟩ := H
      replace H : (some t114) = some r := H
      have A23 := Zb.mk A230
      clear A230
      obtain rfl := Option.some.inj H
      go_enter Try.func28, Try.ntmps28
      try go_wp2_with (first | ((with_reducible refine Zt (N := 2) rfl ?_); refine Zs ?hg (N := 2) ?hd (cs := #[.bool a0_0, .slice A0_1 l0_1.length c0_1, .int .i64 a0_2]) (t := 48) ?hr ?_; (case hd => rfl); (case hg => rfl); (case hr => first | (go_simp; done) | (go_simp; rfl)); intro gb101 hg w24 hbox hb; have n0_ := Zb.mk (Zl (by repeat (with_reducible first | exact HB.out | apply Zc | apply Za | apply Zd)) hb); have n1_ := Zb.mk (hbox); have n2_ := Zb.mk ((by rw [hg]; exact (Zi (by repeat (with_reducible first | exact HB.out | apply Zc | apply Za | apply Zd))) : w.heap.size ≤ gb101)); have n3_ := Zb.mk ((by rw [hg]; exact (Zi (by repeat (with_reducible first | exact HB.out | apply Zc | apply Za | apply Zd))) : w.heap.size ≤ gb101)); clear HB; have HB := n0_; have BK101 := n1_; have GW101 := n2_; have GE101 := n3_; clear n0_ n1_ n2_ n3_; clear hb hbox hg) | ((with_reducible refine Zt (N := 3) rfl ?_); refine Zs ?hg (N := 3) ?hd (cs := #[.bool a1_0, .slice A1_1 l1_1.length c1_1, .int .i64 a1_2]) (t := 48) ?hr ?_; (case hd => rfl); (case hg => rfl); (case hr => first | (go_simp; done) | (go_simp; rfl)); intro gb102 hg w25 hbox hb; have n0_ := Zb.mk (Zn (g := gb101) (o := .cells #[.bool a0_0, .slice A0_1 l0_1.length c0_1, .int .i64 a0_2] 48 (0, 0)) (by (with_reducible repeat first | refine Ze ?_ _ | refine Zg ?_ | refine Zf ?_ _); exact BK101.out) hb); have n1_ := Zb.mk (Zl (by repeat (with_reducible first | exact HB.out | apply Zc | apply Za | apply Zd | refine Zh ?_ GE101.out)) hb); have n2_ := Zb.mk (hbox); have n3_ := Zb.mk ((by rw [hg]; exact (Zi (by repeat (with_reducible first | exact HB.out | apply Zc | apply Za | apply Zd | refine Zh ?_ GE101.out))) : w.heap.size ≤ gb102)); have n4_ := Zb.mk ((by rw [hg]; exact (Zi (by repeat (with_reducible first | exact HB.out | apply Zc | apply Za | apply Zd | refine Zh ?_ GE101.out))) : w.heap.size ≤ gb102)); have n5_ := Zb.mk ((by rw [hg]; exact Nat.ne_of_lt (Zw (g := gb101) (o := .cells #[.bool a0_0, .slice A0_1 l0_1.length c0_1, .int .i64 a0_2] 48 (0, 0)) (by (with_reducible repeat first | refine Ze ?_ _ | refine Zg ?_ | refine Zf ?_ _); exact BK101.out)) : gb101 ≠ gb102)); have n6_ := Zb.mk ((by rw [hg]; exact Nat.ne_of_gt (Zw (g := gb101) (o := .cells #[.bool a0_0, .slice A0_1 l0_1.length c0_1, .int .i64 a0_2] 48 (0, 0)) (by (with_reducible repeat first | refine Ze ?_ _ | refine Zg ?_ | refine Zf ?_ _); exact BK101.out)) : gb102 ≠ gb101)); clear BK101; clear HB; have BK101 := n0_; have HB := n1_; have BK102 := n2_; have GW102 := n3_; have GE102 := n4_; have NB101_102 := n5_; have NB102_101 := n6_; clear n0_ n1_ n2_ n3_ n4_ n5_ n6_; clear hb hbox hg))
      have n0_ := Zb.mk (Zg BK101.out)
      have n1_ := Zb.mk (Zg BK102.out)
      have n2_ := Zb.mk (Zd HB.out)
      clear BK101
      clear BK102
      clear HB
      have BK101 := n0_
      have BK102 := n1_
      have HB := n2_
      clear n0_ n1_ n2_
      refine start_ (n := 6) (S := fun w' => w'.cell? ⟨gb101, 0, none⟩ = some (.bool a0_0) ∧ w'.cell? ⟨gb101, 1, none⟩ = some (.slice A0_1 l0_1.length c0_1) ∧ w'.cell? ⟨gb101, 2, none⟩ = some (.int .i64 a0_2) ∧ w'.cell? ⟨gb102, 0, none⟩ = some (.bool a1_0) ∧ w'.cell? ⟨gb102, 1, none⟩ = some (.slice A1_1 l1_1.length c1_1) ∧ w'.cell? ⟨gb102, 2, none⟩ = some (.int .i64 a1_2)) (ds := []) #[false, false, false, false, false, false] (by kernel_rfl) rfl rfl ⟨(Zk BK101.out 0).trans rfl, (Zk BK101.out 1).trans rfl, (Zk BK101.out 2).trans rfl, (Zk BK102.out 0).trans rfl, (Zk BK102.out 1).trans rfl, (Zk BK102.out 2).trans rfl⟩ (fun hHeld => ?_)
      generalize w25.drew = w26 at BK101 BK102 HB hHeld ⊢
      refine take_ (i := 0) (N := some 7) (v := ?_) (a' := ?_) #[true, false, false, false, false, false] rfl rfl (by kernel_rfl) (fun _ _ _ h => h) (Or.inl ⟨by rfl, ?_⟩) hHeld ?_ ?_
      rotate_left
      ·rintro w' ⟨s0, s1, s2, s3, s4, s5⟩
       go_simp
       with_reducible rfl
      rotate_left
      ·simp only [Act.put, List.setIfInBounds_toArray, List.set_cons_zero, List.set_cons_succ, Zx, ZA]
       rfl
      refine take_ (i := 2) (N := some 9) (v := ?_) (a' := ?_) #[true, false, true, false, false, false] rfl rfl (by kernel_rfl) (fun _ _ _ h => h) (Or.inl ⟨by rfl, ?_⟩) hHeld ?_ ?_
      rotate_left
      ·rintro w' ⟨s0, s1, s2, s3, s4, s5⟩
       go_simp
       with_reducible rfl
      rotate_left
      ·simp only [Act.put, List.setIfInBounds_toArray, List.set_cons_zero, List.set_cons_succ, Zx, ZA]
       rfl
      refine one_ (i := 1) (N := some 8) #[true, true, true, false, false, false] rfl rfl (by kernel_rfl) (by decide) (fun K hK => ?_)
      refine goes_ Try.func60 (by kernel_rfl) rfl #[.agg #[.bool a0_0, .slice A0_1 l0_1.length c0_1, .int .i64 a0_2]] (by rfl) rfl rfl (by (try simp only [List.map_toArray, List.map_cons, List.map_nil]); first | done | rfl | (simp only [List.length_drop, List.length_take]; rfl)) ?_
      with_reducible refine (r00Num_Sign.calls k a0_0 _ _ l0_1 a0_2 t103 _ ?side1 ?side2 A3.out).mono ?_
      (case side1 => repeat (first | exact (Kd.C_below HR0_1.out HB.out) | (with_reducible refine Kd.ZC ?_ _) | (with_reducible refine Kd.ZF ?_ _) | (with_reducible refine Kd.ZN ?_)))
      (case side2 => exact HC0_1.out)
      rintro e w27 ⟨rfl, hb⟩
      refine ⟨_, rfl, ?_⟩
      have n0_ := Zb.mk (Zn (g := gb101) (o := .cells #[.bool a0_0, .slice A0_1 l0_1.length c0_1, .int .i64 a0_2] 48 (0, 0)) (by (with_reducible repeat first | refine Ze ?_ _ | refine Zg ?_ | refine Zf ?_ _); exact BK101.out) hb)
      have n1_ := Zb.mk (Zn (g := gb102) (o := .cells #[.bool a1_0, .slice A1_1 l1_1.length c1_1, .int .i64 a1_2] 48 (0, 0)) (by (with_reducible repeat first | refine Ze ?_ _ | refine Zg ?_ | refine Zf ?_ _); exact BK102.out) hb)
      have n2_ := Zb.mk (Zl (by repeat (with_reducible first | exact HB.out | apply Zc | apply Za | apply Zd | refine Zh ?_ GE101.out | refine Zh ?_ GE102.out)) hb)
      clear BK101
      clear BK102
      clear HB
      have BK101 := n0_
      have BK102 := n1_
      have HB := n2_
      clear n0_ n1_ n2_
      (try clear hb)
      (try clear hb2)
      (try clear hk)
      (try clear hi)
      refine hK.out _ _ ⟨(Zk BK101.out 0).trans rfl, (Zk BK101.out 1).trans rfl, (Zk BK101.out 2).trans rfl, (Zk BK102.out 0).trans rfl, (Zk BK102.out 1).trans rfl, (Zk BK102.out 2).trans rfl⟩ (fun hHeld => ?_)
      clear hK K
      refine norm_ (a' := ?_) ?_ ?_
      rotate_left
      ·show Act.put _ (some 8) _ = _
       simp only [Act.put, List.setIfInBounds_toArray, List.set_cons_zero, List.set_cons_succ, Zx, ZA]
       rfl
      refine one_ (i := 3) (N := some 10) #[true, true, true, true, false, false] rfl rfl (by kernel_rfl) (by decide) (fun K hK => ?_)
      refine goes_ Try.func60 (by kernel_rfl) rfl #[.agg #[.bool a1_0, .slice A1_1 l1_1.length c1_1, .int .i64 a1_2]] (by rfl) rfl rfl (by (try simp only [List.map_toArray, List.map_cons, List.map_nil]); first | done | rfl | (simp only [List.length_drop, List.length_take]; rfl)) ?_
      with_reducible refine (r00Num_Sign.calls k a1_0 _ _ l1_1 a1_2 t104 _ ?side1 ?side2 A4.out).mono ?_
      (case side1 => repeat (first | exact (Kd.C_below HR1_1.out HB.out) | (with_reducible refine Kd.ZC ?_ _) | (with_reducible refine Kd.ZF ?_ _) | (with_reducible refine Kd.ZN ?_)))
      (case side2 => exact HC1_1.out)
      rintro e w28 ⟨rfl, hb⟩
      refine ⟨_, rfl, ?_⟩
      have n0_ := Zb.mk (Zn (g := gb101) (o := .cells #[.bool a0_0, .slice A0_1 l0_1.length c0_1, .int .i64 a0_2] 48 (0, 0)) (by (with_reducible repeat first | refine Ze ?_ _ | refine Zg ?_ | refine Zf ?_ _); exact BK101.out) hb)
      have n1_ := Zb.mk (Zn (g := gb102) (o := .cells #[.bool a1_0, .slice A1_1 l1_1.length c1_1, .int .i64 a1_2] 48 (0, 0)) (by (with_reducible repeat first | refine Ze ?_ _ | refine Zg ?_ | refine Zf ?_ _); exact BK102.out) hb)
      have n2_ := Zb.mk (Zl (by repeat (with_reducible first | exact HB.out | apply Zc | apply Za | apply Zd | refine Zh ?_ GE101.out | refine Zh ?_ GE102.out)) hb)
      clear BK101
      clear BK102
      clear HB
      have BK101 := n0_
      have BK102 := n1_
      have HB := n2_
      clear n0_ n1_ n2_
      (try clear hb)
      (try clear hb2)
      (try clear hk)
      (try clear hi)
      refine hK.out _ _ ⟨(Zk BK101.out 0).trans rfl, (Zk BK101.out 1).trans rfl, (Zk BK101.out 2).trans rfl, (Zk BK102.out 0).trans rfl, (Zk BK102.out 1).trans rfl, (Zk BK102.out 2).trans rfl⟩ (fun hHeld => ?_)
      clear hK K
      refine norm_ (a' := ?_) ?_ ?_
      rotate_left
      ·show Act.put _ (some 10) _ = _
       simp only [Act.put, List.setIfInBounds_toArray, List.set_cons_zero, List.set_cons_succ, Zx, ZA]
       rfl
      refine ZM (i := 4) (N := some 5) (v := ?_) (a' := ?_) #[true, true, true, true, true, false] rfl rfl (by kernel_rfl) (fun _ _ _ h => h) (Or.inl ⟨by rfl, ?_⟩) ?_ ?_
      rotate_left
      ·intro w'
       go_simp
       with_reducible rfl
      rotate_left
      ·simp only [Act.put, List.setIfInBounds_toArray, List.set_cons_zero, List.set_cons_succ, Zx, ZA]
       rfl
      refine ZM (i := 5) (N := some 6) (v := ?_) (a' := ?_) #[true, true, true, true, true, true] rfl rfl (by kernel_rfl) (fun _ _ _ h => h) (Or.inl ⟨by rfl, ?_⟩) ?_ ?_
      rotate_left
      ·intro w'
       go_simp
       with_reducible rfl
      rotate_left
      ·simp only [Act.put, List.setIfInBounds_toArray, List.set_cons_zero, List.set_cons_succ, Zx, ZA]
       rfl
      refine done_ (by kernel_rfl) ?_
      try go_wp2
      have n0_ := Zb.mk (Zg BK101.out)
      have n1_ := Zb.mk (Zg BK102.out)
      have n2_ := Zb.mk (Zd HB.out)
      clear BK101
      clear BK102
      clear HB
      have BK101 := n0_
      have BK102 := n1_
      have HB := n2_
      clear n0_ n1_ n2_
      refine start_ (n := 6) (S := fun w' => w'.cell? ⟨gb101, 0, none⟩ = some (.bool a0_0) ∧ w'.cell? ⟨gb101, 1, none⟩ = some (.slice A0_1 l0_1.length c0_1) ∧ w'.cell? ⟨gb101, 2, none⟩ = some (.int .i64 a0_2) ∧ w'.cell? ⟨gb102, 0, none⟩ = some (.bool a1_0) ∧ w'.cell? ⟨gb102, 1, none⟩ = some (.slice A1_1 l1_1.length c1_1) ∧ w'.cell? ⟨gb102, 2, none⟩ = some (.int .i64 a1_2)) (ds := []) #[false, false, false, false, false, false] (by kernel_rfl) rfl rfl ⟨(Zk BK101.out 0).trans rfl, (Zk BK101.out 1).trans rfl, (Zk BK101.out 2).trans rfl, (Zk BK102.out 0).trans rfl, (Zk BK102.out 1).trans rfl, (Zk BK102.out 2).trans rfl⟩ (fun hHeld => ?_)
      generalize w28.drew = w29 at BK101 BK102 HB hHeld ⊢
      refine take_ (i := 0) (N := some 23) (v := ?_) (a' := ?_) #[true, false, false, false, false, false] rfl rfl (by kernel_rfl) (fun _ _ _ h => h) (Or.inl ⟨by rfl, ?_⟩) hHeld ?_ ?_
      rotate_left
      ·rintro w' ⟨s0, s1, s2, s3, s4, s5⟩
       go_simp
       with_reducible rfl
      rotate_left
      ·simp only [Act.put, List.setIfInBounds_toArray, List.set_cons_zero, List.set_cons_succ, Zx, ZA]
       rfl
      refine take_ (i := 2) (N := some 25) (v := ?_) (a' := ?_) #[true, false, true, false, false, false] rfl rfl (by kernel_rfl) (fun _ _ _ h => h) (Or.inl ⟨by rfl, ?_⟩) hHeld ?_ ?_
      rotate_left
      ·rintro w' ⟨s0, s1, s2, s3, s4, s5⟩
       go_simp
       with_reducible rfl
      rotate_left
      ·simp only [Act.put, List.setIfInBounds_toArray, List.set_cons_zero, List.set_cons_succ, Zx, ZA]
       rfl
      refine one_ (i := 1) (N := some 24) #[true, true, true, false, false, false] rfl rfl (by kernel_rfl) (by decide) (fun K hK => ?_)
      refine goes_ Try.func61 (by kernel_rfl) rfl #[.agg #[.bool a0_0, .slice A0_1 l0_1.length c0_1, .int .i64 a0_2]] (by rfl) rfl rfl (by (try simp only [List.map_toArray, List.map_cons, List.map_nil]); first | done | rfl | (simp only [List.length_drop, List.length_take]; rfl)) ?_
      with_reducible refine (r00Num_Top.calls k a0_0 _ _ l0_1 a0_2 t105 _ ?side1 ?side2 A8.out).mono ?_
      (case side1 => repeat (first | exact (Kd.C_below HR0_1.out HB.out) | (with_reducible refine Kd.ZC ?_ _) | (with_reducible refine Kd.ZF ?_ _) | (with_reducible refine Kd.ZN ?_)))
      (case side2 => exact HC0_1.out)
      rintro e w30 ⟨rfl, hb⟩
      refine ⟨_, rfl, ?_⟩
      have n0_ := Zb.mk (Zn (g := gb101) (o := .cells #[.bool a0_0, .slice A0_1 l0_1.length c0_1, .int .i64 a0_2] 48 (0, 0)) (by (with_reducible repeat first | refine Ze ?_ _ | refine Zg ?_ | refine Zf ?_ _); exact BK101.out) hb)
      have n1_ := Zb.mk (Zn (g := gb102) (o := .cells #[.bool a1_0, .slice A1_1 l1_1.length c1_1, .int .i64 a1_2] 48 (0, 0)) (by (with_reducible repeat first | refine Ze ?_ _ | refine Zg ?_ | refine Zf ?_ _); exact BK102.out) hb)
      have n2_ := Zb.mk (Zl (by repeat (with_reducible first | exact HB.out | apply Zc | apply Za | apply Zd | refine Zh ?_ GE101.out | refine Zh ?_ GE102.out)) hb)
      clear BK101
      clear BK102
      clear HB
      have BK101 := n0_
      have BK102 := n1_
      have HB := n2_
      clear n0_ n1_ n2_
      (try clear hb)
      (try clear hb2)
      (try clear hk)
      (try clear hi)
      refine hK.out _ _ ⟨(Zk BK101.out 0).trans rfl, (Zk BK101.out 1).trans rfl, (Zk BK101.out 2).trans rfl, (Zk BK102.out 0).trans rfl, (Zk BK102.out 1).trans rfl, (Zk BK102.out 2).trans rfl⟩ (fun hHeld => ?_)
      clear hK K
      refine norm_ (a' := ?_) ?_ ?_
      rotate_left
      ·show Act.put _ (some 24) _ = _
       simp only [Act.put, List.setIfInBounds_toArray, List.set_cons_zero, List.set_cons_succ, Zx, ZA]
       rfl
      refine one_ (i := 3) (N := some 26) #[true, true, true, true, false, false] rfl rfl (by kernel_rfl) (by decide) (fun K hK => ?_)
      refine goes_ Try.func61 (by kernel_rfl) rfl #[.agg #[.bool a1_0, .slice A1_1 l1_1.length c1_1, .int .i64 a1_2]] (by rfl) rfl rfl (by (try simp only [List.map_toArray, List.map_cons, List.map_nil]); first | done | rfl | (simp only [List.length_drop, List.length_take]; rfl)) ?_
      with_reducible refine (r00Num_Top.calls k a1_0 _ _ l1_1 a1_2 t106 _ ?side1 ?side2 A9.out).mono ?_
      (case side1 => repeat (first | exact (Kd.C_below HR1_1.out HB.out) | (with_reducible refine Kd.ZC ?_ _) | (with_reducible refine Kd.ZF ?_ _) | (with_reducible refine Kd.ZN ?_)))
      (case side2 => exact HC1_1.out)
      rintro e w31 ⟨rfl, hb⟩
      refine ⟨_, rfl, ?_⟩
      have n0_ := Zb.mk (Zn (g := gb101) (o := .cells #[.bool a0_0, .slice A0_1 l0_1.length c0_1, .int .i64 a0_2] 48 (0, 0)) (by (with_reducible repeat first | refine Ze ?_ _ | refine Zg ?_ | refine Zf ?_ _); exact BK101.out) hb)
      have n1_ := Zb.mk (Zn (g := gb102) (o := .cells #[.bool a1_0, .slice A1_1 l1_1.length c1_1, .int .i64 a1_2] 48 (0, 0)) (by (with_reducible repeat first | refine Ze ?_ _ | refine Zg ?_ | refine Zf ?_ _); exact BK102.out) hb)
      have n2_ := Zb.mk (Zl (by repeat (with_reducible first | exact HB.out | apply Zc | apply Za | apply Zd | refine Zh ?_ GE101.out | refine Zh ?_ GE102.out)) hb)
      clear BK101
      clear BK102
      clear HB
      have BK101 := n0_
      have BK102 := n1_
      have HB := n2_
      clear n0_ n1_ n2_
      (try clear hb)
      (try clear hb2)
      (try clear hk)
      (try clear hi)
      refine hK.out _ _ ⟨(Zk BK101.out 0).trans rfl, (Zk BK101.out 1).trans rfl, (Zk BK101.out 2).trans rfl, (Zk BK102.out 0).trans rfl, (Zk BK102.out 1).trans rfl, (Zk BK102.out 2).trans rfl⟩ (fun hHeld => ?_)
      clear hK K
      refine norm_ (a' := ?_) ?_ ?_
      rotate_left
      ·show Act.put _ (some 26) _ = _
       simp only [Act.put, List.setIfInBounds_toArray, List.set_cons_zero, List.set_cons_succ, Zx, ZA]
       rfl
      refine ZM (i := 4) (N := some 27) (v := ?_) (a' := ?_) #[true, true, true, true, true, false] rfl rfl (by kernel_rfl) (fun _ _ _ h => h) (Or.inl ⟨by rfl, ?_⟩) ?_ ?_
      rotate_left
      ·intro w'
       go_simp
       with_reducible rfl
      rotate_left
      ·simp only [Act.put, List.setIfInBounds_toArray, List.set_cons_zero, List.set_cons_succ, Zx, ZA]
       rfl
      refine ZM (i := 5) (N := some 22) (v := ?_) (a' := ?_) #[true, true, true, true, true, true] rfl rfl (by kernel_rfl) (fun _ _ _ h => h) (Or.inl ⟨by rfl, ?_⟩) ?_ ?_
      rotate_left
      ·intro w'
       go_simp
       with_reducible rfl
      rotate_left
      ·simp only [Act.put, List.setIfInBounds_toArray, List.set_cons_zero, List.set_cons_succ, Zx, ZA]
       rfl
      refine done_ (by kernel_rfl) ?_
      try go_wp2
      have n0_ := Zb.mk (Zg BK101.out)
      have n1_ := Zb.mk (Zg BK102.out)
      have n2_ := Zb.mk (Zd HB.out)
      clear BK101
      clear BK102
      clear HB
      have BK101 := n0_
      have BK102 := n1_
      have HB := n2_
      clear n0_ n1_ n2_
      refine start_ (n := 6) (S := fun w' => w'.cell? ⟨gb101, 0, none⟩ = some (.bool a0_0) ∧ w'.cell? ⟨gb101, 1, none⟩ = some (.slice A0_1 l0_1.length c0_1) ∧ w'.cell? ⟨gb101, 2, none⟩ = some (.int .i64 a0_2) ∧ w'.cell? ⟨gb102, 0, none⟩ = some (.bool a1_0) ∧ w'.cell? ⟨gb102, 1, none⟩ = some (.slice A1_1 l1_1.length c1_1) ∧ w'.cell? ⟨gb102, 2, none⟩ = some (.int .i64 a1_2)) (ds := []) #[false, false, false, false, false, false] (by kernel_rfl) rfl rfl ⟨(Zk BK101.out 0).trans rfl, (Zk BK101.out 1).trans rfl, (Zk BK101.out 2).trans rfl, (Zk BK102.out 0).trans rfl, (Zk BK102.out 1).trans rfl, (Zk BK102.out 2).trans rfl⟩ (fun hHeld => ?_)
      generalize w31.drew = w32 at BK101 BK102 HB hHeld ⊢
      refine take_ (i := 0) (N := some 31) (v := ?_) (a' := ?_) #[true, false, false, false, false, false] rfl rfl (by kernel_rfl) (fun _ _ _ h => h) (Or.inl ⟨by rfl, ?_⟩) hHeld ?_ ?_
      rotate_left
      ·rintro w' ⟨s0, s1, s2, s3, s4, s5⟩
       go_simp
       with_reducible rfl
      rotate_left
      ·simp only [Act.put, List.setIfInBounds_toArray, List.set_cons_zero, List.set_cons_succ, Zx, ZA]
       rfl
      refine take_ (i := 2) (N := some 33) (v := ?_) (a' := ?_) #[true, false, true, false, false, false] rfl rfl (by kernel_rfl) (fun _ _ _ h => h) (Or.inl ⟨by rfl, ?_⟩) hHeld ?_ ?_
      rotate_left
      ·rintro w' ⟨s0, s1, s2, s3, s4, s5⟩
       go_simp
       with_reducible rfl
      rotate_left
      ·simp only [Act.put, List.setIfInBounds_toArray, List.set_cons_zero, List.set_cons_succ, Zx, ZA]
       rfl
      refine one_ (i := 1) (N := some 32) #[true, true, true, false, false, false] rfl rfl (by kernel_rfl) (by decide) (fun K hK => ?_)
      refine goes_ Try.func61 (by kernel_rfl) rfl #[.agg #[.bool a0_0, .slice A0_1 l0_1.length c0_1, .int .i64 a0_2]] (by rfl) rfl rfl (by (try simp only [List.map_toArray, List.map_cons, List.map_nil]); first | done | rfl | (simp only [List.length_drop, List.length_take]; rfl)) ?_
      with_reducible refine (r00Num_Top.calls k a0_0 _ _ l0_1 a0_2 t107 _ ?side1 ?side2 A19.out).mono ?_
      (case side1 => repeat (first | exact (Kd.C_below HR0_1.out HB.out) | (with_reducible refine Kd.ZC ?_ _) | (with_reducible refine Kd.ZF ?_ _) | (with_reducible refine Kd.ZN ?_)))
      (case side2 => exact HC0_1.out)
      rintro e w33 ⟨rfl, hb⟩
      refine ⟨_, rfl, ?_⟩
      have n0_ := Zb.mk (Zn (g := gb101) (o := .cells #[.bool a0_0, .slice A0_1 l0_1.length c0_1, .int .i64 a0_2] 48 (0, 0)) (by (with_reducible repeat first | refine Ze ?_ _ | refine Zg ?_ | refine Zf ?_ _); exact BK101.out) hb)
      have n1_ := Zb.mk (Zn (g := gb102) (o := .cells #[.bool a1_0, .slice A1_1 l1_1.length c1_1, .int .i64 a1_2] 48 (0, 0)) (by (with_reducible repeat first | refine Ze ?_ _ | refine Zg ?_ | refine Zf ?_ _); exact BK102.out) hb)
      have n2_ := Zb.mk (Zl (by repeat (with_reducible first | exact HB.out | apply Zc | apply Za | apply Zd | refine Zh ?_ GE101.out | refine Zh ?_ GE102.out)) hb)
      clear BK101
      clear BK102
      clear HB
      have BK101 := n0_
      have BK102 := n1_
      have HB := n2_
      clear n0_ n1_ n2_
      (try clear hb)
      (try clear hb2)
      (try clear hk)
      (try clear hi)
      refine hK.out _ _ ⟨(Zk BK101.out 0).trans rfl, (Zk BK101.out 1).trans rfl, (Zk BK101.out 2).trans rfl, (Zk BK102.out 0).trans rfl, (Zk BK102.out 1).trans rfl, (Zk BK102.out 2).trans rfl⟩ (fun hHeld => ?_)
      clear hK K
      refine norm_ (a' := ?_) ?_ ?_
      rotate_left
      ·show Act.put _ (some 32) _ = _
       simp only [Act.put, List.setIfInBounds_toArray, List.set_cons_zero, List.set_cons_succ, Zx, ZA]
       rfl
      refine one_ (i := 3) (N := some 34) #[true, true, true, true, false, false] rfl rfl (by kernel_rfl) (by decide) (fun K hK => ?_)
      refine goes_ Try.func61 (by kernel_rfl) rfl #[.agg #[.bool a1_0, .slice A1_1 l1_1.length c1_1, .int .i64 a1_2]] (by rfl) rfl rfl (by (try simp only [List.map_toArray, List.map_cons, List.map_nil]); first | done | rfl | (simp only [List.length_drop, List.length_take]; rfl)) ?_
      with_reducible refine (r00Num_Top.calls k a1_0 _ _ l1_1 a1_2 t108 _ ?side1 ?side2 A20.out).mono ?_
      (case side1 => repeat (first | exact (Kd.C_below HR1_1.out HB.out) | (with_reducible refine Kd.ZC ?_ _) | (with_reducible refine Kd.ZF ?_ _) | (with_reducible refine Kd.ZN ?_)))
      (case side2 => exact HC1_1.out)
      rintro e w34 ⟨rfl, hb⟩
      refine ⟨_, rfl, ?_⟩
      have n0_ := Zb.mk (Zn (g := gb101) (o := .cells #[.bool a0_0, .slice A0_1 l0_1.length c0_1, .int .i64 a0_2] 48 (0, 0)) (by (with_reducible repeat first | refine Ze ?_ _ | refine Zg ?_ | refine Zf ?_ _); exact BK101.out) hb)
      have n1_ := Zb.mk (Zn (g := gb102) (o := .cells #[.bool a1_0, .slice A1_1 l1_1.length c1_1, .int .i64 a1_2] 48 (0, 0)) (by (with_reducible repeat first | refine Ze ?_ _ | refine Zg ?_ | refine Zf ?_ _); exact BK102.out) hb)
      have n2_ := Zb.mk (Zl (by repeat (with_reducible first | exact HB.out | apply Zc | apply Za | apply Zd | refine Zh ?_ GE101.out | refine Zh ?_ GE102.out)) hb)
      clear BK101
      clear BK102
      clear HB
      have BK101 := n0_
      have BK102 := n1_
      have HB := n2_
      clear n0_ n1_ n2_
      (try clear hb)
      (try clear hb2)
      (try clear hk)
      (try clear hi)
      refine hK.out _ _ ⟨(Zk BK101.out 0).trans rfl, (Zk BK101.out 1).trans rfl, (Zk BK101.out 2).trans rfl, (Zk BK102.out 0).trans rfl, (Zk BK102.out 1).trans rfl, (Zk BK102.out 2).trans rfl⟩ (fun hHeld => ?_)
      clear hK K
      refine norm_ (a' := ?_) ?_ ?_
      rotate_left
      ·show Act.put _ (some 34) _ = _
       simp only [Act.put, List.setIfInBounds_toArray, List.set_cons_zero, List.set_cons_succ, Zx, ZA]
       rfl
      refine ZM (i := 4) (N := some 35) (v := ?_) (a' := ?_) #[true, true, true, true, true, false] rfl rfl (by kernel_rfl) (fun _ _ _ h => h) (Or.inl ⟨by rfl, ?_⟩) ?_ ?_
      rotate_left
      ·intro w'
       go_simp
       with_reducible rfl
      rotate_left
      ·simp only [Act.put, List.setIfInBounds_toArray, List.set_cons_zero, List.set_cons_succ, Zx, ZA]
       rfl
      refine ZM (i := 5) (N := some 30) (v := ?_) (a' := ?_) #[true, true, true, true, true, true] rfl rfl (by kernel_rfl) (fun _ _ _ h => h) (Or.inl ⟨by rfl, ?_⟩) ?_ ?_
      rotate_left
      ·intro w'
       go_simp
       with_reducible rfl
      rotate_left
      ·simp only [Act.put, List.setIfInBounds_toArray, List.set_cons_zero, List.set_cons_succ, Zx, ZA]
       rfl
      refine done_ (by kernel_rfl) ?_
      have hnb35 := NB101_102.out
      have hnc35 := NB102_101.out
      have hcz36_0 : w34.cell? ⟨gb101, 0, none⟩ = some (.bool a0_0) := (Zk BK101.out 0).trans rfl
      have hcz36_1 : w34.cell? ⟨gb101, 1, none⟩ = some (.slice A0_1 l0_1.length c0_1) := (Zk BK101.out 1).trans rfl
      have hcz36_2 : w34.cell? ⟨gb101, 2, none⟩ = some (.int .i64 a0_2) := (Zk BK101.out 2).trans rfl
      have hfz36_0 := Zj BK101.out 0
      have hfz36_1 := Zj BK101.out 1
      have hfz36_2 := Zj BK101.out 2
      have hcz37_0 : w34.cell? ⟨gb102, 0, none⟩ = some (.bool a1_0) := (Zk BK102.out 0).trans rfl
      have hcz37_1 : w34.cell? ⟨gb102, 1, none⟩ = some (.slice A1_1 l1_1.length c1_1) := (Zk BK102.out 1).trans rfl
      have hcz37_2 : w34.cell? ⟨gb102, 2, none⟩ = some (.int .i64 a1_2) := (Zk BK102.out 2).trans rfl
      have hfz37_0 := Zj BK102.out 0
      have hfz37_1 := Zj BK102.out 1
      have hfz37_2 := Zj BK102.out 2
      try go_wp2_with (first | ((with_reducible refine Zp (f := 62) rfl ?_); refine ZB (some 39) rfl rfl Try.func62 (by kernel_rfl) rfl #[.agg #[.bool a0_0, .slice A0_1 l0_1.length c0_1, .int .i64 a0_2], .agg #[.bool a1_0, .slice A1_1 l1_1.length c1_1, .int .i64 a1_2]] rfl (by (try simp only [List.map_toArray, List.map_cons, List.map_nil]); first | done | rfl | (simp only [List.length_drop, List.length_take]; rfl)) ?_; (with_reducible refine (r00Less.calls k a0_0 _ _ l0_1 a0_2 a1_0 _ _ l1_1 a1_2 t109 t110 t113 _ ?side1 ?side2 ?side3 ?side4 A22.out).mono ?_); (case side1 => repeat (first | exact (Kd.C_below HR0_1.out HB.out) | (with_reducible refine Kd.ZC ?_ _) | (with_reducible refine Kd.ZF ?_ _) | (with_reducible refine Kd.ZN ?_))); (case side2 => exact HC0_1.out); (case side3 => repeat (first | exact (Kd.C_below HR1_1.out HB.out) | (with_reducible refine Kd.ZC ?_ _) | (with_reducible refine Kd.ZF ?_ _) | (with_reducible refine Kd.ZN ?_))); (case side4 => exact HC1_1.out); rintro e w38 ⟨v111, rfl, ho0, hb⟩; refine ⟨_, rfl, ?_⟩; have n0_ := Zb.mk (Kd.ZG ho0 (Zi (by repeat (with_reducible first | exact HB.out | apply Zc | apply Za | apply Zd | refine Zh ?_ GE101.out | refine Zh ?_ GE102.out)))); have n1_ := Zb.mk (Zn (g := gb101) (o := .cells #[.bool a0_0, .slice A0_1 l0_1.length c0_1, .int .i64 a0_2] 48 (0, 0)) (by (with_reducible repeat first | refine Ze ?_ _ | refine Zg ?_ | refine Zf ?_ _); exact BK101.out) hb); have n2_ := Zb.mk (Zn (g := gb102) (o := .cells #[.bool a1_0, .slice A1_1 l1_1.length c1_1, .int .i64 a1_2] 48 (0, 0)) (by (with_reducible repeat first | refine Ze ?_ _ | refine Zg ?_ | refine Zf ?_ _); exact BK102.out) hb); have n3_ := Zb.mk (Zl (by repeat (with_reducible first | exact HB.out | apply Zc | apply Za | apply Zd | refine Zh ?_ GE101.out | refine Zh ?_ GE102.out)) hb); clear BK101; clear BK102; clear HB; have HO112 := n0_; have BK101 := n1_; have BK102 := n2_; have HB := n3_; clear n0_ n1_ n2_ n3_; (try clear hb); (try clear hb2); (try clear hk); (try clear hi); (try clear ho0); obtain ⟨Ao39, co39, eo39⟩ := Kd.Zy HO112.out; subst eo39) | ((with_reducible refine Zp (f := 60) rfl ?_); refine ZB (some 40) rfl rfl Try.func60 (by kernel_rfl) rfl #[.agg #[.bool t109, .slice Ao39 t110.length co39, .int .i64 t113]] rfl (by (try simp only [List.map_toArray, List.map_cons, List.map_nil]); first | done | rfl | (simp only [List.length_drop, List.length_take]; rfl)) ?_; (with_reducible refine (r00Num_Sign.calls k t109 _ _ t110 t113 t114 _ ?side1 ?side2 A23.out).mono ?_); (case side1 => repeat (first | exact (Kd.Zv HO112.out).2.2 | (with_reducible refine Kd.ZC ?_ _) | (with_reducible refine Kd.ZF ?_ _) | (with_reducible refine Kd.ZN ?_))); (case side2 => exact (Kd.Zv HO112.out).2.1); rintro e w40 ⟨rfl, hb⟩; refine ⟨_, rfl, ?_⟩; have n0_ := Zb.mk (Kd.Zz (by (with_reducible repeat first | apply Kd.Zm | apply Kd.Zo); exact HO112.out) hb); have n1_ := Zb.mk (Zn (g := gb101) (o := .cells #[.bool a0_0, .slice A0_1 l0_1.length c0_1, .int .i64 a0_2] 48 (0, 0)) (by (with_reducible repeat first | refine Ze ?_ _ | refine Zg ?_ | refine Zf ?_ _); exact BK101.out) hb); have n2_ := Zb.mk (Zn (g := gb102) (o := .cells #[.bool a1_0, .slice A1_1 l1_1.length c1_1, .int .i64 a1_2] 48 (0, 0)) (by (with_reducible repeat first | refine Ze ?_ _ | refine Zg ?_ | refine Zf ?_ _); exact BK102.out) hb); have n3_ := Zb.mk (Zl (by repeat (with_reducible first | exact HB.out | apply Zc | apply Za | apply Zd | refine Zh ?_ GE101.out | refine Zh ?_ GE102.out)) hb); clear HO112; clear BK101; clear BK102; clear HB; have HO112 := n0_; have BK101 := n1_; have BK102 := n2_; have HB := n3_; clear n0_ n1_ n2_ n3_; (try clear hb); (try clear hb2); (try clear hk); (try clear hi)))
      go_ret
      exact ⟨by first | rfl | (simp [errW_none, errW_some] <;> rfl) | (simp [*, errW_none, errW_some] <;> rfl), by repeat (with_reducible first | exact HB.out | apply Zc | apply Za | apply Zd | refine Zh ?_ GE101.out | refine Zh ?_ GE102.out)⟩
def stringslite_HasPrefix.f (a0 : ByteArray) (a1 : ByteArray) : Option (Bool) := if (a0.size : Int) ≥ (a1.size : Int) then (if 0 ≤ (a1.size : Int) then (if (a1.size : Int) ≤ (a0.size : Int) then (some ((a0.extract 0 ((a1.size : Int) : Int).toNat).toList == a1.toList)) else (none)) else (none)) else (some false)
set_option maxHeartbeats 8000000 in
set_option maxRecDepth 100000 in
theorem stringslite_HasPrefix.calls (a0 : ByteArray) (a1 : ByteArray) (r : Bool) (w : World) (h : stringslite_HasPrefix.f a0 a1 = some r) :
  Calls Try.prog 67 #[.string a0, .string a1] w fun e w' => e = .returned (.bool r) ∧ Zq w w' := by
 have H : (if (a0.size : Int) ≥ (a1.size : Int) then (if 0 ≤ (a1.size : Int) then (if (a1.size : Int) ≤ (a0.size : Int) then (some ((a0.extract 0 ((a1.size : Int) : Int).toNat).toList == a1.toList)) else (none)) else (none)) else (some false)) = some r := h
 clear h
 by_cases c3 : (a0.size : Int) ≥ (a1.size : Int)
 ·rw [if_pos c3] at H
  have c3b0 : decide ((a1.size : Int) ≤ (a0.size : Int)) = true := decide_eq_true c3
  have c3b1 : decide (a1.size ≤ a0.size) = true := decide_eq_true (Int.ofNat_le.mp c3)
  clear c3
  by_cases c4 : 0 ≤ (a1.size : Int)
  ·rw [if_pos c4] at H
   have c4b0 := eq_true c4
   have c4b1 : decide (0 ≤ (a1.size : Int)) = true := decide_eq_true c4
   clear c4
   by_cases c5 : (a1.size : Int) ≤ (a0.size : Int)
   ·rw [if_pos c5] at H
    have c5b0 := eq_true c5
    have c5b1 : decide ((a1.size : Int) ≤ (a0.size : Int)) = true := decide_eq_true c5
    clear c5
    obtain rfl := Option.some.inj H
    go_enter Try.func67, Try.ntmps67
    go_wp2
    go_ret
    exact ⟨by first | rfl | (simp; done) | (simp [*]; done), by repeat (first | exact Zq.refl _ | apply Zq.step)⟩
   ·rw [if_neg c5] at H
    exact absurd H (by simp)
  ·rw [if_neg c4] at H
   exact absurd H (by simp)
 ·rw [if_neg c3] at H
  have c3b0 : decide ((a1.size : Int) ≤ (a0.size : Int)) = false := decide_eq_false c3
  have c3b1 : decide (a1.size ≤ a0.size) = false := decide_eq_false (fun h => c3 (Int.ofNat_le.mpr h))
  clear c3
  obtain rfl := Option.some.inj H
  go_enter Try.func67, Try.ntmps67
  go_wp2
  go_ret
  exact ⟨by first | rfl | (simp; done) | (simp [*]; done), by repeat (first | exact Zq.refl _ | apply Zq.step)⟩
def stringslite_TrimPrefix.f (a0 : ByteArray) (a1 : ByteArray) : Option (ByteArray) := (stringslite_HasPrefix.f a0 a1).bind fun t115 => (if t115 = true then (if 0 ≤ (a1.size : Int) then (if (a1.size : Int) ≤ (a0.size : Int) then (some (a0.extract ((a1.size : Int) : Int).toNat a0.size)) else (none)) else (none)) else (some a0))
set_option maxHeartbeats 8000000 in
set_option maxRecDepth 100000 in
theorem stringslite_TrimPrefix.calls (a0 : ByteArray) (a1 : ByteArray) (r : ByteArray) (w : World) (h : stringslite_TrimPrefix.f a0 a1 = some r) :
  Calls Try.prog 66 #[.string a0, .string a1] w fun e w' => e = .returned (.string r) ∧ Zq w w' := by
 have H : ((stringslite_HasPrefix.f a0 a1).bind fun t115 => (if t115 = true then (if 0 ≤ (a1.size : Int) then (if (a1.size : Int) ≤ (a0.size : Int) then (some (a0.extract ((a1.size : Int) : Int).toNat a0.size)) else (none)) else (none)) else (some a0))) = some r := h
 clear h
 replace H := Option.bind_eq_some_iff.mp H
 obtain ⟨t115, A30, H⟩ := H
 replace H : (if t115 = true then (if 0 ≤ (a1.size : Int) then (if (a1.size : Int) ≤ (a0.size : Int) then (some (a0.extract ((a1.size : Int) : Int).toNat a0.size)) else (none)) else (none)) else (some a0)) = some r := H
 have A3 := Zb.mk A30
 clear A30
 by_cases c4 : t115 = true
 ·subst c4
  have H1 : (if 0 ≤ (a1.size : Int) then (if (a1.size : Int) ≤ (a0.size : Int) then (some (a0.extract ((a1.size : Int) : Int).toNat a0.size)) else (none)) else (none)) = some r := by rw [if_pos rfl] at H; exact H
  clear H
  have H := H1
  clear H1
  by_cases c5 : 0 ≤ (a1.size : Int)
  ·rw [if_pos c5] at H
   have c5b0 := eq_true c5
   have c5b1 : decide (0 ≤ (a1.size : Int)) = true := decide_eq_true c5
   clear c5
   by_cases c6 : (a1.size : Int) ≤ (a0.size : Int)
   ·rw [if_pos c6] at H
    have c6b0 := eq_true c6
    have c6b1 : decide ((a1.size : Int) ≤ (a0.size : Int)) = true := decide_eq_true c6
    clear c6
    obtain rfl := Option.some.inj H
    go_enter Try.func66, Try.ntmps66
    go_wp2_with (first | ((with_reducible refine Zp (f := 67) rfl ?_); refine ZB (some 7) rfl rfl Try.func67 (by kernel_rfl) rfl #[.string a0, .string a1] rfl (by (try simp only [List.map_toArray, List.map_cons, List.map_nil]); first | done | rfl | (simp only [List.length_drop, List.length_take]; rfl)) ?_; (with_reducible refine (stringslite_HasPrefix.calls a0 a1 true _ A3.out).mono ?_); rintro e w' ⟨rfl, ⟨nd, rfl⟩⟩; refine ⟨_, rfl, ?_⟩))
    go_ret
    exact ⟨by first | rfl | (simp; done) | (simp [*]; done), by repeat (first | exact Zq.refl _ | apply Zq.step)⟩
   ·rw [if_neg c6] at H
    exact absurd H (by simp)
  ·rw [if_neg c5] at H
   exact absurd H (by simp)
 ·replace c4 := Bool.eq_false_iff.mpr c4
  subst c4
  have H1 : (some a0) = some r := by rw [if_neg (show ¬ (false = true) by decide)] at H; exact H
  clear H
  have H := H1
  clear H1
  obtain rfl := Option.some.inj H
  go_enter Try.func66, Try.ntmps66
  go_wp2_with (first | ((with_reducible refine Zp (f := 67) rfl ?_); refine ZB (some 7) rfl rfl Try.func67 (by kernel_rfl) rfl #[.string a0, .string a1] rfl (by (try simp only [List.map_toArray, List.map_cons, List.map_nil]); first | done | rfl | (simp only [List.length_drop, List.length_take]; rfl)) ?_; (with_reducible refine (stringslite_HasPrefix.calls a0 a1 false _ A3.out).mono ?_); rintro e w' ⟨rfl, ⟨nd, rfl⟩⟩; refine ⟨_, rfl, ?_⟩))
  go_ret
  exact ⟨by first | rfl | (simp; done) | (simp [*]; done), by repeat (first | exact Zq.refl _ | apply Zq.step)⟩
def strings_TrimPrefix.f (a0 : ByteArray) (a1 : ByteArray) : Option (ByteArray) := (stringslite_TrimPrefix.f a0 a1).bind fun t116 => (some t116)
set_option maxHeartbeats 8000000 in
set_option maxRecDepth 100000 in
theorem strings_TrimPrefix.calls (a0 : ByteArray) (a1 : ByteArray) (r : ByteArray) (w : World) (h : strings_TrimPrefix.f a0 a1 = some r) :
  Calls Try.prog 31 #[.string a0, .string a1] w fun e w' => e = .returned (.string r) ∧ Zq w w' := by
 have H : ((stringslite_TrimPrefix.f a0 a1).bind fun t116 => (some t116)) = some r := h
 clear h
 replace H := Option.bind_eq_some_iff.mp H
 obtain ⟨t116, A30, H⟩ := H
 replace H : (some t116) = some r := H
 have A3 := Zb.mk A30
 clear A30
 obtain rfl := Option.some.inj H
 go_enter Try.func31, Try.ntmps31
 go_wp2_with (first | ((with_reducible refine Zp (f := 66) rfl ?_); refine ZB (some 7) rfl rfl Try.func66 (by kernel_rfl) rfl #[.string a0, .string a1] rfl (by (try simp only [List.map_toArray, List.map_cons, List.map_nil]); first | done | rfl | (simp only [List.length_drop, List.length_take]; rfl)) ?_; (with_reducible refine (stringslite_TrimPrefix.calls a0 a1 t116 _ A3.out).mono ?_); rintro e w' ⟨rfl, ⟨nd, rfl⟩⟩; refine ⟨_, rfl, ?_⟩))
 go_ret
 exact ⟨by first | rfl | (simp; done) | (simp [*]; done), by repeat (first | exact Zq.refl _ | apply Zq.step)⟩
def strings_HasPrefix.f (a0 : ByteArray) (a1 : ByteArray) : Option (Bool) := (stringslite_HasPrefix.f a0 a1).bind fun t117 => (some t117)
set_option maxHeartbeats 8000000 in
set_option maxRecDepth 100000 in
theorem strings_HasPrefix.calls (a0 : ByteArray) (a1 : ByteArray) (r : Bool) (w : World) (h : strings_HasPrefix.f a0 a1 = some r) :
  Calls Try.prog 32 #[.string a0, .string a1] w fun e w' => e = .returned (.bool r) ∧ Zq w w' := by
 have H : ((stringslite_HasPrefix.f a0 a1).bind fun t117 => (some t117)) = some r := h
 clear h
 replace H := Option.bind_eq_some_iff.mp H
 obtain ⟨t117, A30, H⟩ := H
 replace H : (some t117) = some r := H
 have A3 := Zb.mk A30
 clear A30
 obtain rfl := Option.some.inj H
 go_enter Try.func32, Try.ntmps32
 go_wp2_with (first | ((with_reducible refine Zp (f := 67) rfl ?_); refine ZB (some 7) rfl rfl Try.func67 (by kernel_rfl) rfl #[.string a0, .string a1] rfl (by (try simp only [List.map_toArray, List.map_cons, List.map_nil]); first | done | rfl | (simp only [List.length_drop, List.length_take]; rfl)) ?_; (with_reducible refine (stringslite_HasPrefix.calls a0 a1 t117 _ A3.out).mono ?_); rintro e w' ⟨rfl, ⟨nd, rfl⟩⟩; refine ⟨_, rfl, ?_⟩))
 go_ret
 exact ⟨by first | rfl | (simp; done) | (simp [*]; done), by repeat (first | exact Zq.refl _ | apply Zq.step)⟩
end Go.Proofs.Ytbmddlldadbfnaa.BC
end
section
namespace Go.Proofs.Ytbmddlldadbfnaa.BC
open Go.RowKit Go.Proofs.Ytbmddlldadbfnaa.BA Go.Proofs.Ytbmddlldadbfnaa.BB Go.Proofs.Ytbmddlldadbfnaa.BD Go.Proofs.Ytbmddlldadbfnaa.BE Go.Proofs.YtbmddlldadbfnaaW.PrintWords Go.Proofs.YtbmddlldadbfnaaW.PrintLast Go.Proofs.YtbmddlldadbfnaaW.PrintMore
attribute [local go_sem] ZU ZS max_two min_two ZP ZO ZT ZR
set_option linter.unusedVariables false
set_option linter.unusedSimpArgs false
def w19BaseCounts.l0 : Nat → Int → Int → Int → Bool → List Int → Bool → List Int → Int → Option (Bool)
 | 0, _, _, _, _, _, _, _, _ => none
 | k + 1, x1, x6, x11, x125000, x125001, x138000, x138001, x138002 => if x11 < (wrap64 (x6 - 1)) then ((r00Whole.f k x1).bind fun bt138 => ((r00Times.f k x138000 x138001 x138002 bt138.1 bt138.2.1 bt138.2.2).bind fun bt143 => (w19BaseCounts.l0 k x1 x6 (wrap64 (x11 + 1)) x125000 x125001 bt143.1 bt143.2.1 bt143.2.2))) else ((r00Compare.f k x138000 x138001 x138002 false x125001 0).bind fun t149 => (if t149 ≤ 0 then ((r00Whole.f k x1).bind fun bt150 => ((r00Times.f k x138000 x138001 x138002 bt150.1 bt150.2.1 bt150.2.2).bind fun bt155 => ((r00Compare.f k false x125001 0 bt155.1 bt155.2.1 bt155.2.2).bind fun t160 => (if t160 < 0 then ((w19awake.f k).bind fun t161 => (some t161)) else (none))))) else (none)))
def w19BaseCounts.f (k : Nat) (a0_0 : Bool) (l0_1 : List Int) (a1 : Int) : Option (Bool) := (w19of.f a1).bind fun t119 => ((rmWhole_Int.f k a0_0 l0_1 40).bind fun bt120 => ((base_Count.f k bt120.1 bt120.2 t119).bind fun bt125 => ((base_Print.f k bt120.1 bt120.2 t119).bind fun bt127 => (if (wrap64 (bt125.2 + bt127.2)) = 0 then ((strings_TrimPrefix.f bt127.1 (⟨#[45]⟩ : ByteArray)).bind fun t129 => (if (t129.size : Int) = bt125.1 then ((strings_HasPrefix.f bt127.1 (⟨#[45]⟩ : ByteArray)).bind fun t130 => (if (t130 != bt120.1) = true then (none) else (if (bt120.2.length : Int) = 0 then (if bt125.1 = 1 then (if bt127.1.toList = ([48] : List UInt8) then ((w19awake.f k).bind fun t131 => (some t131)) else (none)) else (none)) else ((r00Whole.f k 1).bind fun bt132 => (w19BaseCounts.l0 k t119 bt125.1 0 bt120.1 bt120.2 bt132.1 bt132.2.1 bt132.2.2))))) else (none))) else (none)))))
def w19BaseCounts.T5 : Bool × List (List Nat × List Nat) := (true, [([], []), ([], []), ([0, 1], [0, 1]), ([2], [2]), ([3], [3]), ([4], [4]), ([5, 4, 4], [4, 5]), ([6, 4], [4, 6]), ([4], [4]), ([7, 8, 4], [4, 7, 8]), ([4, 9], [4, 9]), ([10, 6], [10]), ([11], [11]), ([12, 11, 11], [11, 12]), ([11], [11]), ([14, 11], [11, 14]), ([13, 15, 11], [11, 13, 15]), ([11, 16], [11, 16])])
def w19BaseCounts.B5 : List Nat := [0, 0, 3, 7, 15, 31, 63, 127, 31, 511, 1023, 2047, 4095, 8191, 4095, 20479, 65535, 131071]
theorem w19BaseCounts.tab5 : rtab .any (opsOf Try.f8 5) = w19BaseCounts.T5 := by kernel_rfl
theorem w19BaseCounts.bits5 : waitsOk w19BaseCounts.T5.2 w19BaseCounts.B5 = true := by kernel_rfl
def w19BaseCounts.T15 : Bool × List (List Nat × List Nat) := (true, [([], []), ([], []), ([0, 1], [0, 1]), ([2], [2]), ([3, 2], [3]), ([4], [4]), ([4], [4]), ([4], [4]), ([7, 4, 4], [4, 7]), ([6, 8, 8, 4], [4, 6, 8]), ([5, 9, 9, 4], [4, 5, 9]), ([10, 4], [4, 10]), ([4, 11], [4, 11]), ([12, 10], [12]), ([13, 13], [13]), ([13, 14], [13, 14]), ([15, 14, 0, 1, 2, 3, 4, 5, 6, 7, 8, 9, 10, 11, 12, 13, 14, 15], [15])])
def w19BaseCounts.B15 : List Nat := [0, 0, 3, 7, 15, 31, 31, 31, 159, 479, 1023, 2047, 4095, 8191, 16383, 32767, 65535]
theorem w19BaseCounts.tab15 : rtab .any (opsOf Try.f8 15) = w19BaseCounts.T15 := by kernel_rfl
theorem w19BaseCounts.bits15 : waitsOk w19BaseCounts.T15.2 w19BaseCounts.B15 = true := by kernel_rfl
set_option maxHeartbeats 8000000 in
set_option maxRecDepth 100000 in
theorem w19BaseCounts.calls (k : Nat) (a0_0 : Bool) (A0_1 : Option Addr) (c0_1 : Nat) (l0_1 : List Int) (a1 : Int) (r : Bool) (w : World) (hr0_1 : Kd.C (Kd.int .u64) w A0_1 l0_1.length l0_1) (hc0_1 : l0_1.length ≤ c0_1) (h : w19BaseCounts.f k a0_0 l0_1 a1 = some r) :
  Calls Try.prog 8 #[.agg #[.bool a0_0, .slice A0_1 l0_1.length c0_1], .int .i64 a1] w fun e w' => e = .returned (.bool r) ∧ Below w.heap.size w w' := by
 have hu40 := Try.underlying40
 have hu24 := Try.underlying24
 have hu48 := Try.underlying48
 have HR0_1 := Zb.mk hr0_1
 have HC0_1 := Zb.mk hc0_1
 clear hr0_1 hc0_1
 have HB := Zb.mk (Below.refl w.heap.size w)
 have H : ((w19of.f a1).bind fun t119 => ((rmWhole_Int.f k a0_0 l0_1 40).bind fun bt120 => ((base_Count.f k bt120.1 bt120.2 t119).bind fun bt125 => ((base_Print.f k bt120.1 bt120.2 t119).bind fun bt127 => (if (wrap64 (bt125.2 + bt127.2)) = 0 then ((strings_TrimPrefix.f bt127.1 (⟨#[45]⟩ : ByteArray)).bind fun t129 => (if (t129.size : Int) = bt125.1 then ((strings_HasPrefix.f bt127.1 (⟨#[45]⟩ : ByteArray)).bind fun t130 => (if (t130 != bt120.1) = true then (none) else (if (bt120.2.length : Int) = 0 then (if bt125.1 = 1 then (if bt127.1.toList = ([48] : List UInt8) then ((w19awake.f k).bind fun t131 => (some t131)) else (none)) else (none)) else ((r00Whole.f k 1).bind fun bt132 => (w19BaseCounts.l0 k t119 bt125.1 0 bt120.1 bt120.2 bt132.1 bt132.2.1 bt132.2.2))))) else (none))) else (none)))))) = some r := h
 clear h
 replace H := Option.bind_eq_some_iff.mp H
 obtain ⟨t119, A30, H⟩ := H
 replace H : ((rmWhole_Int.f k a0_0 l0_1 40).bind fun bt120 => ((base_Count.f k bt120.1 bt120.2 t119).bind fun bt125 => ((base_Print.f k bt120.1 bt120.2 t119).bind fun bt127 => (if (wrap64 (bt125.2 + bt127.2)) = 0 then ((strings_TrimPrefix.f bt127.1 (⟨#[45]⟩ : ByteArray)).bind fun t129 => (if (t129.size : Int) = bt125.1 then ((strings_HasPrefix.f bt127.1 (⟨#[45]⟩ : ByteArray)).bind fun t130 => (if (t130 != bt120.1) = true then (none) else (if (bt120.2.length : Int) = 0 then (if bt125.1 = 1 then (if bt127.1.toList = ([48] : List UInt8) then ((w19awake.f k).bind fun t131 => (some t131)) else (none)) else (none)) else ((r00Whole.f k 1).bind fun bt132 => (w19BaseCounts.l0 k t119 bt125.1 0 bt120.1 bt120.2 bt132.1 bt132.2.1 bt132.2.2))))) else (none))) else (none))))) = some r := H
 have A3 := Zb.mk A30
 clear A30
 replace H := Option.bind_eq_some_iff.mp H
 obtain ⟨⟨t120, t121⟩, A40, H⟩ := H
 replace H : ((base_Count.f k t120 t121 t119).bind fun bt125 => ((base_Print.f k t120 t121 t119).bind fun bt127 => (if (wrap64 (bt125.2 + bt127.2)) = 0 then ((strings_TrimPrefix.f bt127.1 (⟨#[45]⟩ : ByteArray)).bind fun t129 => (if (t129.size : Int) = bt125.1 then ((strings_HasPrefix.f bt127.1 (⟨#[45]⟩ : ByteArray)).bind fun t130 => (if (t130 != t120) = true then (none) else (if (t121.length : Int) = 0 then (if bt125.1 = 1 then (if bt127.1.toList = ([48] : List UInt8) then ((w19awake.f k).bind fun t131 => (some t131)) else (none)) else (none)) else ((r00Whole.f k 1).bind fun bt132 => (w19BaseCounts.l0 k t119 bt125.1 0 t120 t121 bt132.1 bt132.2.1 bt132.2.2))))) else (none))) else (none)))) = some r := H
 have A4 := Zb.mk A40
 clear A40
 replace H := Option.bind_eq_some_iff.mp H
 obtain ⟨⟨t125, t126⟩, A50, H⟩ := H
 replace H : ((base_Print.f k t120 t121 t119).bind fun bt127 => (if (wrap64 (t126 + bt127.2)) = 0 then ((strings_TrimPrefix.f bt127.1 (⟨#[45]⟩ : ByteArray)).bind fun t129 => (if (t129.size : Int) = t125 then ((strings_HasPrefix.f bt127.1 (⟨#[45]⟩ : ByteArray)).bind fun t130 => (if (t130 != t120) = true then (none) else (if (t121.length : Int) = 0 then (if t125 = 1 then (if bt127.1.toList = ([48] : List UInt8) then ((w19awake.f k).bind fun t131 => (some t131)) else (none)) else (none)) else ((r00Whole.f k 1).bind fun bt132 => (w19BaseCounts.l0 k t119 t125 0 t120 t121 bt132.1 bt132.2.1 bt132.2.2))))) else (none))) else (none))) = some r := H
 have A5 := Zb.mk A50
 clear A50
 replace H := Option.bind_eq_some_iff.mp H
 obtain ⟨⟨t127, t128⟩, A60, H⟩ := H
 replace H : (if (wrap64 (t126 + t128)) = 0 then ((strings_TrimPrefix.f t127 (⟨#[45]⟩ : ByteArray)).bind fun t129 => (if (t129.size : Int) = t125 then ((strings_HasPrefix.f t127 (⟨#[45]⟩ : ByteArray)).bind fun t130 => (if (t130 != t120) = true then (none) else (if (t121.length : Int) = 0 then (if t125 = 1 then (if t127.toList = ([48] : List UInt8) then ((w19awake.f k).bind fun t131 => (some t131)) else (none)) else (none)) else ((r00Whole.f k 1).bind fun bt132 => (w19BaseCounts.l0 k t119 t125 0 t120 t121 bt132.1 bt132.2.1 bt132.2.2))))) else (none))) else (none)) = some r := H
 have A6 := Zb.mk A60
 clear A60
 by_cases c7 : (wrap64 (t126 + t128)) = 0
 ·rw [if_pos c7] at H
  have c7b0 : ((wrap64 (t126 + t128)) == 0) = true := beq_iff_eq.mpr c7
  have c7b1 : ((wrap64 (t126 + t128)) != 0) = false := bne_eq_false_iff_eq.mpr c7
  clear c7
  replace H := Option.bind_eq_some_iff.mp H
  obtain ⟨t129, A80, H⟩ := H
  replace H : (if (t129.size : Int) = t125 then ((strings_HasPrefix.f t127 (⟨#[45]⟩ : ByteArray)).bind fun t130 => (if (t130 != t120) = true then (none) else (if (t121.length : Int) = 0 then (if t125 = 1 then (if t127.toList = ([48] : List UInt8) then ((w19awake.f k).bind fun t131 => (some t131)) else (none)) else (none)) else ((r00Whole.f k 1).bind fun bt132 => (w19BaseCounts.l0 k t119 t125 0 t120 t121 bt132.1 bt132.2.1 bt132.2.2))))) else (none)) = some r := H
  have A8 := Zb.mk A80
  clear A80
  by_cases c9 : (t129.size : Int) = t125
  ·rw [if_pos c9] at H
   have c9b0 : ((t129.size : Int) == t125) = true := beq_iff_eq.mpr c9
   have c9b1 : ((t129.size : Int) != t125) = false := bne_eq_false_iff_eq.mpr c9
   clear c9
   replace H := Option.bind_eq_some_iff.mp H
   obtain ⟨t130, A100, H⟩ := H
   replace H : (if (t130 != t120) = true then (none) else (if (t121.length : Int) = 0 then (if t125 = 1 then (if t127.toList = ([48] : List UInt8) then ((w19awake.f k).bind fun t131 => (some t131)) else (none)) else (none)) else ((r00Whole.f k 1).bind fun bt132 => (w19BaseCounts.l0 k t119 t125 0 t120 t121 bt132.1 bt132.2.1 bt132.2.2)))) = some r := H
   have A10 := Zb.mk A100
   clear A100
   by_cases c11 : (t130 != t120) = true
   ·rw [if_pos c11] at H
    exact absurd H (by simp)
   ·rw [if_neg c11] at H
    have c11b0 : (t130 != t120) = false := by simpa using c11
    (try (have c11b1 : decide (t130 = t120) = true := by simpa using c11))
    (try (have c11b2 : (t130 == t120) = true := by simpa using c11))
    clear c11
    by_cases c12 : (t121.length : Int) = 0
    ·rw [if_pos c12] at H
     have c12b0 : ((t121.length : Int) == 0) = true := beq_iff_eq.mpr c12
     have c12b1 : ((t121.length : Int) != 0) = false := bne_eq_false_iff_eq.mpr c12
     clear c12
     by_cases c13 : t125 = 1
     ·rw [if_pos c13] at H
      have c13b0 : (t125 == 1) = true := beq_iff_eq.mpr c13
      have c13b1 : (t125 != 1) = false := bne_eq_false_iff_eq.mpr c13
      clear c13
      by_cases c14 : t127.toList = ([48] : List UInt8)
      ·rw [if_pos c14] at H
       have c14b0 : (t127.toList == ([48] : List UInt8)) = true := beq_iff_eq.mpr c14
       have c14b1 : (t127.toList != ([48] : List UInt8)) = false := bne_eq_false_iff_eq.mpr c14
       clear c14
       replace H := Option.bind_eq_some_iff.mp H
       obtain ⟨t131, A150, H⟩ := H
       replace H : (some t131) = some r := H
       have A15 := Zb.mk A150
       clear A150
       obtain rfl := Option.some.inj H
       go_enter Try.func8, Try.ntmps8
       try go_wp2_with (first | ((with_reducible refine Zt (N := 2) rfl ?_); (try (refine gate_guard (by rfl) ?_; dsimp only)); refine Zs ?hg (N := 2) ?hd (cs := #[.bool a0_0, .slice A0_1 l0_1.length c0_1]) (t := 40) ?hr ?_; (case hd => rfl); (case hg => rfl); (case hr => first | (go_simp; done) | (go_simp; rfl)); intro gb118 hg w16 hbox hb; have n0_ := Zb.mk (Zl (by repeat (with_reducible first | exact HB.out | apply Zc | apply Za | apply Zd)) hb); have n1_ := Zb.mk (hbox); have n2_ := Zb.mk ((by rw [hg]; exact (Zi (by repeat (with_reducible first | exact HB.out | apply Zc | apply Za | apply Zd))) : w.heap.size ≤ gb118)); have n3_ := Zb.mk ((by rw [hg]; exact (Zi (by repeat (with_reducible first | exact HB.out | apply Zc | apply Za | apply Zd))) : w.heap.size ≤ gb118)); clear HB; have HB := n0_; have BK118 := n1_; have GW118 := n2_; have GE118 := n3_; clear n0_ n1_ n2_ n3_; clear hb hbox hg) | ((with_reducible refine Zp (f := 20) rfl ?_); refine ZB (some 14) rfl rfl Try.func20 (by kernel_rfl) rfl #[.int .i64 a1] rfl (by (try simp only [List.map_toArray, List.map_cons, List.map_nil]); first | done | rfl | (simp only [List.length_drop, List.length_take]; rfl)) ?_; (with_reducible refine (w19of.calls a1 t119 _ A3.out).mono ?_); rintro e w' ⟨rfl, ⟨nd, rfl⟩⟩; refine ⟨_, rfl, ?_⟩; (try (rw [ZK w16]; generalize hq_ : World.drewN w16 _ = w16; have n0_ : Zb (w16.heap[gb118]? = some (.cells #[.bool a0_0, .slice A0_1 l0_1.length c0_1] 40 (0, 0))) := ⟨by rw [← hq_]; exact (by (with_reducible repeat first | refine Ze ?_ _ | refine Zg ?_ | refine Zf ?_ _); exact BK118.out)⟩; have n1_ : Zb (Below w.heap.size w w16) := ⟨by rw [← hq_]; exact (by repeat (with_reducible first | exact HB.out | apply Zc | apply Za | apply Zd | refine Zh ?_ GE118.out))⟩; clear BK118 HB hq_; have BK118 := n0_; have HB := n1_; clear n0_ n1_)); have hcz17_0 : w16.cell? ⟨gb118, 0, none⟩ = some (.bool a0_0) := (Zk BK118.out 0).trans rfl; have hcz17_1 : w16.cell? ⟨gb118, 1, none⟩ = some (.slice A0_1 l0_1.length c0_1) := (Zk BK118.out 1).trans rfl; have hfz17_0 := Zj BK118.out 0; have hfz17_1 := Zj BK118.out 1) | ((with_reducible refine Zp (f := 21) rfl ?_); refine ZB (some 16) rfl rfl Try.func21 (by kernel_rfl) rfl #[.agg #[.bool a0_0, .slice A0_1 l0_1.length c0_1], .int .i64 40] rfl (by (try simp only [List.map_toArray, List.map_cons, List.map_nil]); first | done | rfl | (simp only [List.length_drop, List.length_take]; rfl)) ?_; (with_reducible refine (rmWhole_Int.calls k a0_0 _ _ l0_1 40 t120 t121 _ ?side1 ?side2 A4.out).mono ?_); (case side1 => repeat (first | exact (Kd.C_below HR0_1.out HB.out) | (with_reducible refine Kd.ZC ?_ _) | (with_reducible refine Kd.ZF ?_ _) | (with_reducible refine Kd.ZN ?_))); (case side2 => exact HC0_1.out); rintro e w18 ⟨v122, rfl, ho0, hb⟩; refine ⟨_, rfl, ?_⟩; have n0_ := Zb.mk (Kd.ZG ho0 (Zi (by repeat (with_reducible first | exact HB.out | apply Zc | apply Za | apply Zd | refine Zh ?_ GE118.out)))); have n1_ := Zb.mk (Zn (g := gb118) (o := .cells #[.bool a0_0, .slice A0_1 l0_1.length c0_1] 40 (0, 0)) (by (with_reducible repeat first | refine Ze ?_ _ | refine Zg ?_ | refine Zf ?_ _); exact BK118.out) hb); have n2_ := Zb.mk (Zl (by repeat (with_reducible first | exact HB.out | apply Zc | apply Za | apply Zd | refine Zh ?_ GE118.out)) hb); clear BK118; clear HB; have HO123 := n0_; have BK118 := n1_; have HB := n2_; clear n0_ n1_ n2_; (try clear hb); (try clear hb2); (try clear hk); (try clear hi); (try clear ho0)) | ((with_reducible refine Zt (N := 5) rfl ?_); (try (refine gate_guard (by rfl) ?_; dsimp only)); refine Zs ?hg (N := 5) ?hd (cs := #[.bool false, .slice none 0 0]) (t := 24) ?hr ?_; (case hd => rfl); (case hg => rfl); (case hr => first | (go_simp; done) | (go_simp; rfl)); intro gb124 hg w19 hbox hb; have n0_ := Zb.mk (Kd.Zz (by (with_reducible repeat first | apply Kd.Zm | apply Kd.Zo); exact HO123.out) hb); have n1_ := Zb.mk (Zn (g := gb118) (o := .cells #[.bool a0_0, .slice A0_1 l0_1.length c0_1] 40 (0, 0)) (by (with_reducible repeat first | refine Ze ?_ _ | refine Zg ?_ | refine Zf ?_ _); exact BK118.out) hb); have n2_ := Zb.mk (Zl (by repeat (with_reducible first | exact HB.out | apply Zc | apply Za | apply Zd | refine Zh ?_ GE118.out)) hb); have n3_ := Zb.mk (hbox); have n4_ := Zb.mk ((by rw [hg]; exact (Zi (by repeat (with_reducible first | exact HB.out | apply Zc | apply Za | apply Zd | refine Zh ?_ GE118.out))) : w.heap.size ≤ gb124)); have n5_ := Zb.mk ((by rw [hg]; exact (Zi (by repeat (with_reducible first | exact HB.out | apply Zc | apply Za | apply Zd | refine Zh ?_ GE118.out))) : w.heap.size ≤ gb124)); have n6_ := Zb.mk ((by rw [hg]; exact Nat.ne_of_lt (Zw (g := gb118) (o := .cells #[.bool a0_0, .slice A0_1 l0_1.length c0_1] 40 (0, 0)) (by (with_reducible repeat first | refine Ze ?_ _ | refine Zg ?_ | refine Zf ?_ _); exact BK118.out)) : gb118 ≠ gb124)); have n7_ := Zb.mk ((by rw [hg]; exact Nat.ne_of_gt (Zw (g := gb118) (o := .cells #[.bool a0_0, .slice A0_1 l0_1.length c0_1] 40 (0, 0)) (by (with_reducible repeat first | refine Ze ?_ _ | refine Zg ?_ | refine Zf ?_ _); exact BK118.out)) : gb124 ≠ gb118)); clear HO123; clear BK118; clear HB; have HO123 := n0_; have BK118 := n1_; have HB := n2_; have BK124 := n3_; have GW124 := n4_; have GE124 := n5_; have NB118_124 := n6_; have NB124_118 := n7_; clear n0_ n1_ n2_ n3_ n4_ n5_ n6_ n7_; clear hb hbox hg; have hnb20 := NB124_118.out; have hnc20 := NB118_124.out; have hcz21_0 : w19.cell? ⟨gb124, 0, none⟩ = some (.bool false) := (Zk BK124.out 0).trans rfl; have hcz21_1 : w19.cell? ⟨gb124, 1, none⟩ = some (.slice none 0 0) := (Zk BK124.out 1).trans rfl; have hfz21_0 := Zj BK124.out 0; have hfz21_1 := Zj BK124.out 1; obtain ⟨Ao22, co22, eo22⟩ := Kd.Zy HO123.out; subst eo22) | ((with_reducible refine Zp (f := 14) rfl ?_); refine ZB (some 20) rfl rfl Try.func14 (by kernel_rfl) rfl #[.agg #[.bool t120, .slice Ao22 t121.length co22], .int .i64 t119] rfl (by (try simp only [List.map_toArray, List.map_cons, List.map_nil]); first | done | rfl | (simp only [List.length_drop, List.length_take]; rfl)) ?_; (with_reducible refine (base_Count.calls k t120 _ _ t121 t119 t125 t126 _ ?side1 ?side2 A5.out).mono ?_); (case side1 => refine (Kd.Zv (e := 46) (base := w.heap.size) (ok := fun k_ => True) (n := t121.length) (c := co22) ?_).2.2; exact (by (with_reducible repeat first | apply Kd.Zm | apply Kd.Zo); exact (Kd.ZE (Kd.ZH (p := ⟨gb124, 1, none⟩) (Kd.ZH (p := ⟨gb124, 0, none⟩) (Kd.ZI HO123.out BK124.out (by decide)) (fun _ hk => hk.2) (.bool t120)) (fun _ hk => hk.2) (.slice Ao22 t121.length co22)) (fun _ h_ => h_.1)))); (case side2 => exact (Kd.Zv HO123.out).2.1); rintro e w23 ⟨rfl, hb⟩; refine ⟨_, rfl, ?_⟩; have n0_ := Zb.mk (Kd.Zz (by (with_reducible repeat first | apply Kd.Zm | apply Kd.Zo); exact (Kd.ZE (Kd.ZH (p := ⟨gb124, 1, none⟩) (Kd.ZH (p := ⟨gb124, 0, none⟩) (Kd.ZI HO123.out BK124.out (by decide)) (fun _ hk => hk.2) (.bool t120)) (fun _ hk => hk.2) (.slice Ao22 t121.length co22)) (fun _ h_ => h_.1))) hb); have n1_ := Zb.mk (Zn (g := gb118) (o := .cells #[.bool a0_0, .slice A0_1 l0_1.length c0_1] 40 (0, 0)) (by (with_reducible repeat first | refine Ze ?_ _ | refine Zg ?_ | refine Zf ?_ _); refine Zr ?_ NB118_124.out _; (with_reducible repeat first | refine Ze ?_ _ | refine Zg ?_ | refine Zf ?_ _); refine Zr ?_ NB118_124.out _; (with_reducible repeat first | refine Ze ?_ _ | refine Zg ?_ | refine Zf ?_ _); exact BK118.out) hb); have n2_ := Zb.mk (Zn (g := gb124) (o := .cells #[.bool t120, .slice Ao22 t121.length co22] 24 (0, 0)) (by (with_reducible repeat first | refine Ze ?_ _ | refine Zg ?_ | refine Zf ?_ _); refine Zu (cs := #[.bool t120, .slice none 0 0]) ?_ 1 _ rfl; (with_reducible repeat first | refine Ze ?_ _ | refine Zg ?_ | refine Zf ?_ _); refine Zu (cs := #[.bool false, .slice none 0 0]) ?_ 0 _ rfl; (with_reducible repeat first | refine Ze ?_ _ | refine Zg ?_ | refine Zf ?_ _); exact BK124.out) hb); have n3_ := Zb.mk (Zl (by repeat (with_reducible first | exact HB.out | apply Zc | apply Za | apply Zd | refine Zh ?_ GE118.out | refine Zh ?_ GE124.out)) hb); clear HO123; clear BK118; clear BK124; clear HB; have HO123 := n0_; have BK118 := n1_; have BK124 := n2_; have HB := n3_; clear n0_ n1_ n2_ n3_; (try clear hb); (try clear hb2); (try clear hk); (try clear hi); have hcz24_0 : w23.cell? ⟨gb124, 0, none⟩ = some (.bool t120) := (Zk BK124.out 0).trans rfl; have hcz24_1 : w23.cell? ⟨gb124, 1, none⟩ = some (.slice Ao22 t121.length co22) := (Zk BK124.out 1).trans rfl; have hfz24_0 := Zj BK124.out 0; have hfz24_1 := Zj BK124.out 1) | ((with_reducible refine Zp (f := 12) rfl ?_); refine ZB (some 26) rfl rfl Try.func12 (by kernel_rfl) rfl #[.agg #[.bool t120, .slice Ao22 t121.length co22], .int .i64 t119] rfl (by (try simp only [List.map_toArray, List.map_cons, List.map_nil]); first | done | rfl | (simp only [List.length_drop, List.length_take]; rfl)) ?_; (with_reducible refine (base_Print.calls k t120 _ _ t121 t119 t127 t128 _ ?side1 ?side2 A6.out).mono ?_); (case side1 => repeat (first | exact (Kd.Zv HO123.out).2.2 | (with_reducible refine Kd.ZC ?_ _) | (with_reducible refine Kd.ZF ?_ _) | (with_reducible refine Kd.ZN ?_))); (case side2 => exact (Kd.Zv HO123.out).2.1); rintro e w25 ⟨rfl, hb⟩; refine ⟨_, rfl, ?_⟩; have n0_ := Zb.mk (Kd.Zz (by (with_reducible repeat first | apply Kd.Zm | apply Kd.Zo); exact HO123.out) hb); have n1_ := Zb.mk (Zn (g := gb118) (o := .cells #[.bool a0_0, .slice A0_1 l0_1.length c0_1] 40 (0, 0)) (by (with_reducible repeat first | refine Ze ?_ _ | refine Zg ?_ | refine Zf ?_ _); exact BK118.out) hb); have n2_ := Zb.mk (Zn (g := gb124) (o := .cells #[.bool t120, .slice Ao22 t121.length co22] 24 (0, 0)) (by (with_reducible repeat first | refine Ze ?_ _ | refine Zg ?_ | refine Zf ?_ _); exact BK124.out) hb); have n3_ := Zb.mk (Zl (by repeat (with_reducible first | exact HB.out | apply Zc | apply Za | apply Zd | refine Zh ?_ GE118.out | refine Zh ?_ GE124.out)) hb); clear HO123; clear BK118; clear BK124; clear HB; have HO123 := n0_; have BK118 := n1_; have BK124 := n2_; have HB := n3_; clear n0_ n1_ n2_ n3_; (try clear hb); (try clear hb2); (try clear hk); (try clear hi)))
       have n0_ := Zb.mk (Kd.Zo HO123.out)
       have n1_ := Zb.mk (Zg BK118.out)
       have n2_ := Zb.mk (Zg BK124.out)
       have n3_ := Zb.mk (Zd HB.out)
       clear HO123
       clear BK118
       clear BK124
       clear HB
       have HO123 := n0_
       have BK118 := n1_
       have BK124 := n2_
       have HB := n3_
       clear n0_ n1_ n2_ n3_
       refine start_ (n := 18) (S := fun w' => w'.cell? ⟨gb124, 0, none⟩ = some (.bool t120) ∧ w'.cell? ⟨gb124, 1, none⟩ = some (.slice Ao22 t121.length co22)) (ds := []) #[false, false, false, false, false, false, false, false, false, false, false, false, false, false, false, false, false, false] (by kernel_rfl) rfl rfl ⟨(Zk BK124.out 0).trans rfl, (Zk BK124.out 1).trans rfl⟩ (fun hHeld => ?_); refine with_tabW w19BaseCounts.tab5 w19BaseCounts.bits5 (fun HT_ HW_ => ?_)
       generalize w25.drew = w26 at HO123 BK118 BK124 HB hHeld ⊢
       refine ZM (i := 0) (N := some 29) (v := ?_) (a' := ?_) #[true, false, false, false, false, false, false, false, false, false, false, false, false, false, false, false, false, false] rfl rfl (ZD HT_.out (by kernel_rfl)) (fun _ _ _ h => h) (Or.inl ⟨by rfl, ?_⟩) ?_ ?_
       rotate_left
       ·intro w'
        go_simp
        with_reducible rfl
       rotate_left
       ·simp only [Act.put, List.setIfInBounds_toArray, List.set_cons_zero, List.set_cons_succ, Zx, ZA]
        rfl
       refine ZM (i := 1) (N := some 30) (v := ?_) (a' := ?_) #[true, true, false, false, false, false, false, false, false, false, false, false, false, false, false, false, false, false] rfl rfl (ZD HT_.out (by kernel_rfl)) (fun _ _ _ h => h) (Or.inl ⟨by rfl, ?_⟩) ?_ ?_
       rotate_left
       ·intro w'
        go_simp
        with_reducible rfl
       rotate_left
       ·simp only [Act.put, List.setIfInBounds_toArray, List.set_cons_zero, List.set_cons_succ, Zx, ZA]
        rfl
       refine ZM (i := 2) (N := some 31) (v := ?_) (a' := ?_) #[true, true, true, false, false, false, false, false, false, false, false, false, false, false, false, false, false, false] rfl rfl (ZD HT_.out (by kernel_rfl)) (fun _ _ _ h => h) (Or.inl ⟨by rfl, ?_⟩) ?_ ?_
       rotate_left
       ·intro w'
        go_simp
        with_reducible rfl
       rotate_left
       ·simp only [Act.put, List.setIfInBounds_toArray, List.set_cons_zero, List.set_cons_succ, Zx, ZA]
        rfl
       refine ZM (i := 3) (N := some 32) (v := ?_) (a' := ?_) #[true, true, true, true, false, false, false, false, false, false, false, false, false, false, false, false, false, false] rfl rfl (ZD HT_.out (by kernel_rfl)) (fun _ _ _ h => h) (Or.inl ⟨by rfl, ?_⟩) ?_ ?_
       rotate_left
       ·intro w'
        go_simp
        with_reducible rfl
       rotate_left
       ·simp only [Act.put, List.setIfInBounds_toArray, List.set_cons_zero, List.set_cons_succ, Zx, ZA]
        rfl
       refine ZM (i := 4) (N := some 33) (v := ?_) (a' := ?_) #[true, true, true, true, true, false, false, false, false, false, false, false, false, false, false, false, false, false] rfl rfl (ZD HT_.out (by kernel_rfl)) (fun _ _ _ h => h) (Or.inl ⟨by rfl, ?_⟩) ?_ ?_
       rotate_left
       ·intro w'
        go_simp
        with_reducible rfl
       rotate_left
       ·simp only [Act.put, List.setIfInBounds_toArray, List.set_cons_zero, List.set_cons_succ, Zx, ZA]
        rfl
       refine ZM (i := 5) (N := some 34) (v := ?_) (a' := ?_) #[true, true, true, true, true, true, false, false, false, false, false, false, false, false, false, false, false, false] rfl rfl (ZD HT_.out (by kernel_rfl)) (fun _ _ _ h => h) (Or.inl ⟨by rfl, ?_⟩) ?_ ?_
       rotate_left
       ·intro w'
        go_simp
        with_reducible rfl
       rotate_left
       ·simp only [Act.put, List.setIfInBounds_toArray, List.set_cons_zero, List.set_cons_succ, Zx, ZA]
        rfl
       refine ZM (i := 8) (N := some 37) (v := ?_) (a' := ?_) #[true, true, true, true, true, true, false, false, true, false, false, false, false, false, false, false, false, false] rfl rfl (ZD HT_.out (by kernel_rfl)) (fun _ _ _ h => h) (Or.inl ⟨by rfl, ?_⟩) ?_ ?_
       rotate_left
       ·intro w'
        go_simp
        with_reducible rfl
       rotate_left
       ·simp only [Act.put, List.setIfInBounds_toArray, List.set_cons_zero, List.set_cons_succ, Zx, ZA]
        rfl
       refine one_ (i := 6) (N := some 35) #[true, true, true, true, true, true, true, false, true, false, false, false, false, false, false, false, false, false] rfl rfl (one_of HT_.out (by kernel_rfl)) (by decide) (fun K hK => ?_)
       refine goes_ Try.func31 (by kernel_rfl) rfl #[.string t127, .string (⟨#[45]⟩ : ByteArray)] (by rfl) rfl rfl (by (try simp only [List.map_toArray, List.map_cons, List.map_nil]); first | done | rfl | (simp only [List.length_drop, List.length_take]; rfl)) ?_
       with_reducible refine (strings_TrimPrefix.calls t127 (⟨#[45]⟩ : ByteArray) t129 _ A8.out).mono ?_
       rintro e w' ⟨rfl, ⟨nd, rfl⟩⟩
       refine ⟨_, rfl, ?_⟩
       refine hK.out _ _ ⟨(Zk BK124.out 0).trans rfl, (Zk BK124.out 1).trans rfl⟩ (fun hHeld => ?_)
       clear hK K
       refine norm_ (a' := ?_) ?_ ?_
       rotate_left
       ·show Act.put _ (some 35) _ = _
        simp only [Act.put, List.setIfInBounds_toArray, List.set_cons_zero, List.set_cons_succ, Zx, ZA]
        rfl
       refine ZM (i := 7) (N := some 36) (v := ?_) (a' := ?_) #[true, true, true, true, true, true, true, true, true, false, false, false, false, false, false, false, false, false] rfl rfl (ZD HT_.out (by kernel_rfl)) (fun _ _ _ h => h) (Or.inl ⟨by rfl, ?_⟩) ?_ ?_
       rotate_left
       ·intro w'
        go_simp
        with_reducible rfl
       rotate_left
       ·simp only [Act.put, List.setIfInBounds_toArray, List.set_cons_zero, List.set_cons_succ, Zx, ZA]
        rfl
       refine ZM (i := 9) (N := some 38) (v := ?_) (a' := ?_) #[true, true, true, true, true, true, true, true, true, true, false, false, false, false, false, false, false, false] rfl rfl (ZD HT_.out (by kernel_rfl)) (fun _ _ _ h => h) (Or.inl ⟨by rfl, ?_⟩) ?_ ?_
       rotate_left
       ·intro w'
        go_simp
        with_reducible rfl
       rotate_left
       ·simp only [Act.put, List.setIfInBounds_toArray, List.set_cons_zero, List.set_cons_succ, Zx, ZA]
        rfl
       refine ZM (i := 10) (N := some 39) (v := ?_) (a' := ?_) #[true, true, true, true, true, true, true, true, true, true, true, false, false, false, false, false, false, false] rfl rfl (ZD HT_.out (by kernel_rfl)) (fun _ _ _ h => h) (Or.inl ⟨by rfl, ?_⟩) ?_ ?_
       rotate_left
       ·intro w'
        go_simp
        with_reducible rfl
       rotate_left
       ·simp only [Act.put, List.setIfInBounds_toArray, List.set_cons_zero, List.set_cons_succ, Zx, ZA]
        rfl
       refine ZM (i := 11) (N := some 40) (v := ?_) (a' := ?_) #[true, true, true, true, true, true, true, true, true, true, true, true, false, false, false, false, false, false] rfl rfl (ZD HT_.out (by kernel_rfl)) (fun _ _ _ h => h) (Or.inl ⟨by rfl, ?_⟩) ?_ ?_
       rotate_left
       ·intro w'
        go_simp
        with_reducible rfl
       rotate_left
       ·simp only [Act.put, List.setIfInBounds_toArray, List.set_cons_zero, List.set_cons_succ, Zx, ZA]
        rfl
       refine ZM (i := 12) (N := some 41) (v := ?_) (a' := ?_) #[true, true, true, true, true, true, true, true, true, true, true, true, true, false, false, false, false, false] rfl rfl (ZD HT_.out (by kernel_rfl)) (fun _ _ _ h => h) (Or.inl ⟨by rfl, ?_⟩) ?_ ?_
       rotate_left
       ·intro w'
        go_simp
        with_reducible rfl
       rotate_left
       ·simp only [Act.put, List.setIfInBounds_toArray, List.set_cons_zero, List.set_cons_succ, Zx, ZA]
        rfl
       refine ZM (i := 14) (N := some 43) (v := ?_) (a' := ?_) #[true, true, true, true, true, true, true, true, true, true, true, true, true, false, true, false, false, false] rfl rfl (ZD HT_.out (by kernel_rfl)) (fun _ _ _ h => h) (Or.inl ⟨by rfl, ?_⟩) ?_ ?_
       rotate_left
       ·intro w'
        go_simp
        with_reducible rfl
       rotate_left
       ·simp only [Act.put, List.setIfInBounds_toArray, List.set_cons_zero, List.set_cons_succ, Zx, ZA]
        rfl
       refine take_ (i := 15) (N := some 44) (v := ?_) (a' := ?_) #[true, true, true, true, true, true, true, true, true, true, true, true, true, false, true, true, false, false] rfl rfl (take_ofW HT_.out HW_.out (by kernel_rfl)) (fun _ _ _ h => h) (Or.inl ⟨by rfl, ?_⟩) hHeld ?_ ?_
       rotate_left
       ·rintro w' ⟨s0, s1⟩
        go_simp
        with_reducible rfl
       rotate_left
       ·simp only [Act.put, List.setIfInBounds_toArray, List.set_cons_zero, List.set_cons_succ, Zx, ZA]
        rfl
       refine one_ (i := 13) (N := some 42) #[true, true, true, true, true, true, true, true, true, true, true, true, true, true, true, true, false, false] rfl rfl (one_of HT_.out (by kernel_rfl)) (by decide) (fun K hK => ?_)
       refine goes_ Try.func32 (by kernel_rfl) rfl #[.string t127, .string (⟨#[45]⟩ : ByteArray)] (by rfl) rfl rfl (by (try simp only [List.map_toArray, List.map_cons, List.map_nil]); first | done | rfl | (simp only [List.length_drop, List.length_take]; rfl)) ?_
       with_reducible refine (strings_HasPrefix.calls t127 (⟨#[45]⟩ : ByteArray) t130 _ A10.out).mono ?_
       rintro e w' ⟨rfl, ⟨nd, rfl⟩⟩
       refine ⟨_, rfl, ?_⟩
       refine hK.out _ _ ⟨(Zk BK124.out 0).trans rfl, (Zk BK124.out 1).trans rfl⟩ (fun hHeld => ?_)
       clear hK K
       refine norm_ (a' := ?_) ?_ ?_
       rotate_left
       ·show Act.put _ (some 42) _ = _
        simp only [Act.put, List.setIfInBounds_toArray, List.set_cons_zero, List.set_cons_succ, Zx, ZA]
        rfl
       refine ZM (i := 16) (N := some 45) (v := ?_) (a' := ?_) #[true, true, true, true, true, true, true, true, true, true, true, true, true, true, true, true, true, false] rfl rfl (ZD HT_.out (by kernel_rfl)) (fun _ _ _ h => h) (Or.inl ⟨by rfl, ?_⟩) ?_ ?_
       rotate_left
       ·intro w'
        go_simp
        with_reducible rfl
       rotate_left
       ·simp only [Act.put, List.setIfInBounds_toArray, List.set_cons_zero, List.set_cons_succ, Zx, ZA]
        rfl
       refine ZM (i := 17) (N := some 46) (v := ?_) (a' := ?_) #[true, true, true, true, true, true, true, true, true, true, true, true, true, true, true, true, true, true] rfl rfl (ZD HT_.out (by kernel_rfl)) (fun _ _ _ h => h) (Or.inl ⟨by rfl, ?_⟩) ?_ ?_
       rotate_left
       ·intro w'
        go_simp
        with_reducible rfl
       rotate_left
       ·simp only [Act.put, List.setIfInBounds_toArray, List.set_cons_zero, List.set_cons_succ, Zx, ZA]
        rfl
       refine done_ (done_of HT_.out (by kernel_rfl)) ?_
       have hcz27_0 : w26.cell? ⟨gb124, 0, none⟩ = some (.bool t120) := (Zk BK124.out 0).trans rfl
       have hcz27_1 : w26.cell? ⟨gb124, 1, none⟩ = some (.slice Ao22 t121.length co22) := (Zk BK124.out 1).trans rfl
       have hfz27_0 := Zj BK124.out 0
       have hfz27_1 := Zj BK124.out 1
       try go_wp2_with (first | (go_at_call 10; (with_reducible refine (w19awake.calls k  t131 _ A15.out).mono ?_); rintro e w28 ⟨rfl, hb⟩; have n0_ := Zb.mk (Kd.Zz (by (with_reducible repeat first | apply Kd.Zm | apply Kd.Zo); exact HO123.out) hb); have n1_ := Zb.mk (Zn (g := gb118) (o := .cells #[.bool a0_0, .slice A0_1 l0_1.length c0_1] 40 (0, 0)) (by (with_reducible repeat first | refine Ze ?_ _ | refine Zg ?_ | refine Zf ?_ _); exact BK118.out) hb); have n2_ := Zb.mk (Zn (g := gb124) (o := .cells #[.bool t120, .slice Ao22 t121.length co22] 24 (0, 0)) (by (with_reducible repeat first | refine Ze ?_ _ | refine Zg ?_ | refine Zf ?_ _); exact BK124.out) hb); have n3_ := Zb.mk (Zl (by repeat (with_reducible first | exact HB.out | apply Zc | apply Za | apply Zd | refine Zh ?_ GE118.out | refine Zh ?_ GE124.out)) hb); clear HO123; clear BK118; clear BK124; clear HB; have HO123 := n0_; have BK118 := n1_; have BK124 := n2_; have HB := n3_; clear n0_ n1_ n2_ n3_; (try clear hb); (try clear hb2); (try clear hk); (try clear hi)))
       go_ret
       exact ⟨by first | rfl | (simp [errW_none, errW_some] <;> rfl) | (simp [*, errW_none, errW_some] <;> rfl), by repeat (with_reducible first | exact HB.out | apply Zc | apply Za | apply Zd | refine Zh ?_ GE118.out | refine Zh ?_ GE124.out)⟩
      ·rw [if_neg c14] at H
       exact absurd H (by simp)
     ·rw [if_neg c13] at H
      exact absurd H (by simp)
    ·rw [if_neg c12] at H
     have c12b0 : ((t121.length : Int) == 0) = false := beq_eq_false_iff_ne.mpr c12
     have c12b1 : ((t121.length : Int) != 0) = true := bne_iff_ne.mpr c12
     have c12b2 : ¬ (t121 = []) := fun h_ => c12 (by rw [h_]; rfl)
     replace H := Option.bind_eq_some_iff.mp H
     obtain ⟨⟨t132, t133, t136⟩, A290, H⟩ := H
     replace H : (w19BaseCounts.l0 k t119 t125 0 t120 t121 t132 t133 t136) = some r := H
     have A29 := Zb.mk A290
     clear A290
     have H' := Zb.mk H
     clear H
     go_enter Try.func8, Try.ntmps8
     try go_wp2_with (first | ((with_reducible refine Zt (N := 2) rfl ?_); (try (refine gate_guard (by rfl) ?_; dsimp only)); refine Zs ?hg (N := 2) ?hd (cs := #[.bool a0_0, .slice A0_1 l0_1.length c0_1]) (t := 40) ?hr ?_; (case hd => rfl); (case hg => rfl); (case hr => first | (go_simp; done) | (go_simp; rfl)); intro gb118 hg w30 hbox hb; have n0_ := Zb.mk (Zl (by repeat (with_reducible first | exact HB.out | apply Zc | apply Za | apply Zd)) hb); have n1_ := Zb.mk (hbox); have n2_ := Zb.mk ((by rw [hg]; exact (Zi (by repeat (with_reducible first | exact HB.out | apply Zc | apply Za | apply Zd))) : w.heap.size ≤ gb118)); have n3_ := Zb.mk ((by rw [hg]; exact (Zi (by repeat (with_reducible first | exact HB.out | apply Zc | apply Za | apply Zd))) : w.heap.size ≤ gb118)); clear HB; have HB := n0_; have BK118 := n1_; have GW118 := n2_; have GE118 := n3_; clear n0_ n1_ n2_ n3_; clear hb hbox hg) | ((with_reducible refine Zp (f := 20) rfl ?_); refine ZB (some 14) rfl rfl Try.func20 (by kernel_rfl) rfl #[.int .i64 a1] rfl (by (try simp only [List.map_toArray, List.map_cons, List.map_nil]); first | done | rfl | (simp only [List.length_drop, List.length_take]; rfl)) ?_; (with_reducible refine (w19of.calls a1 t119 _ A3.out).mono ?_); rintro e w' ⟨rfl, ⟨nd, rfl⟩⟩; refine ⟨_, rfl, ?_⟩; (try (rw [ZK w30]; generalize hq_ : World.drewN w30 _ = w30; have n0_ : Zb (w30.heap[gb118]? = some (.cells #[.bool a0_0, .slice A0_1 l0_1.length c0_1] 40 (0, 0))) := ⟨by rw [← hq_]; exact (by (with_reducible repeat first | refine Ze ?_ _ | refine Zg ?_ | refine Zf ?_ _); exact BK118.out)⟩; have n1_ : Zb (Below w.heap.size w w30) := ⟨by rw [← hq_]; exact (by repeat (with_reducible first | exact HB.out | apply Zc | apply Za | apply Zd | refine Zh ?_ GE118.out))⟩; clear BK118 HB hq_; have BK118 := n0_; have HB := n1_; clear n0_ n1_)); have hcz31_0 : w30.cell? ⟨gb118, 0, none⟩ = some (.bool a0_0) := (Zk BK118.out 0).trans rfl; have hcz31_1 : w30.cell? ⟨gb118, 1, none⟩ = some (.slice A0_1 l0_1.length c0_1) := (Zk BK118.out 1).trans rfl; have hfz31_0 := Zj BK118.out 0; have hfz31_1 := Zj BK118.out 1) | ((with_reducible refine Zp (f := 21) rfl ?_); refine ZB (some 16) rfl rfl Try.func21 (by kernel_rfl) rfl #[.agg #[.bool a0_0, .slice A0_1 l0_1.length c0_1], .int .i64 40] rfl (by (try simp only [List.map_toArray, List.map_cons, List.map_nil]); first | done | rfl | (simp only [List.length_drop, List.length_take]; rfl)) ?_; (with_reducible refine (rmWhole_Int.calls k a0_0 _ _ l0_1 40 t120 t121 _ ?side1 ?side2 A4.out).mono ?_); (case side1 => repeat (first | exact (Kd.C_below HR0_1.out HB.out) | (with_reducible refine Kd.ZC ?_ _) | (with_reducible refine Kd.ZF ?_ _) | (with_reducible refine Kd.ZN ?_))); (case side2 => exact HC0_1.out); rintro e w32 ⟨v122, rfl, ho0, hb⟩; refine ⟨_, rfl, ?_⟩; have n0_ := Zb.mk (Kd.ZG ho0 (Zi (by repeat (with_reducible first | exact HB.out | apply Zc | apply Za | apply Zd | refine Zh ?_ GE118.out)))); have n1_ := Zb.mk (Zn (g := gb118) (o := .cells #[.bool a0_0, .slice A0_1 l0_1.length c0_1] 40 (0, 0)) (by (with_reducible repeat first | refine Ze ?_ _ | refine Zg ?_ | refine Zf ?_ _); exact BK118.out) hb); have n2_ := Zb.mk (Zl (by repeat (with_reducible first | exact HB.out | apply Zc | apply Za | apply Zd | refine Zh ?_ GE118.out)) hb); clear BK118; clear HB; have HO123 := n0_; have BK118 := n1_; have HB := n2_; clear n0_ n1_ n2_; (try clear hb); (try clear hb2); (try clear hk); (try clear hi); (try clear ho0)) | ((with_reducible refine Zt (N := 5) rfl ?_); (try (refine gate_guard (by rfl) ?_; dsimp only)); refine Zs ?hg (N := 5) ?hd (cs := #[.bool false, .slice none 0 0]) (t := 24) ?hr ?_; (case hd => rfl); (case hg => rfl); (case hr => first | (go_simp; done) | (go_simp; rfl)); intro gb124 hg w33 hbox hb; have n0_ := Zb.mk (Kd.Zz (by (with_reducible repeat first | apply Kd.Zm | apply Kd.Zo); exact HO123.out) hb); have n1_ := Zb.mk (Zn (g := gb118) (o := .cells #[.bool a0_0, .slice A0_1 l0_1.length c0_1] 40 (0, 0)) (by (with_reducible repeat first | refine Ze ?_ _ | refine Zg ?_ | refine Zf ?_ _); exact BK118.out) hb); have n2_ := Zb.mk (Zl (by repeat (with_reducible first | exact HB.out | apply Zc | apply Za | apply Zd | refine Zh ?_ GE118.out)) hb); have n3_ := Zb.mk (hbox); have n4_ := Zb.mk ((by rw [hg]; exact (Zi (by repeat (with_reducible first | exact HB.out | apply Zc | apply Za | apply Zd | refine Zh ?_ GE118.out))) : w.heap.size ≤ gb124)); have n5_ := Zb.mk ((by rw [hg]; exact (Zi (by repeat (with_reducible first | exact HB.out | apply Zc | apply Za | apply Zd | refine Zh ?_ GE118.out))) : w.heap.size ≤ gb124)); have n6_ := Zb.mk ((by rw [hg]; exact Nat.ne_of_lt (Zw (g := gb118) (o := .cells #[.bool a0_0, .slice A0_1 l0_1.length c0_1] 40 (0, 0)) (by (with_reducible repeat first | refine Ze ?_ _ | refine Zg ?_ | refine Zf ?_ _); exact BK118.out)) : gb118 ≠ gb124)); have n7_ := Zb.mk ((by rw [hg]; exact Nat.ne_of_gt (Zw (g := gb118) (o := .cells #[.bool a0_0, .slice A0_1 l0_1.length c0_1] 40 (0, 0)) (by (with_reducible repeat first | refine Ze ?_ _ | refine Zg ?_ | refine Zf ?_ _); exact BK118.out)) : gb124 ≠ gb118)); clear HO123; clear BK118; clear HB; have HO123 := n0_; have BK118 := n1_; have HB := n2_; have BK124 := n3_; have GW124 := n4_; have GE124 := n5_; have NB118_124 := n6_; have NB124_118 := n7_; clear n0_ n1_ n2_ n3_ n4_ n5_ n6_ n7_; clear hb hbox hg; have hnb34 := NB124_118.out; have hnc34 := NB118_124.out; have hcz35_0 : w33.cell? ⟨gb124, 0, none⟩ = some (.bool false) := (Zk BK124.out 0).trans rfl; have hcz35_1 : w33.cell? ⟨gb124, 1, none⟩ = some (.slice none 0 0) := (Zk BK124.out 1).trans rfl; have hfz35_0 := Zj BK124.out 0; have hfz35_1 := Zj BK124.out 1; obtain ⟨Ao36, co36, eo36⟩ := Kd.Zy HO123.out; subst eo36) | ((with_reducible refine Zp (f := 14) rfl ?_); refine ZB (some 20) rfl rfl Try.func14 (by kernel_rfl) rfl #[.agg #[.bool t120, .slice Ao36 t121.length co36], .int .i64 t119] rfl (by (try simp only [List.map_toArray, List.map_cons, List.map_nil]); first | done | rfl | (simp only [List.length_drop, List.length_take]; rfl)) ?_; (with_reducible refine (base_Count.calls k t120 _ _ t121 t119 t125 t126 _ ?side1 ?side2 A5.out).mono ?_); (case side1 => refine (Kd.Zv (e := 46) (base := w.heap.size) (ok := fun k_ => True) (n := t121.length) (c := co36) ?_).2.2; exact (by (with_reducible repeat first | apply Kd.Zm | apply Kd.Zo); exact (Kd.ZE (Kd.ZH (p := ⟨gb124, 1, none⟩) (Kd.ZH (p := ⟨gb124, 0, none⟩) (Kd.ZI HO123.out BK124.out (by decide)) (fun _ hk => hk.2) (.bool t120)) (fun _ hk => hk.2) (.slice Ao36 t121.length co36)) (fun _ h_ => h_.1)))); (case side2 => exact (Kd.Zv HO123.out).2.1); rintro e w37 ⟨rfl, hb⟩; refine ⟨_, rfl, ?_⟩; have n0_ := Zb.mk (Kd.Zz (by (with_reducible repeat first | apply Kd.Zm | apply Kd.Zo); exact (Kd.ZE (Kd.ZH (p := ⟨gb124, 1, none⟩) (Kd.ZH (p := ⟨gb124, 0, none⟩) (Kd.ZI HO123.out BK124.out (by decide)) (fun _ hk => hk.2) (.bool t120)) (fun _ hk => hk.2) (.slice Ao36 t121.length co36)) (fun _ h_ => h_.1))) hb); have n1_ := Zb.mk (Zn (g := gb118) (o := .cells #[.bool a0_0, .slice A0_1 l0_1.length c0_1] 40 (0, 0)) (by (with_reducible repeat first | refine Ze ?_ _ | refine Zg ?_ | refine Zf ?_ _); refine Zr ?_ NB118_124.out _; (with_reducible repeat first | refine Ze ?_ _ | refine Zg ?_ | refine Zf ?_ _); refine Zr ?_ NB118_124.out _; (with_reducible repeat first | refine Ze ?_ _ | refine Zg ?_ | refine Zf ?_ _); exact BK118.out) hb); have n2_ := Zb.mk (Zn (g := gb124) (o := .cells #[.bool t120, .slice Ao36 t121.length co36] 24 (0, 0)) (by (with_reducible repeat first | refine Ze ?_ _ | refine Zg ?_ | refine Zf ?_ _); refine Zu (cs := #[.bool t120, .slice none 0 0]) ?_ 1 _ rfl; (with_reducible repeat first | refine Ze ?_ _ | refine Zg ?_ | refine Zf ?_ _); refine Zu (cs := #[.bool false, .slice none 0 0]) ?_ 0 _ rfl; (with_reducible repeat first | refine Ze ?_ _ | refine Zg ?_ | refine Zf ?_ _); exact BK124.out) hb); have n3_ := Zb.mk (Zl (by repeat (with_reducible first | exact HB.out | apply Zc | apply Za | apply Zd | refine Zh ?_ GE118.out | refine Zh ?_ GE124.out)) hb); clear HO123; clear BK118; clear BK124; clear HB; have HO123 := n0_; have BK118 := n1_; have BK124 := n2_; have HB := n3_; clear n0_ n1_ n2_ n3_; (try clear hb); (try clear hb2); (try clear hk); (try clear hi); have hcz38_0 : w37.cell? ⟨gb124, 0, none⟩ = some (.bool t120) := (Zk BK124.out 0).trans rfl; have hcz38_1 : w37.cell? ⟨gb124, 1, none⟩ = some (.slice Ao36 t121.length co36) := (Zk BK124.out 1).trans rfl; have hfz38_0 := Zj BK124.out 0; have hfz38_1 := Zj BK124.out 1) | ((with_reducible refine Zp (f := 12) rfl ?_); refine ZB (some 26) rfl rfl Try.func12 (by kernel_rfl) rfl #[.agg #[.bool t120, .slice Ao36 t121.length co36], .int .i64 t119] rfl (by (try simp only [List.map_toArray, List.map_cons, List.map_nil]); first | done | rfl | (simp only [List.length_drop, List.length_take]; rfl)) ?_; (with_reducible refine (base_Print.calls k t120 _ _ t121 t119 t127 t128 _ ?side1 ?side2 A6.out).mono ?_); (case side1 => repeat (first | exact (Kd.Zv HO123.out).2.2 | (with_reducible refine Kd.ZC ?_ _) | (with_reducible refine Kd.ZF ?_ _) | (with_reducible refine Kd.ZN ?_))); (case side2 => exact (Kd.Zv HO123.out).2.1); rintro e w39 ⟨rfl, hb⟩; refine ⟨_, rfl, ?_⟩; have n0_ := Zb.mk (Kd.Zz (by (with_reducible repeat first | apply Kd.Zm | apply Kd.Zo); exact HO123.out) hb); have n1_ := Zb.mk (Zn (g := gb118) (o := .cells #[.bool a0_0, .slice A0_1 l0_1.length c0_1] 40 (0, 0)) (by (with_reducible repeat first | refine Ze ?_ _ | refine Zg ?_ | refine Zf ?_ _); exact BK118.out) hb); have n2_ := Zb.mk (Zn (g := gb124) (o := .cells #[.bool t120, .slice Ao36 t121.length co36] 24 (0, 0)) (by (with_reducible repeat first | refine Ze ?_ _ | refine Zg ?_ | refine Zf ?_ _); exact BK124.out) hb); have n3_ := Zb.mk (Zl (by repeat (with_reducible first | exact HB.out | apply Zc | apply Za | apply Zd | refine Zh ?_ GE118.out | refine Zh ?_ GE124.out)) hb); clear HO123; clear BK118; clear BK124; clear HB; have HO123 := n0_; have BK118 := n1_; have BK124 := n2_; have HB := n3_; clear n0_ n1_ n2_ n3_; (try clear hb); (try clear hb2); (try clear hk); (try clear hi)))
     have n0_ := Zb.mk (Kd.Zo HO123.out)
     have n1_ := Zb.mk (Zg BK118.out)
     have n2_ := Zb.mk (Zg BK124.out)
     have n3_ := Zb.mk (Zd HB.out)
     clear HO123
     clear BK118
     clear BK124
     clear HB
     have HO123 := n0_
     have BK118 := n1_
     have BK124 := n2_
     have HB := n3_
     clear n0_ n1_ n2_ n3_
     refine start_ (n := 18) (S := fun w' => w'.cell? ⟨gb124, 0, none⟩ = some (.bool t120) ∧ w'.cell? ⟨gb124, 1, none⟩ = some (.slice Ao36 t121.length co36)) (ds := []) #[false, false, false, false, false, false, false, false, false, false, false, false, false, false, false, false, false, false] (by kernel_rfl) rfl rfl ⟨(Zk BK124.out 0).trans rfl, (Zk BK124.out 1).trans rfl⟩ (fun hHeld => ?_); refine with_tabW w19BaseCounts.tab5 w19BaseCounts.bits5 (fun HT_ HW_ => ?_)
     generalize w39.drew = w40 at HO123 BK118 BK124 HB hHeld ⊢
     refine ZM (i := 0) (N := some 29) (v := ?_) (a' := ?_) #[true, false, false, false, false, false, false, false, false, false, false, false, false, false, false, false, false, false] rfl rfl (ZD HT_.out (by kernel_rfl)) (fun _ _ _ h => h) (Or.inl ⟨by rfl, ?_⟩) ?_ ?_
     rotate_left
     ·intro w'
      go_simp
      with_reducible rfl
     rotate_left
     ·simp only [Act.put, List.setIfInBounds_toArray, List.set_cons_zero, List.set_cons_succ, Zx, ZA]
      rfl
     refine ZM (i := 1) (N := some 30) (v := ?_) (a' := ?_) #[true, true, false, false, false, false, false, false, false, false, false, false, false, false, false, false, false, false] rfl rfl (ZD HT_.out (by kernel_rfl)) (fun _ _ _ h => h) (Or.inl ⟨by rfl, ?_⟩) ?_ ?_
     rotate_left
     ·intro w'
      go_simp
      with_reducible rfl
     rotate_left
     ·simp only [Act.put, List.setIfInBounds_toArray, List.set_cons_zero, List.set_cons_succ, Zx, ZA]
      rfl
     refine ZM (i := 2) (N := some 31) (v := ?_) (a' := ?_) #[true, true, true, false, false, false, false, false, false, false, false, false, false, false, false, false, false, false] rfl rfl (ZD HT_.out (by kernel_rfl)) (fun _ _ _ h => h) (Or.inl ⟨by rfl, ?_⟩) ?_ ?_
     rotate_left
     ·intro w'
      go_simp
      with_reducible rfl
     rotate_left
     ·simp only [Act.put, List.setIfInBounds_toArray, List.set_cons_zero, List.set_cons_succ, Zx, ZA]
      rfl
     refine ZM (i := 3) (N := some 32) (v := ?_) (a' := ?_) #[true, true, true, true, false, false, false, false, false, false, false, false, false, false, false, false, false, false] rfl rfl (ZD HT_.out (by kernel_rfl)) (fun _ _ _ h => h) (Or.inl ⟨by rfl, ?_⟩) ?_ ?_
     rotate_left
     ·intro w'
      go_simp
      with_reducible rfl
     rotate_left
     ·simp only [Act.put, List.setIfInBounds_toArray, List.set_cons_zero, List.set_cons_succ, Zx, ZA]
      rfl
     refine ZM (i := 4) (N := some 33) (v := ?_) (a' := ?_) #[true, true, true, true, true, false, false, false, false, false, false, false, false, false, false, false, false, false] rfl rfl (ZD HT_.out (by kernel_rfl)) (fun _ _ _ h => h) (Or.inl ⟨by rfl, ?_⟩) ?_ ?_
     rotate_left
     ·intro w'
      go_simp
      with_reducible rfl
     rotate_left
     ·simp only [Act.put, List.setIfInBounds_toArray, List.set_cons_zero, List.set_cons_succ, Zx, ZA]
      rfl
     refine ZM (i := 5) (N := some 34) (v := ?_) (a' := ?_) #[true, true, true, true, true, true, false, false, false, false, false, false, false, false, false, false, false, false] rfl rfl (ZD HT_.out (by kernel_rfl)) (fun _ _ _ h => h) (Or.inl ⟨by rfl, ?_⟩) ?_ ?_
     rotate_left
     ·intro w'
      go_simp
      with_reducible rfl
     rotate_left
     ·simp only [Act.put, List.setIfInBounds_toArray, List.set_cons_zero, List.set_cons_succ, Zx, ZA]
      rfl
     refine ZM (i := 8) (N := some 37) (v := ?_) (a' := ?_) #[true, true, true, true, true, true, false, false, true, false, false, false, false, false, false, false, false, false] rfl rfl (ZD HT_.out (by kernel_rfl)) (fun _ _ _ h => h) (Or.inl ⟨by rfl, ?_⟩) ?_ ?_
     rotate_left
     ·intro w'
      go_simp
      with_reducible rfl
     rotate_left
     ·simp only [Act.put, List.setIfInBounds_toArray, List.set_cons_zero, List.set_cons_succ, Zx, ZA]
      rfl
     refine one_ (i := 6) (N := some 35) #[true, true, true, true, true, true, true, false, true, false, false, false, false, false, false, false, false, false] rfl rfl (one_of HT_.out (by kernel_rfl)) (by decide) (fun K hK => ?_)
     refine goes_ Try.func31 (by kernel_rfl) rfl #[.string t127, .string (⟨#[45]⟩ : ByteArray)] (by rfl) rfl rfl (by (try simp only [List.map_toArray, List.map_cons, List.map_nil]); first | done | rfl | (simp only [List.length_drop, List.length_take]; rfl)) ?_
     with_reducible refine (strings_TrimPrefix.calls t127 (⟨#[45]⟩ : ByteArray) t129 _ A8.out).mono ?_
     rintro e w' ⟨rfl, ⟨nd, rfl⟩⟩
     refine ⟨_, rfl, ?_⟩
     refine hK.out _ _ ⟨(Zk BK124.out 0).trans rfl, (Zk BK124.out 1).trans rfl⟩ (fun hHeld => ?_)
     clear hK K
     refine norm_ (a' := ?_) ?_ ?_
     rotate_left
     ·show Act.put _ (some 35) _ = _
      simp only [Act.put, List.setIfInBounds_toArray, List.set_cons_zero, List.set_cons_succ, Zx, ZA]
      rfl
     refine ZM (i := 7) (N := some 36) (v := ?_) (a' := ?_) #[true, true, true, true, true, true, true, true, true, false, false, false, false, false, false, false, false, false] rfl rfl (ZD HT_.out (by kernel_rfl)) (fun _ _ _ h => h) (Or.inl ⟨by rfl, ?_⟩) ?_ ?_
     rotate_left
     ·intro w'
      go_simp
      with_reducible rfl
     rotate_left
     ·simp only [Act.put, List.setIfInBounds_toArray, List.set_cons_zero, List.set_cons_succ, Zx, ZA]
      rfl
     refine ZM (i := 9) (N := some 38) (v := ?_) (a' := ?_) #[true, true, true, true, true, true, true, true, true, true, false, false, false, false, false, false, false, false] rfl rfl (ZD HT_.out (by kernel_rfl)) (fun _ _ _ h => h) (Or.inl ⟨by rfl, ?_⟩) ?_ ?_
     rotate_left
     ·intro w'
      go_simp
      with_reducible rfl
     rotate_left
     ·simp only [Act.put, List.setIfInBounds_toArray, List.set_cons_zero, List.set_cons_succ, Zx, ZA]
      rfl
     refine ZM (i := 10) (N := some 39) (v := ?_) (a' := ?_) #[true, true, true, true, true, true, true, true, true, true, true, false, false, false, false, false, false, false] rfl rfl (ZD HT_.out (by kernel_rfl)) (fun _ _ _ h => h) (Or.inl ⟨by rfl, ?_⟩) ?_ ?_
     rotate_left
     ·intro w'
      go_simp
      with_reducible rfl
     rotate_left
     ·simp only [Act.put, List.setIfInBounds_toArray, List.set_cons_zero, List.set_cons_succ, Zx, ZA]
      rfl
     refine ZM (i := 11) (N := some 40) (v := ?_) (a' := ?_) #[true, true, true, true, true, true, true, true, true, true, true, true, false, false, false, false, false, false] rfl rfl (ZD HT_.out (by kernel_rfl)) (fun _ _ _ h => h) (Or.inl ⟨by rfl, ?_⟩) ?_ ?_
     rotate_left
     ·intro w'
      go_simp
      with_reducible rfl
     rotate_left
     ·simp only [Act.put, List.setIfInBounds_toArray, List.set_cons_zero, List.set_cons_succ, Zx, ZA]
      rfl
     refine ZM (i := 12) (N := some 41) (v := ?_) (a' := ?_) #[true, true, true, true, true, true, true, true, true, true, true, true, true, false, false, false, false, false] rfl rfl (ZD HT_.out (by kernel_rfl)) (fun _ _ _ h => h) (Or.inl ⟨by rfl, ?_⟩) ?_ ?_
     rotate_left
     ·intro w'
      go_simp
      with_reducible rfl
     rotate_left
     ·simp only [Act.put, List.setIfInBounds_toArray, List.set_cons_zero, List.set_cons_succ, Zx, ZA]
      rfl
     refine ZM (i := 14) (N := some 43) (v := ?_) (a' := ?_) #[true, true, true, true, true, true, true, true, true, true, true, true, true, false, true, false, false, false] rfl rfl (ZD HT_.out (by kernel_rfl)) (fun _ _ _ h => h) (Or.inl ⟨by rfl, ?_⟩) ?_ ?_
     rotate_left
     ·intro w'
      go_simp
      with_reducible rfl
     rotate_left
     ·simp only [Act.put, List.setIfInBounds_toArray, List.set_cons_zero, List.set_cons_succ, Zx, ZA]
      rfl
     refine take_ (i := 15) (N := some 44) (v := ?_) (a' := ?_) #[true, true, true, true, true, true, true, true, true, true, true, true, true, false, true, true, false, false] rfl rfl (take_ofW HT_.out HW_.out (by kernel_rfl)) (fun _ _ _ h => h) (Or.inl ⟨by rfl, ?_⟩) hHeld ?_ ?_
     rotate_left
     ·rintro w' ⟨s0, s1⟩
      go_simp
      with_reducible rfl
     rotate_left
     ·simp only [Act.put, List.setIfInBounds_toArray, List.set_cons_zero, List.set_cons_succ, Zx, ZA]
      rfl
     refine one_ (i := 13) (N := some 42) #[true, true, true, true, true, true, true, true, true, true, true, true, true, true, true, true, false, false] rfl rfl (one_of HT_.out (by kernel_rfl)) (by decide) (fun K hK => ?_)
     refine goes_ Try.func32 (by kernel_rfl) rfl #[.string t127, .string (⟨#[45]⟩ : ByteArray)] (by rfl) rfl rfl (by (try simp only [List.map_toArray, List.map_cons, List.map_nil]); first | done | rfl | (simp only [List.length_drop, List.length_take]; rfl)) ?_
     with_reducible refine (strings_HasPrefix.calls t127 (⟨#[45]⟩ : ByteArray) t130 _ A10.out).mono ?_
     rintro e w' ⟨rfl, ⟨nd, rfl⟩⟩
     refine ⟨_, rfl, ?_⟩
     refine hK.out _ _ ⟨(Zk BK124.out 0).trans rfl, (Zk BK124.out 1).trans rfl⟩ (fun hHeld => ?_)
     clear hK K
     refine norm_ (a' := ?_) ?_ ?_
     rotate_left
     ·show Act.put _ (some 42) _ = _
      simp only [Act.put, List.setIfInBounds_toArray, List.set_cons_zero, List.set_cons_succ, Zx, ZA]
      rfl
     refine ZM (i := 16) (N := some 45) (v := ?_) (a' := ?_) #[true, true, true, true, true, true, true, true, true, true, true, true, true, true, true, true, true, false] rfl rfl (ZD HT_.out (by kernel_rfl)) (fun _ _ _ h => h) (Or.inl ⟨by rfl, ?_⟩) ?_ ?_
     rotate_left
     ·intro w'
      go_simp
      with_reducible rfl
     rotate_left
     ·simp only [Act.put, List.setIfInBounds_toArray, List.set_cons_zero, List.set_cons_succ, Zx, ZA]
      rfl
     refine ZM (i := 17) (N := some 46) (v := ?_) (a' := ?_) #[true, true, true, true, true, true, true, true, true, true, true, true, true, true, true, true, true, true] rfl rfl (ZD HT_.out (by kernel_rfl)) (fun _ _ _ h => h) (Or.inl ⟨by rfl, ?_⟩) ?_ ?_
     rotate_left
     ·intro w'
      go_simp
      with_reducible rfl
     rotate_left
     ·simp only [Act.put, List.setIfInBounds_toArray, List.set_cons_zero, List.set_cons_succ, Zx, ZA]
      rfl
     refine done_ (done_of HT_.out (by kernel_rfl)) ?_
     have hcz41_0 : w40.cell? ⟨gb124, 0, none⟩ = some (.bool t120) := (Zk BK124.out 0).trans rfl
     have hcz41_1 : w40.cell? ⟨gb124, 1, none⟩ = some (.slice Ao36 t121.length co36) := (Zk BK124.out 1).trans rfl
     have hfz41_0 := Zj BK124.out 0
     have hfz41_1 := Zj BK124.out 1
     try go_wp2_with (first | ((with_reducible refine Zp (f := 27) rfl ?_); refine ZB (some 60) rfl rfl Try.func27 (by kernel_rfl) rfl #[.int .i64 1] rfl (by (try simp only [List.map_toArray, List.map_cons, List.map_nil]); first | done | rfl | (simp only [List.length_drop, List.length_take]; rfl)) ?_; (with_reducible refine (r00Whole.calls k 1 t132 t133 t136 _ A29.out).mono ?_); rintro e w42 ⟨v134, rfl, ho0, hb⟩; refine ⟨_, rfl, ?_⟩; have n0_ := Zb.mk (Kd.ZJ (by (with_reducible repeat first | apply Kd.Zm | apply Kd.Zo); exact HO123.out) (Kd.ZV ho0) hb); have n1_ := Zb.mk (Kd.ZG (Kd.R_new' ho0 (Kd.R_lt (by (with_reducible repeat first | apply Kd.Zm | apply Kd.Zo); exact HO123.out))) (Zi (by repeat (with_reducible first | exact HB.out | apply Zc | apply Za | apply Zd | refine Zh ?_ GE118.out | refine Zh ?_ GE124.out)))); have n2_ := Zb.mk (Zn (g := gb118) (o := .cells #[.bool a0_0, .slice A0_1 l0_1.length c0_1] 40 (0, 0)) (by (with_reducible repeat first | refine Ze ?_ _ | refine Zg ?_ | refine Zf ?_ _); exact BK118.out) hb); have n3_ := Zb.mk (Zn (g := gb124) (o := .cells #[.bool t120, .slice Ao36 t121.length co36] 24 (0, 0)) (by (with_reducible repeat first | refine Ze ?_ _ | refine Zg ?_ | refine Zf ?_ _); exact BK124.out) hb); have n4_ := Zb.mk (Zl (by repeat (with_reducible first | exact HB.out | apply Zc | apply Za | apply Zd | refine Zh ?_ GE118.out | refine Zh ?_ GE124.out)) hb); clear HO123; clear BK118; clear BK124; clear HB; have HO123 := n0_; have HO135 := n1_; have BK118 := n2_; have BK124 := n3_; have HB := n4_; clear n0_ n1_ n2_ n3_ n4_; (try clear hb); (try clear hb2); (try clear hk); (try clear hi); (try clear ho0)) | ((with_reducible refine Zt (N := 10) rfl ?_); (try (refine gate_guard (by rfl) ?_; dsimp only)); refine Zs ?hg (N := 10) ?hd (cs := #[.bool false, .slice none 0 0, .int .i64 0]) (t := 48) ?hr ?_; (case hd => rfl); (case hg => rfl); (case hr => first | (go_simp; done) | (go_simp; rfl)); intro gb137 hg w43 hbox hb; have n0_ := Zb.mk (Kd.Zz (by (with_reducible repeat first | apply Kd.Zm | apply Kd.Zo); exact HO123.out) hb); have n1_ := Zb.mk (Kd.Zz (by (with_reducible repeat first | apply Kd.Zm | apply Kd.Zo); exact HO135.out) hb); have n2_ := Zb.mk (Zn (g := gb118) (o := .cells #[.bool a0_0, .slice A0_1 l0_1.length c0_1] 40 (0, 0)) (by (with_reducible repeat first | refine Ze ?_ _ | refine Zg ?_ | refine Zf ?_ _); exact BK118.out) hb); have n3_ := Zb.mk (Zn (g := gb124) (o := .cells #[.bool t120, .slice Ao36 t121.length co36] 24 (0, 0)) (by (with_reducible repeat first | refine Ze ?_ _ | refine Zg ?_ | refine Zf ?_ _); exact BK124.out) hb); have n4_ := Zb.mk (Zl (by repeat (with_reducible first | exact HB.out | apply Zc | apply Za | apply Zd | refine Zh ?_ GE118.out | refine Zh ?_ GE124.out)) hb); have n5_ := Zb.mk (hbox); have n6_ := Zb.mk ((by rw [hg]; exact (Zi (by repeat (with_reducible first | exact HB.out | apply Zc | apply Za | apply Zd | refine Zh ?_ GE118.out | refine Zh ?_ GE124.out))) : w.heap.size ≤ gb137)); have n7_ := Zb.mk ((by rw [hg]; exact (Zi (by repeat (with_reducible first | exact HB.out | apply Zc | apply Za | apply Zd | refine Zh ?_ GE118.out | refine Zh ?_ GE124.out))) : w.heap.size ≤ gb137)); have n8_ := Zb.mk ((by rw [hg]; exact Nat.ne_of_lt (Zw (g := gb118) (o := .cells #[.bool a0_0, .slice A0_1 l0_1.length c0_1] 40 (0, 0)) (by (with_reducible repeat first | refine Ze ?_ _ | refine Zg ?_ | refine Zf ?_ _); exact BK118.out)) : gb118 ≠ gb137)); have n9_ := Zb.mk ((by rw [hg]; exact Nat.ne_of_gt (Zw (g := gb118) (o := .cells #[.bool a0_0, .slice A0_1 l0_1.length c0_1] 40 (0, 0)) (by (with_reducible repeat first | refine Ze ?_ _ | refine Zg ?_ | refine Zf ?_ _); exact BK118.out)) : gb137 ≠ gb118)); have n10_ := Zb.mk ((by rw [hg]; exact Nat.ne_of_lt (Zw (g := gb124) (o := .cells #[.bool t120, .slice Ao36 t121.length co36] 24 (0, 0)) (by (with_reducible repeat first | refine Ze ?_ _ | refine Zg ?_ | refine Zf ?_ _); exact BK124.out)) : gb124 ≠ gb137)); have n11_ := Zb.mk ((by rw [hg]; exact Nat.ne_of_gt (Zw (g := gb124) (o := .cells #[.bool t120, .slice Ao36 t121.length co36] 24 (0, 0)) (by (with_reducible repeat first | refine Ze ?_ _ | refine Zg ?_ | refine Zf ?_ _); exact BK124.out)) : gb137 ≠ gb124)); clear HO123; clear HO135; clear BK118; clear BK124; clear HB; have HO123 := n0_; have HO135 := n1_; have BK118 := n2_; have BK124 := n3_; have HB := n4_; have BK137 := n5_; have GW137 := n6_; have GE137 := n7_; have NB118_137 := n8_; have NB137_118 := n9_; have NB124_137 := n10_; have NB137_124 := n11_; clear n0_ n1_ n2_ n3_ n4_ n5_ n6_ n7_ n8_ n9_ n10_ n11_; clear hb hbox hg; have hnb44 := NB137_118.out; have hnc44 := NB118_137.out; have hnb45 := NB137_124.out; have hnc45 := NB124_137.out; have hcz46_0 : w43.cell? ⟨gb137, 0, none⟩ = some (.bool false) := (Zk BK137.out 0).trans rfl; have hcz46_1 : w43.cell? ⟨gb137, 1, none⟩ = some (.slice none 0 0) := (Zk BK137.out 1).trans rfl; have hcz46_2 : w43.cell? ⟨gb137, 2, none⟩ = some (.int .i64 0) := (Zk BK137.out 2).trans rfl; have hfz46_0 := Zj BK137.out 0; have hfz46_1 := Zj BK137.out 1; have hfz46_2 := Zj BK137.out 2; obtain ⟨Ao47, co47, eo47⟩ := Kd.Zy HO135.out; subst eo47))
     go_loopg [11] k (fun kq v11 w' => ∃ (x11_1 : Int) (x138000_1 : Bool) (x138001_1 : List Int) (x138002_1 : Int) (u138001 : Value), v11 = .int .i64 x11_1 ∧ Zb (w19BaseCounts.l0 kq t119 t125 x11_1 t120 t121 x138000_1 x138001_1 x138002_1 = some r) ∧ Zb (kq ≤ k) ∧ Zb (Kd.R (Kd.int .u64) 46 w' w.heap.size (fun k_ => some k_ ≠ (u138001 : Value).ownBlock) (.slice Ao36 t121.length co36) t121) ∧ Zb (Kd.R (Kd.int .u64) 46 w' w.heap.size (fun k_ => some k_ ≠ ((.slice Ao36 t121.length co36) : Value).ownBlock) u138001 x138001_1) ∧ Zb (w'.heap[gb118]? = some (.cells #[.bool a0_0, (.slice A0_1 l0_1.length c0_1)] 40 (0, 0))) ∧ Zb (w'.heap[gb124]? = some (.cells #[.bool t120, (.slice Ao36 t121.length co36)] 24 (0, 0))) ∧ Zb (w'.heap[gb137]? = some (.cells #[.bool x138000_1, u138001, .int .i64 x138002_1] 48 (0, 0))) ∧ Zb (Below w.heap.size w w'))
     case atStart => exact ⟨(0), (t132), (t133), (t136), (.slice Ao47 t133.length co47), (by first | rfl | (simp; done) | (simp [*]; done)), H', ⟨Nat.le_refl _⟩, ⟨by (with_reducible repeat first | apply Kd.Zm | apply Kd.Zo); exact Kd.ZE (Kd.ZH (p := ⟨gb137, 2, none⟩) (Kd.ZH (p := ⟨gb137, 1, none⟩) (Kd.ZH (p := ⟨gb137, 0, none⟩) (Kd.ZI HO123.out BK137.out (by decide)) (fun _ hk => hk.2) (.bool t132)) (fun _ hk => hk.2) (.slice Ao47 t133.length co47)) (fun _ hk => hk.2) (.int .i64 t136)) (fun _ hk => hk.1.2)⟩, ⟨by (with_reducible repeat first | apply Kd.Zm | apply Kd.Zo); exact Kd.ZE (Kd.ZH (p := ⟨gb137, 2, none⟩) (Kd.ZH (p := ⟨gb137, 1, none⟩) (Kd.ZH (p := ⟨gb137, 0, none⟩) (Kd.ZI HO135.out BK137.out (by decide)) (fun _ hk => hk.2) (.bool t132)) (fun _ hk => hk.2) (.slice Ao47 t133.length co47)) (fun _ hk => hk.2) (.int .i64 t136)) (fun _ hk => hk.1.2)⟩, ⟨by (with_reducible repeat first | refine Ze ?_ _ | refine Zg ?_ | refine Zf ?_ _); refine Zr ?_ NB118_137.out _; (with_reducible repeat first | refine Ze ?_ _ | refine Zg ?_ | refine Zf ?_ _); refine Zr ?_ NB118_137.out _; (with_reducible repeat first | refine Ze ?_ _ | refine Zg ?_ | refine Zf ?_ _); refine Zr ?_ NB118_137.out _; (with_reducible repeat first | refine Ze ?_ _ | refine Zg ?_ | refine Zf ?_ _); exact BK118.out⟩, ⟨by (with_reducible repeat first | refine Ze ?_ _ | refine Zg ?_ | refine Zf ?_ _); refine Zr ?_ NB124_137.out _; (with_reducible repeat first | refine Ze ?_ _ | refine Zg ?_ | refine Zf ?_ _); refine Zr ?_ NB124_137.out _; (with_reducible repeat first | refine Ze ?_ _ | refine Zg ?_ | refine Zf ?_ _); refine Zr ?_ NB124_137.out _; (with_reducible repeat first | refine Ze ?_ _ | refine Zg ?_ | refine Zf ?_ _); exact BK124.out⟩, ⟨by (with_reducible repeat first | refine Ze ?_ _ | refine Zg ?_ | refine Zf ?_ _); refine Zu (cs := #[.bool t132, .slice Ao47 t133.length co47, .int .i64 0]) ?_ 2 _ rfl; (with_reducible repeat first | refine Ze ?_ _ | refine Zg ?_ | refine Zf ?_ _); refine Zu (cs := #[.bool t132, .slice none 0 0, .int .i64 0]) ?_ 1 _ rfl; (with_reducible repeat first | refine Ze ?_ _ | refine Zg ?_ | refine Zf ?_ _); refine Zu (cs := #[.bool false, .slice none 0 0, .int .i64 0]) ?_ 0 _ rfl; (with_reducible repeat first | refine Ze ?_ _ | refine Zg ?_ | refine Zf ?_ _); exact BK137.out⟩, ⟨by repeat (with_reducible first | exact HB.out | apply Zc | apply Za | apply Zd | refine Zh ?_ GE118.out | refine Zh ?_ GE124.out | refine Zh ?_ GE137.out)⟩⟩
     case round =>
      clear H'
      try clear c1
      try clear c2
      try clear p2
      try clear c3
      try clear c4
      try clear p6
      try clear c7
      try clear c7b0
      try clear c7b1
      try clear c8
      try clear c9
      try clear c9b0
      try clear c9b1
      try clear c11
      try clear c11b0
      try clear c11b1
      try clear c11b2
      try clear c12
      try clear c12b0
      try clear c12b1
      try clear c12b2
      try clear c13
      try clear c13b0
      try clear c13b1
      try clear c14
      try clear c14b0
      try clear c14b1
      try clear c20
      try clear c21
      try clear c27
      try clear c31
      try clear c32
      try clear c34
      try clear c44
      try clear c45
      try clear hcz17_0
      try clear hcz17_1
      try clear hcz21_0
      try clear hcz21_1
      try clear hcz24_0
      try clear hcz24_1
      try clear hcz27_0
      try clear hcz27_1
      try clear hcz31_0
      try clear hcz31_1
      try clear hcz35_0
      try clear hcz35_1
      try clear hcz38_0
      try clear hcz38_1
      try clear hcz41_0
      try clear hcz41_1
      try clear hcz46_0
      try clear hcz46_1
      try clear hcz46_2
      try clear hfz17_0
      try clear hfz17_1
      try clear hfz21_0
      try clear hfz21_1
      try clear hfz24_0
      try clear hfz24_1
      try clear hfz27_0
      try clear hfz27_1
      try clear hfz31_0
      try clear hfz31_1
      try clear hfz35_0
      try clear hfz35_1
      try clear hfz38_0
      try clear hfz38_1
      try clear hfz41_0
      try clear hfz41_1
      try clear hfz46_0
      try clear hfz46_1
      try clear hfz46_2
      obtain ⟨x11_1, x138000_1, x138001_1, x138002_1, u138001, rfl, HA, HK1, HO_125001, HO_138001, BK118, BK124, BK137, HB⟩ := hrel
      cases gk with
      | zero => exact absurd HA.out (by simp [w19BaseCounts.l0])
      | succ k1 =>
       have H := HA.out
       clear HA
       simp only [w19BaseCounts.l0] at H
       by_cases c48 : x11_1 < (wrap64 (t125 - 1))
       ·rw [if_pos c48] at H
        have c48b0 : decide (x11_1 < (wrap64 (t125 - 1))) = true := decide_eq_true c48
        clear c48
        replace H := Option.bind_eq_some_iff.mp H
        obtain ⟨⟨t138, t139, t142⟩, A490, H⟩ := H
        replace H : ((r00Times.f k1 x138000_1 x138001_1 x138002_1 t138 t139 t142).bind fun bt143 => (w19BaseCounts.l0 k1 t119 t125 (wrap64 (x11_1 + 1)) t120 t121 bt143.1 bt143.2.1 bt143.2.2)) = some r := H
        have A49 := Zb.mk A490
        clear A490
        replace H := Option.bind_eq_some_iff.mp H
        obtain ⟨⟨t143, t144, t147⟩, A500, H⟩ := H
        replace H : (w19BaseCounts.l0 k1 t119 t125 (wrap64 (x11_1 + 1)) t120 t121 t143 t144 t147) = some r := H
        have A50 := Zb.mk A500
        clear A500
        have H' := Zb.mk H
        clear H
        try go_wp2
        have n0_ := Zb.mk (Kd.Zo HO_125001.out)
        have n1_ := Zb.mk (Kd.Zo HO_138001.out)
        have n2_ := Zb.mk (Zg BK118.out)
        have n3_ := Zb.mk (Zg BK124.out)
        have n4_ := Zb.mk (Zg BK137.out)
        have n5_ := Zb.mk (Zd HB.out)
        clear HO_125001
        clear HO_138001
        clear BK118
        clear BK124
        clear BK137
        clear HB
        have HO_125001 := n0_
        have HO_138001 := n1_
        have BK118 := n2_
        have BK124 := n3_
        have BK137 := n4_
        have HB := n5_
        clear n0_ n1_ n2_ n3_ n4_ n5_
        refine start_ (n := 5) (S := fun w' => w'.cell? ⟨gb137, 0, none⟩ = some (.bool x138000_1) ∧ w'.cell? ⟨gb137, 1, none⟩ = some (u138001) ∧ w'.cell? ⟨gb137, 2, none⟩ = some (.int .i64 x138002_1)) (ds := [4]) #[false, false, false, false, false] (by kernel_rfl) rfl rfl ⟨(Zk BK137.out 0).trans rfl, (Zk BK137.out 1).trans rfl, (Zk BK137.out 2).trans rfl⟩ (fun hHeld => ?_)
        generalize wr.drew = w51 at HO_125001 HO_138001 BK118 BK124 BK137 HB hHeld ⊢
        refine ZM (i := 1) (N := some 68) (v := ?_) (a' := ?_) #[false, true, false, false, false] rfl rfl (by kernel_rfl) (fun _ _ _ h => h) (Or.inl ⟨by rfl, ?_⟩) ?_ ?_
        rotate_left
        ·intro w'
         go_simp
         with_reducible rfl
        rotate_left
        ·simp only [Act.put, List.setIfInBounds_toArray, List.set_cons_zero, List.set_cons_succ, Zx, ZA]
         rfl
        refine take_ (i := 0) (N := some 67) (v := ?_) (a' := ?_) #[true, true, false, false, false] rfl rfl (by kernel_rfl) (fun _ _ _ h => h) (Or.inl ⟨by rfl, ?_⟩) hHeld ?_ ?_
        rotate_left
        ·rintro w' ⟨s0, s1, s2⟩
         go_simp
         with_reducible rfl
        rotate_left
        ·simp only [Act.put, List.setIfInBounds_toArray, List.set_cons_zero, List.set_cons_succ, Zx, ZA]
         rfl
        refine one_ (i := 2) (N := some 69) #[true, true, true, false, false] rfl rfl (by kernel_rfl) (by decide) (fun K hK => ?_)
        refine goes_ Try.func27 (by kernel_rfl) rfl #[.int .i64 t119] (by rfl) rfl rfl (by (try simp only [List.map_toArray, List.map_cons, List.map_nil]); first | done | rfl | (simp only [List.length_drop, List.length_take]; rfl)) ?_
        with_reducible refine (r00Whole.calls k1 t119 t138 t139 t142 _ A49.out).mono ?_
        rintro e w52 ⟨v140, rfl, ho0, hb⟩
        refine ⟨_, rfl, ?_⟩
        have n0_ := Zb.mk (Kd.ZJ (by (with_reducible repeat first | apply Kd.Zm | apply Kd.Zo); exact HO_125001.out) (Kd.ZV ho0) hb)
        have n1_ := Zb.mk (Kd.ZJ (by (with_reducible repeat first | apply Kd.Zm | apply Kd.Zo); exact HO_138001.out) (Kd.ZV ho0) hb)
        have n2_ := Zb.mk (Kd.ZG (Kd.R_new' (Kd.R_new' ho0 (Kd.R_lt (by (with_reducible repeat first | apply Kd.Zm | apply Kd.Zo); exact HO_125001.out))) (Kd.R_lt (by (with_reducible repeat first | apply Kd.Zm | apply Kd.Zo); exact HO_138001.out))) (Zi (by repeat (with_reducible first | exact HB.out | apply Zc | apply Za | apply Zd | refine Zh ?_ GE118.out | refine Zh ?_ GE124.out | refine Zh ?_ GE137.out))))
        have n3_ := Zb.mk (Zn (g := gb118) (o := .cells #[.bool a0_0, .slice A0_1 l0_1.length c0_1] 40 (0, 0)) (by (with_reducible repeat first | refine Ze ?_ _ | refine Zg ?_ | refine Zf ?_ _); exact BK118.out) hb)
        have n4_ := Zb.mk (Zn (g := gb124) (o := .cells #[.bool t120, .slice Ao36 t121.length co36] 24 (0, 0)) (by (with_reducible repeat first | refine Ze ?_ _ | refine Zg ?_ | refine Zf ?_ _); exact BK124.out) hb)
        have n5_ := Zb.mk (Zn (g := gb137) (o := .cells #[.bool x138000_1, u138001, .int .i64 x138002_1] 48 (0, 0)) (by (with_reducible repeat first | refine Ze ?_ _ | refine Zg ?_ | refine Zf ?_ _); exact BK137.out) hb)
        have n6_ := Zb.mk (Zl (by repeat (with_reducible first | exact HB.out | apply Zc | apply Za | apply Zd | refine Zh ?_ GE118.out | refine Zh ?_ GE124.out | refine Zh ?_ GE137.out)) hb)
        clear HO_125001
        clear HO_138001
        clear BK118
        clear BK124
        clear BK137
        clear HB
        have HO_125001 := n0_
        have HO_138001 := n1_
        have HO141 := n2_
        have BK118 := n3_
        have BK124 := n4_
        have BK137 := n5_
        have HB := n6_
        clear n0_ n1_ n2_ n3_ n4_ n5_ n6_
        (try clear hb)
        (try clear hb2)
        (try clear hk)
        (try clear hi)
        (try clear ho0)
        obtain ⟨Ao53, co53, eo53⟩ := Kd.Zy HO_138001.out
        (first | subst eo53 | (injection eo53 with f1_ f2_ f3_; have f4_ := f1_.symm; have f5_ := f3_.symm; clear f1_ f2_ f3_; subst f4_; subst f5_))
        obtain ⟨Ao54, co54, eo54⟩ := Kd.Zy HO141.out
        (first | subst eo54 | (injection eo54 with f1_ f2_ f3_; have f4_ := f1_.symm; have f5_ := f3_.symm; clear f1_ f2_ f3_; subst f4_; subst f5_))
        refine hK.out _ _ ⟨(Zk BK137.out 0).trans rfl, (Zk BK137.out 1).trans rfl, (Zk BK137.out 2).trans rfl⟩ (fun hHeld => ?_)
        clear hK K
        refine norm_ (a' := ?_) ?_ ?_
        rotate_left
        ·show Act.put _ (some 69) _ = _
         simp only [Act.put, List.setIfInBounds_toArray, List.set_cons_zero, List.set_cons_succ, Zx, ZA]
         rfl
        refine one_ (i := 3) (N := some 70) #[true, true, true, true, false] rfl rfl (by kernel_rfl) (by decide) (fun K hK => ?_)
        refine goes_ Try.func25 (by kernel_rfl) rfl #[.agg #[.bool x138000_1, .slice Ao53 x138001_1.length co53, .int .i64 x138002_1], .agg #[.bool t138, .slice Ao54 t139.length co54, .int .i64 t142]] (by rfl) rfl rfl (by (try simp only [List.map_toArray, List.map_cons, List.map_nil]); first | done | rfl | (simp only [List.length_drop, List.length_take]; rfl)) ?_
        with_reducible refine (r00Times.calls k1 x138000_1 _ _ x138001_1 x138002_1 t138 _ _ t139 t142 t143 t144 t147 _ ?side1 ?side2 ?side3 ?side4 A50.out).mono ?_
        (case side1 => repeat (first | exact (Kd.Zv HO_138001.out).2.2 | (with_reducible refine Kd.ZC ?_ _) | (with_reducible refine Kd.ZF ?_ _) | (with_reducible refine Kd.ZN ?_)))
        (case side2 => exact (Kd.Zv HO_138001.out).2.1)
        (case side3 => repeat (first | exact (Kd.Zv HO141.out).2.2 | (with_reducible refine Kd.ZC ?_ _) | (with_reducible refine Kd.ZF ?_ _) | (with_reducible refine Kd.ZN ?_)))
        (case side4 => exact (Kd.Zv HO141.out).2.1)
        rintro e w55 ⟨v145, rfl, ho0, hb⟩
        refine ⟨_, rfl, ?_⟩
        have n0_ := Zb.mk (Kd.ZJ (by (with_reducible repeat first | apply Kd.Zm | apply Kd.Zo); exact HO_125001.out) (Kd.ZV ho0) hb)
        have n1_ := Zb.mk (Kd.ZJ (by (with_reducible repeat first | apply Kd.Zm | apply Kd.Zo); exact HO_138001.out) (Kd.ZV ho0) hb)
        have n2_ := Zb.mk (Kd.ZJ (by (with_reducible repeat first | apply Kd.Zm | apply Kd.Zo); exact HO141.out) (Kd.ZV ho0) hb)
        have n3_ := Zb.mk (Kd.ZG (Kd.R_new' (Kd.R_new' (Kd.R_new' ho0 (Kd.R_lt (by (with_reducible repeat first | apply Kd.Zm | apply Kd.Zo); exact HO_125001.out))) (Kd.R_lt (by (with_reducible repeat first | apply Kd.Zm | apply Kd.Zo); exact HO_138001.out))) (Kd.R_lt (by (with_reducible repeat first | apply Kd.Zm | apply Kd.Zo); exact HO141.out))) (Zi (by repeat (with_reducible first | exact HB.out | apply Zc | apply Za | apply Zd | refine Zh ?_ GE118.out | refine Zh ?_ GE124.out | refine Zh ?_ GE137.out))))
        have n4_ := Zb.mk (Zn (g := gb118) (o := .cells #[.bool a0_0, .slice A0_1 l0_1.length c0_1] 40 (0, 0)) (by (with_reducible repeat first | refine Ze ?_ _ | refine Zg ?_ | refine Zf ?_ _); exact BK118.out) hb)
        have n5_ := Zb.mk (Zn (g := gb124) (o := .cells #[.bool t120, .slice Ao36 t121.length co36] 24 (0, 0)) (by (with_reducible repeat first | refine Ze ?_ _ | refine Zg ?_ | refine Zf ?_ _); exact BK124.out) hb)
        have n6_ := Zb.mk (Zn (g := gb137) (o := .cells #[.bool x138000_1, .slice Ao53 x138001_1.length co53, .int .i64 x138002_1] 48 (0, 0)) (by (with_reducible repeat first | refine Ze ?_ _ | refine Zg ?_ | refine Zf ?_ _); exact BK137.out) hb)
        have n7_ := Zb.mk (Zl (by repeat (with_reducible first | exact HB.out | apply Zc | apply Za | apply Zd | refine Zh ?_ GE118.out | refine Zh ?_ GE124.out | refine Zh ?_ GE137.out)) hb)
        clear HO_125001
        clear HO_138001
        clear HO141
        clear BK118
        clear BK124
        clear BK137
        clear HB
        have HO_125001 := n0_
        have HO_138001 := n1_
        have HO141 := n2_
        have HO146 := n3_
        have BK118 := n4_
        have BK124 := n5_
        have BK137 := n6_
        have HB := n7_
        clear n0_ n1_ n2_ n3_ n4_ n5_ n6_ n7_
        (try clear hb)
        (try clear hb2)
        (try clear hk)
        (try clear hi)
        (try clear ho0)
        obtain ⟨Ao57, co57, eo57⟩ := Kd.Zy HO146.out
        (first | subst eo57 | (injection eo57 with f1_ f2_ f3_; have f4_ := f1_.symm; have f5_ := f3_.symm; clear f1_ f2_ f3_; subst f4_; subst f5_))
        refine hK.out _ _ ⟨(Zk BK137.out 0).trans rfl, (Zk BK137.out 1).trans rfl, (Zk BK137.out 2).trans rfl⟩ (fun hHeld => ?_)
        clear hK K
        refine norm_ (a' := ?_) ?_ ?_
        rotate_left
        ·show Act.put _ (some 70) _ = _
         simp only [Act.put, List.setIfInBounds_toArray, List.set_cons_zero, List.set_cons_succ, Zx, ZA]
         rfl
        refine last_ (i := 4) (N := none) #[true, true, true, true, true] rfl rfl (by kernel_rfl) (by decide) (fun K hK => ?_)
        have hs56 : w55.cell? ⟨gb137, 0, none⟩ = some (.bool x138000_1) := (Zk BK137.out 0).trans rfl
        have hfs56 := Zj BK137.out 0
        have hns56_0 := NB118_137.out
        have hns56_1 := NB124_137.out
        have hms56_0 := NB137_118.out
        have hms56_1 := NB137_124.out
        have hs58 : w55.cell? ⟨gb137, 1, none⟩ = some (.slice Ao53 x138001_1.length co53) := (Zk BK137.out 1).trans rfl
        have hfs58 := Zj BK137.out 1
        have hns58_0 := NB118_137.out
        have hns58_1 := NB124_137.out
        have hms58_0 := NB137_118.out
        have hms58_1 := NB137_124.out
        have hs59 : w55.cell? ⟨gb137, 2, none⟩ = some (.int .i64 x138002_1) := (Zk BK137.out 2).trans rfl
        have hfs59 := Zj BK137.out 2
        have hns59_0 := NB118_137.out
        have hns59_1 := NB124_137.out
        have hms59_0 := NB137_118.out
        have hms59_1 := NB137_124.out
        refine skip_ (w1 := ?_) (by rfl) rfl ?_ ?_
        rotate_left
        ·go_simp
         rfl
        refine hK.out _ _ ?_
        clear hK K
        refine done_ (by kernel_rfl) ?_
        try go_wp2
        go_roundg k1
        case measure => have := HK1.out; omega
        case rel => exact ⟨(wrap64 (x11_1 + 1)), (t143), (t144), (t147), (.slice Ao57 t144.length co57), (by first | rfl | (simp; done) | (simp [*]; done)), H', ⟨by have := HK1.out; omega⟩, ⟨by (with_reducible repeat first | apply Kd.Zm | apply Kd.Zo); exact Kd.ZE (Kd.ZH (p := ⟨gb137, 2, none⟩) (Kd.ZH (p := ⟨gb137, 1, none⟩) (Kd.ZH (p := ⟨gb137, 0, none⟩) (Kd.ZI HO_125001.out BK137.out (by decide)) (fun _ hk => hk.2) (.bool t143)) (fun _ hk => hk.2) (.slice Ao57 t144.length co57)) (fun _ hk => hk.2) (.int .i64 t147)) (fun _ hk => hk.1.2)⟩, ⟨by (with_reducible repeat first | apply Kd.Zm | apply Kd.Zo); exact Kd.ZE (Kd.ZH (p := ⟨gb137, 2, none⟩) (Kd.ZH (p := ⟨gb137, 1, none⟩) (Kd.ZH (p := ⟨gb137, 0, none⟩) (Kd.ZI HO146.out BK137.out (by decide)) (fun _ hk => hk.2) (.bool t143)) (fun _ hk => hk.2) (.slice Ao57 t144.length co57)) (fun _ hk => hk.2) (.int .i64 t147)) (fun _ hk => hk.1.1.1.2)⟩, ⟨by (with_reducible repeat first | refine Ze ?_ _ | refine Zg ?_ | refine Zf ?_ _); refine Zr ?_ NB118_137.out _; (with_reducible repeat first | refine Ze ?_ _ | refine Zg ?_ | refine Zf ?_ _); refine Zr ?_ NB118_137.out _; (with_reducible repeat first | refine Ze ?_ _ | refine Zg ?_ | refine Zf ?_ _); refine Zr ?_ NB118_137.out _; (with_reducible repeat first | refine Ze ?_ _ | refine Zg ?_ | refine Zf ?_ _); exact BK118.out⟩, ⟨by (with_reducible repeat first | refine Ze ?_ _ | refine Zg ?_ | refine Zf ?_ _); refine Zr ?_ NB124_137.out _; (with_reducible repeat first | refine Ze ?_ _ | refine Zg ?_ | refine Zf ?_ _); refine Zr ?_ NB124_137.out _; (with_reducible repeat first | refine Ze ?_ _ | refine Zg ?_ | refine Zf ?_ _); refine Zr ?_ NB124_137.out _; (with_reducible repeat first | refine Ze ?_ _ | refine Zg ?_ | refine Zf ?_ _); exact BK124.out⟩, ⟨by (with_reducible repeat first | refine Ze ?_ _ | refine Zg ?_ | refine Zf ?_ _); refine Zu (cs := #[.bool t143, .slice Ao57 t144.length co57, .int .i64 x138002_1]) ?_ 2 _ rfl; (with_reducible repeat first | refine Ze ?_ _ | refine Zg ?_ | refine Zf ?_ _); refine Zu (cs := #[.bool t143, .slice Ao53 x138001_1.length co53, .int .i64 x138002_1]) ?_ 1 _ rfl; (with_reducible repeat first | refine Ze ?_ _ | refine Zg ?_ | refine Zf ?_ _); refine Zu (cs := #[.bool x138000_1, .slice Ao53 x138001_1.length co53, .int .i64 x138002_1]) ?_ 0 _ rfl; (with_reducible repeat first | refine Ze ?_ _ | refine Zg ?_ | refine Zf ?_ _); exact BK137.out⟩, ⟨by repeat (with_reducible first | exact HB.out | apply Zc | apply Za | apply Zd | refine Zh ?_ GE118.out | refine Zh ?_ GE124.out | refine Zh ?_ GE137.out)⟩⟩
       ·rw [if_neg c48] at H
        have c48b0 : decide (x11_1 < (wrap64 (t125 - 1))) = false := decide_eq_false c48
        clear c48
        replace H := Option.bind_eq_some_iff.mp H
        obtain ⟨t149, A600, H⟩ := H
        replace H : (if t149 ≤ 0 then ((r00Whole.f k1 t119).bind fun bt150 => ((r00Times.f k1 x138000_1 x138001_1 x138002_1 bt150.1 bt150.2.1 bt150.2.2).bind fun bt155 => ((r00Compare.f k1 false t121 0 bt155.1 bt155.2.1 bt155.2.2).bind fun t160 => (if t160 < 0 then ((w19awake.f k1).bind fun t161 => (some t161)) else (none))))) else (none)) = some r := H
        have A60 := Zb.mk A600
        clear A600
        by_cases c61 : t149 ≤ 0
        ·rw [if_pos c61] at H
         have c61b0 : decide (t149 ≤ 0) = true := decide_eq_true c61
         clear c61
         replace H := Option.bind_eq_some_iff.mp H
         obtain ⟨⟨t150, t151, t154⟩, A620, H⟩ := H
         replace H : ((r00Times.f k1 x138000_1 x138001_1 x138002_1 t150 t151 t154).bind fun bt155 => ((r00Compare.f k1 false t121 0 bt155.1 bt155.2.1 bt155.2.2).bind fun t160 => (if t160 < 0 then ((w19awake.f k1).bind fun t161 => (some t161)) else (none)))) = some r := H
         have A62 := Zb.mk A620
         clear A620
         replace H := Option.bind_eq_some_iff.mp H
         obtain ⟨⟨t155, t156, t159⟩, A630, H⟩ := H
         replace H : ((r00Compare.f k1 false t121 0 t155 t156 t159).bind fun t160 => (if t160 < 0 then ((w19awake.f k1).bind fun t161 => (some t161)) else (none))) = some r := H
         have A63 := Zb.mk A630
         clear A630
         replace H := Option.bind_eq_some_iff.mp H
         obtain ⟨t160, A640, H⟩ := H
         replace H : (if t160 < 0 then ((w19awake.f k1).bind fun t161 => (some t161)) else (none)) = some r := H
         have A64 := Zb.mk A640
         clear A640
         by_cases c65 : t160 < 0
         ·rw [if_pos c65] at H
          have c65b0 : decide (t160 < 0) = true := decide_eq_true c65
          clear c65
          replace H := Option.bind_eq_some_iff.mp H
          obtain ⟨t161, A660, H⟩ := H
          replace H : (some t161) = some r := H
          have A66 := Zb.mk A660
          clear A660
          obtain rfl := Option.some.inj H
          have hnb67 := NB124_118.out
          have hnc67 := NB118_124.out
          have hnb68 := NB124_137.out
          have hnc68 := NB137_124.out
          have hcz69_0 : wr.cell? ⟨gb124, 0, none⟩ = some (.bool t120) := (Zk BK124.out 0).trans rfl
          have hcz69_1 : wr.cell? ⟨gb124, 1, none⟩ = some (.slice Ao36 t121.length co36) := (Zk BK124.out 1).trans rfl
          have hfz69_0 := Zj BK124.out 0
          have hfz69_1 := Zj BK124.out 1
          try go_wp2_with (first | ((with_reducible refine Zt (N := 12) rfl ?_); (try (refine gate_guard (by rfl) ?_; dsimp only)); refine Zs ?hg (N := 12) ?hd (cs := #[.bool false, .slice none 0 0, .int .i64 0]) (t := 48) ?hr ?_; (case hd => rfl); (case hg => rfl); (case hr => first | (go_simp; done) | (go_simp; rfl)); intro gb148 hg w70 hbox hb; have n0_ := Zb.mk (Kd.Zz (by (with_reducible repeat first | apply Kd.Zm | apply Kd.Zo); exact HO_125001.out) hb); have n1_ := Zb.mk (Kd.Zz (by (with_reducible repeat first | apply Kd.Zm | apply Kd.Zo); exact HO_138001.out) hb); have n2_ := Zb.mk (Zn (g := gb118) (o := .cells #[.bool a0_0, .slice A0_1 l0_1.length c0_1] 40 (0, 0)) (by (with_reducible repeat first | refine Ze ?_ _ | refine Zg ?_ | refine Zf ?_ _); exact BK118.out) hb); have n3_ := Zb.mk (Zn (g := gb124) (o := .cells #[.bool t120, .slice Ao36 t121.length co36] 24 (0, 0)) (by (with_reducible repeat first | refine Ze ?_ _ | refine Zg ?_ | refine Zf ?_ _); exact BK124.out) hb); have n4_ := Zb.mk (Zn (g := gb137) (o := .cells #[.bool x138000_1, u138001, .int .i64 x138002_1] 48 (0, 0)) (by (with_reducible repeat first | refine Ze ?_ _ | refine Zg ?_ | refine Zf ?_ _); exact BK137.out) hb); have n5_ := Zb.mk (Zl (by repeat (with_reducible first | exact HB.out | apply Zc | apply Za | apply Zd | refine Zh ?_ GE118.out | refine Zh ?_ GE124.out | refine Zh ?_ GE137.out)) hb); have n6_ := Zb.mk (hbox); have n7_ := Zb.mk ((by rw [hg]; exact (Zi (by repeat (with_reducible first | exact HB.out | apply Zc | apply Za | apply Zd | refine Zh ?_ GE118.out | refine Zh ?_ GE124.out | refine Zh ?_ GE137.out))) : w.heap.size ≤ gb148)); have n8_ := Zb.mk ((by rw [hg]; exact (Zi (by repeat (with_reducible first | exact HB.out | apply Zc | apply Za | apply Zd | refine Zh ?_ GE118.out | refine Zh ?_ GE124.out | refine Zh ?_ GE137.out))) : w.heap.size ≤ gb148)); have n9_ := Zb.mk ((by rw [hg]; exact Nat.ne_of_lt (Zw (g := gb118) (o := .cells #[.bool a0_0, .slice A0_1 l0_1.length c0_1] 40 (0, 0)) (by (with_reducible repeat first | refine Ze ?_ _ | refine Zg ?_ | refine Zf ?_ _); exact BK118.out)) : gb118 ≠ gb148)); have n10_ := Zb.mk ((by rw [hg]; exact Nat.ne_of_gt (Zw (g := gb118) (o := .cells #[.bool a0_0, .slice A0_1 l0_1.length c0_1] 40 (0, 0)) (by (with_reducible repeat first | refine Ze ?_ _ | refine Zg ?_ | refine Zf ?_ _); exact BK118.out)) : gb148 ≠ gb118)); have n11_ := Zb.mk ((by rw [hg]; exact Nat.ne_of_lt (Zw (g := gb124) (o := .cells #[.bool t120, .slice Ao36 t121.length co36] 24 (0, 0)) (by (with_reducible repeat first | refine Ze ?_ _ | refine Zg ?_ | refine Zf ?_ _); exact BK124.out)) : gb124 ≠ gb148)); have n12_ := Zb.mk ((by rw [hg]; exact Nat.ne_of_gt (Zw (g := gb124) (o := .cells #[.bool t120, .slice Ao36 t121.length co36] 24 (0, 0)) (by (with_reducible repeat first | refine Ze ?_ _ | refine Zg ?_ | refine Zf ?_ _); exact BK124.out)) : gb148 ≠ gb124)); have n13_ := Zb.mk ((by rw [hg]; exact Nat.ne_of_lt (Zw (g := gb137) (o := .cells #[.bool x138000_1, u138001, .int .i64 x138002_1] 48 (0, 0)) (by (with_reducible repeat first | refine Ze ?_ _ | refine Zg ?_ | refine Zf ?_ _); exact BK137.out)) : gb137 ≠ gb148)); have n14_ := Zb.mk ((by rw [hg]; exact Nat.ne_of_gt (Zw (g := gb137) (o := .cells #[.bool x138000_1, u138001, .int .i64 x138002_1] 48 (0, 0)) (by (with_reducible repeat first | refine Ze ?_ _ | refine Zg ?_ | refine Zf ?_ _); exact BK137.out)) : gb148 ≠ gb137)); clear HO_125001; clear HO_138001; clear BK118; clear BK124; clear BK137; clear HB; have HO_125001 := n0_; have HO_138001 := n1_; have BK118 := n2_; have BK124 := n3_; have BK137 := n4_; have HB := n5_; have BK148 := n6_; have GW148 := n7_; have GE148 := n8_; have NB118_148 := n9_; have NB148_118 := n10_; have NB124_148 := n11_; have NB148_124 := n12_; have NB137_148 := n13_; have NB148_137 := n14_; clear n0_ n1_ n2_ n3_ n4_ n5_ n6_ n7_ n8_ n9_ n10_ n11_ n12_ n13_ n14_; clear hb hbox hg; have hnb71 := NB148_118.out; have hnc71 := NB118_148.out; have hnb72 := NB148_124.out; have hnc72 := NB124_148.out; have hnb73 := NB148_137.out; have hnc73 := NB137_148.out; have hcz74_0 : w70.cell? ⟨gb148, 0, none⟩ = some (.bool false) := (Zk BK148.out 0).trans rfl; have hcz74_1 : w70.cell? ⟨gb148, 1, none⟩ = some (.slice none 0 0) := (Zk BK148.out 1).trans rfl; have hcz74_2 : w70.cell? ⟨gb148, 2, none⟩ = some (.int .i64 0) := (Zk BK148.out 2).trans rfl; have hfz74_0 := Zj BK148.out 0; have hfz74_1 := Zj BK148.out 1; have hfz74_2 := Zj BK148.out 2))
          have n0_ : Zb (Kd.R (Kd.int .u64) 46 (((w70.setCell ⟨gb148, 0, none⟩ (.bool false)).setCell ⟨gb148, 1, none⟩ (.slice Ao36 t121.length co36)).setCell ⟨gb148, 2, none⟩ (.int .i64 0)) w.heap.size (fun k_ => some k_ ≠ (u138001 : Value).ownBlock) (.slice Ao36 t121.length co36) t121) := ⟨by (with_reducible repeat first | apply Kd.Zm | apply Kd.Zo); exact Kd.ZE (Kd.ZH (p := ⟨gb148, 2, none⟩) (Kd.ZH (p := ⟨gb148, 1, none⟩) (Kd.ZH (p := ⟨gb148, 0, none⟩) (Kd.ZI HO_125001.out BK148.out (by decide)) (fun _ hk => hk.2) (.bool false)) (fun _ hk => hk.2) (.slice Ao36 t121.length co36)) (fun _ hk => hk.2) (.int .i64 0)) (fun _ hk => hk.1)⟩
          have n1_ : Zb (Kd.R (Kd.int .u64) 46 (((w70.setCell ⟨gb148, 0, none⟩ (.bool false)).setCell ⟨gb148, 1, none⟩ (.slice Ao36 t121.length co36)).setCell ⟨gb148, 2, none⟩ (.int .i64 0)) w.heap.size (fun k_ => some k_ ≠ (.slice Ao36 t121.length co36 : Value).ownBlock) u138001 x138001_1) := ⟨by (with_reducible repeat first | apply Kd.Zm | apply Kd.Zo); exact Kd.ZE (Kd.ZH (p := ⟨gb148, 2, none⟩) (Kd.ZH (p := ⟨gb148, 1, none⟩) (Kd.ZH (p := ⟨gb148, 0, none⟩) (Kd.ZI HO_138001.out BK148.out (by decide)) (fun _ hk => hk.2) (.bool false)) (fun _ hk => hk.2) (.slice Ao36 t121.length co36)) (fun _ hk => hk.2) (.int .i64 0)) (fun _ hk => hk.1)⟩
          have n2_ : Zb ((((w70.setCell ⟨gb148, 0, none⟩ (.bool false)).setCell ⟨gb148, 1, none⟩ (.slice Ao36 t121.length co36)).setCell ⟨gb148, 2, none⟩ (.int .i64 0)).heap[gb118]? = some (.cells #[.bool a0_0, .slice A0_1 l0_1.length c0_1] 40 (0, 0))) := ⟨by (with_reducible repeat first | refine Ze ?_ _ | refine Zg ?_ | refine Zf ?_ _); refine Zr ?_ NB118_148.out _; (with_reducible repeat first | refine Ze ?_ _ | refine Zg ?_ | refine Zf ?_ _); refine Zr ?_ NB118_148.out _; (with_reducible repeat first | refine Ze ?_ _ | refine Zg ?_ | refine Zf ?_ _); refine Zr ?_ NB118_148.out _; (with_reducible repeat first | refine Ze ?_ _ | refine Zg ?_ | refine Zf ?_ _); exact BK118.out⟩
          have n3_ : Zb ((((w70.setCell ⟨gb148, 0, none⟩ (.bool false)).setCell ⟨gb148, 1, none⟩ (.slice Ao36 t121.length co36)).setCell ⟨gb148, 2, none⟩ (.int .i64 0)).heap[gb124]? = some (.cells #[.bool t120, .slice Ao36 t121.length co36] 24 (0, 0))) := ⟨by (with_reducible repeat first | refine Ze ?_ _ | refine Zg ?_ | refine Zf ?_ _); refine Zr ?_ NB124_148.out _; (with_reducible repeat first | refine Ze ?_ _ | refine Zg ?_ | refine Zf ?_ _); refine Zr ?_ NB124_148.out _; (with_reducible repeat first | refine Ze ?_ _ | refine Zg ?_ | refine Zf ?_ _); refine Zr ?_ NB124_148.out _; (with_reducible repeat first | refine Ze ?_ _ | refine Zg ?_ | refine Zf ?_ _); exact BK124.out⟩
          have n4_ : Zb ((((w70.setCell ⟨gb148, 0, none⟩ (.bool false)).setCell ⟨gb148, 1, none⟩ (.slice Ao36 t121.length co36)).setCell ⟨gb148, 2, none⟩ (.int .i64 0)).heap[gb137]? = some (.cells #[.bool x138000_1, u138001, .int .i64 x138002_1] 48 (0, 0))) := ⟨by (with_reducible repeat first | refine Ze ?_ _ | refine Zg ?_ | refine Zf ?_ _); refine Zr ?_ NB137_148.out _; (with_reducible repeat first | refine Ze ?_ _ | refine Zg ?_ | refine Zf ?_ _); refine Zr ?_ NB137_148.out _; (with_reducible repeat first | refine Ze ?_ _ | refine Zg ?_ | refine Zf ?_ _); refine Zr ?_ NB137_148.out _; (with_reducible repeat first | refine Ze ?_ _ | refine Zg ?_ | refine Zf ?_ _); exact BK137.out⟩
          have n5_ : Zb ((((w70.setCell ⟨gb148, 0, none⟩ (.bool false)).setCell ⟨gb148, 1, none⟩ (.slice Ao36 t121.length co36)).setCell ⟨gb148, 2, none⟩ (.int .i64 0)).heap[gb148]? = some (.cells #[.bool false, .slice Ao36 t121.length co36, .int .i64 0] 48 (0, 0))) := ⟨by (with_reducible repeat first | refine Ze ?_ _ | refine Zg ?_ | refine Zf ?_ _); refine Zu (cs := #[.bool false, .slice Ao36 t121.length co36, .int .i64 0]) ?_ 2 _ rfl; (with_reducible repeat first | refine Ze ?_ _ | refine Zg ?_ | refine Zf ?_ _); refine Zu (cs := #[.bool false, .slice none 0 0, .int .i64 0]) ?_ 1 _ rfl; (with_reducible repeat first | refine Ze ?_ _ | refine Zg ?_ | refine Zf ?_ _); refine Zu (cs := #[.bool false, .slice none 0 0, .int .i64 0]) ?_ 0 _ rfl; (with_reducible repeat first | refine Ze ?_ _ | refine Zg ?_ | refine Zf ?_ _); exact BK148.out⟩
          have n6_ : Zb (Below w.heap.size w (((w70.setCell ⟨gb148, 0, none⟩ (.bool false)).setCell ⟨gb148, 1, none⟩ (.slice Ao36 t121.length co36)).setCell ⟨gb148, 2, none⟩ (.int .i64 0))) := ⟨by repeat (with_reducible first | exact HB.out | apply Zc | apply Za | apply Zd | refine Zh ?_ GE118.out | refine Zh ?_ GE124.out | refine Zh ?_ GE137.out | refine Zh ?_ GE148.out)⟩
          (try clear HO_125001)
          (try clear HO_138001)
          (try clear BK118)
          (try clear BK124)
          (try clear BK137)
          (try clear BK148)
          (try clear HB)
          generalize (((w70.setCell ⟨gb148, 0, none⟩ (.bool false)).setCell ⟨gb148, 1, none⟩ (.slice Ao36 t121.length co36)).setCell ⟨gb148, 2, none⟩ (.int .i64 0)) = w75 at n0_ n1_ n2_ n3_ n4_ n5_ n6_ ⊢
          have HO_125001 := n0_
          have HO_138001 := n1_
          have BK118 := n2_
          have BK124 := n3_
          have BK137 := n4_
          have BK148 := n5_
          have HB := n6_
          clear n0_ n1_ n2_ n3_ n4_ n5_ n6_
          have n0_ := Zb.mk (Kd.Zo HO_125001.out)
          have n1_ := Zb.mk (Kd.Zo HO_138001.out)
          have n2_ := Zb.mk (Zg BK118.out)
          have n3_ := Zb.mk (Zg BK124.out)
          have n4_ := Zb.mk (Zg BK137.out)
          have n5_ := Zb.mk (Zg BK148.out)
          have n6_ := Zb.mk (Zd HB.out)
          clear HO_125001
          clear HO_138001
          clear BK118
          clear BK124
          clear BK137
          clear BK148
          clear HB
          have HO_125001 := n0_
          have HO_138001 := n1_
          have BK118 := n2_
          have BK124 := n3_
          have BK137 := n4_
          have BK148 := n5_
          have HB := n6_
          clear n0_ n1_ n2_ n3_ n4_ n5_ n6_
          obtain ⟨Ao77, co77, eo77⟩ := Kd.Zy HO_138001.out
          (first | subst eo77 | (injection eo77 with f1_ f2_ f3_; have f4_ := f1_.symm; have f5_ := f3_.symm; clear f1_ f2_ f3_; subst f4_; subst f5_))
          refine start_ (n := 17) (S := fun w' => w'.cell? ⟨gb137, 0, none⟩ = some (.bool x138000_1) ∧ w'.cell? ⟨gb137, 1, none⟩ = some (.slice Ao77 x138001_1.length co77) ∧ w'.cell? ⟨gb137, 2, none⟩ = some (.int .i64 x138002_1) ∧ w'.cell? ⟨gb148, 0, none⟩ = some (.bool false) ∧ w'.cell? ⟨gb148, 1, none⟩ = some (.slice Ao36 t121.length co36) ∧ w'.cell? ⟨gb148, 2, none⟩ = some (.int .i64 0)) (ds := []) #[false, false, false, false, false, false, false, false, false, false, false, false, false, false, false, false, false] (by kernel_rfl) rfl rfl ⟨(Zk BK137.out 0).trans rfl, (Zk BK137.out 1).trans rfl, (Zk BK137.out 2).trans rfl, (Zk BK148.out 0).trans rfl, (Zk BK148.out 1).trans rfl, (Zk BK148.out 2).trans rfl⟩ (fun hHeld => ?_); refine with_tabW w19BaseCounts.tab15 w19BaseCounts.bits15 (fun HT_ HW_ => ?_)
          generalize w75.drew = w76 at HO_125001 HO_138001 BK118 BK124 BK137 BK148 HB hHeld ⊢
          refine take_ (i := 0) (N := some 74) (v := ?_) (a' := ?_) #[true, false, false, false, false, false, false, false, false, false, false, false, false, false, false, false, false] rfl rfl (take_ofW HT_.out HW_.out (by kernel_rfl)) (fun _ _ _ h => h) (Or.inl ⟨by rfl, ?_⟩) hHeld ?_ ?_
          rotate_left
          ·rintro w' ⟨s0, s1, s2, s3, s4, s5⟩
           go_simp
           with_reducible rfl
          rotate_left
          ·simp only [Act.put, List.setIfInBounds_toArray, List.set_cons_zero, List.set_cons_succ, Zx, ZA]
           rfl
          refine take_ (i := 1) (N := some 75) (v := ?_) (a' := ?_) #[true, true, false, false, false, false, false, false, false, false, false, false, false, false, false, false, false] rfl rfl (take_ofW HT_.out HW_.out (by kernel_rfl)) (fun _ _ _ h => h) (Or.inl ⟨by rfl, ?_⟩) hHeld ?_ ?_
          rotate_left
          ·rintro w' ⟨s0, s1, s2, s3, s4, s5⟩
           go_simp
           with_reducible rfl
          rotate_left
          ·simp only [Act.put, List.setIfInBounds_toArray, List.set_cons_zero, List.set_cons_succ, Zx, ZA]
           rfl
          refine one_ (i := 2) (N := some 76) #[true, true, true, false, false, false, false, false, false, false, false, false, false, false, false, false, false] rfl rfl (one_of HT_.out (by kernel_rfl)) (by decide) (fun K hK => ?_)
          refine goes_ Try.func28 (by kernel_rfl) rfl #[.agg #[.bool x138000_1, .slice Ao77 x138001_1.length co77, .int .i64 x138002_1], .agg #[.bool false, .slice Ao36 t121.length co36, .int .i64 0]] (by rfl) rfl rfl (by (try simp only [List.map_toArray, List.map_cons, List.map_nil]); first | done | rfl | (simp only [List.length_drop, List.length_take]; rfl)) ?_
          with_reducible refine (r00Compare.calls k1 x138000_1 _ _ x138001_1 x138002_1 false _ _ t121 0 t149 _ ?side1 ?side2 ?side3 ?side4 A60.out).mono ?_
          (case side1 => repeat (first | exact (Kd.Zv HO_138001.out).2.2 | (with_reducible refine Kd.ZC ?_ _) | (with_reducible refine Kd.ZF ?_ _) | (with_reducible refine Kd.ZN ?_)))
          (case side2 => exact (Kd.Zv HO_138001.out).2.1)
          (case side3 => repeat (first | exact (Kd.Zv HO_125001.out).2.2 | (with_reducible refine Kd.ZC ?_ _) | (with_reducible refine Kd.ZF ?_ _) | (with_reducible refine Kd.ZN ?_)))
          (case side4 => exact (Kd.Zv HO_125001.out).2.1)
          rintro e w78 ⟨rfl, hb⟩
          refine ⟨_, rfl, ?_⟩
          have n0_ := Zb.mk (Kd.Zz (by (with_reducible repeat first | apply Kd.Zm | apply Kd.Zo); exact HO_125001.out) hb)
          have n1_ := Zb.mk (Kd.Zz (by (with_reducible repeat first | apply Kd.Zm | apply Kd.Zo); exact HO_138001.out) hb)
          have n2_ := Zb.mk (Zn (g := gb118) (o := .cells #[.bool a0_0, .slice A0_1 l0_1.length c0_1] 40 (0, 0)) (by (with_reducible repeat first | refine Ze ?_ _ | refine Zg ?_ | refine Zf ?_ _); exact BK118.out) hb)
          have n3_ := Zb.mk (Zn (g := gb124) (o := .cells #[.bool t120, .slice Ao36 t121.length co36] 24 (0, 0)) (by (with_reducible repeat first | refine Ze ?_ _ | refine Zg ?_ | refine Zf ?_ _); exact BK124.out) hb)
          have n4_ := Zb.mk (Zn (g := gb137) (o := .cells #[.bool x138000_1, .slice Ao77 x138001_1.length co77, .int .i64 x138002_1] 48 (0, 0)) (by (with_reducible repeat first | refine Ze ?_ _ | refine Zg ?_ | refine Zf ?_ _); exact BK137.out) hb)
          have n5_ := Zb.mk (Zn (g := gb148) (o := .cells #[.bool false, .slice Ao36 t121.length co36, .int .i64 0] 48 (0, 0)) (by (with_reducible repeat first | refine Ze ?_ _ | refine Zg ?_ | refine Zf ?_ _); exact BK148.out) hb)
          have n6_ := Zb.mk (Zl (by repeat (with_reducible first | exact HB.out | apply Zc | apply Za | apply Zd | refine Zh ?_ GE118.out | refine Zh ?_ GE124.out | refine Zh ?_ GE137.out | refine Zh ?_ GE148.out)) hb)
          clear HO_125001
          clear HO_138001
          clear BK118
          clear BK124
          clear BK137
          clear BK148
          clear HB
          have HO_125001 := n0_
          have HO_138001 := n1_
          have BK118 := n2_
          have BK124 := n3_
          have BK137 := n4_
          have BK148 := n5_
          have HB := n6_
          clear n0_ n1_ n2_ n3_ n4_ n5_ n6_
          (try clear hb)
          (try clear hb2)
          (try clear hk)
          (try clear hi)
          refine hK.out _ _ ⟨(Zk BK137.out 0).trans rfl, (Zk BK137.out 1).trans rfl, (Zk BK137.out 2).trans rfl, (Zk BK148.out 0).trans rfl, (Zk BK148.out 1).trans rfl, (Zk BK148.out 2).trans rfl⟩ (fun hHeld => ?_)
          clear hK K
          refine norm_ (a' := ?_) ?_ ?_
          rotate_left
          ·show Act.put _ (some 76) _ = _
           simp only [Act.put, List.setIfInBounds_toArray, List.set_cons_zero, List.set_cons_succ, Zx, ZA]
           rfl
          refine ZM (i := 3) (N := some 77) (v := ?_) (a' := ?_) #[true, true, true, true, false, false, false, false, false, false, false, false, false, false, false, false, false] rfl rfl (ZD HT_.out (by kernel_rfl)) (fun _ _ _ h => h) (Or.inl ⟨by rfl, ?_⟩) ?_ ?_
          rotate_left
          ·intro w'
           go_simp
           with_reducible rfl
          rotate_left
          ·simp only [Act.put, List.setIfInBounds_toArray, List.set_cons_zero, List.set_cons_succ, Zx, ZA]
           rfl
          refine ZM (i := 4) (N := some 78) (v := ?_) (a' := ?_) #[true, true, true, true, true, false, false, false, false, false, false, false, false, false, false, false, false] rfl rfl (ZD HT_.out (by kernel_rfl)) (fun _ _ _ h => h) (Or.inl ⟨by rfl, ?_⟩) ?_ ?_
          rotate_left
          ·intro w'
           go_simp
           with_reducible rfl
          rotate_left
          ·simp only [Act.put, List.setIfInBounds_toArray, List.set_cons_zero, List.set_cons_succ, Zx, ZA]
           rfl
          refine ZM (i := 7) (N := some 81) (v := ?_) (a' := ?_) #[true, true, true, true, true, false, false, true, false, false, false, false, false, false, false, false, false] rfl rfl (ZD HT_.out (by kernel_rfl)) (fun _ _ _ h => h) (Or.inl ⟨by rfl, ?_⟩) ?_ ?_
          rotate_left
          ·intro w'
           go_simp
           with_reducible rfl
          rotate_left
          ·simp only [Act.put, List.setIfInBounds_toArray, List.set_cons_zero, List.set_cons_succ, Zx, ZA]
           rfl
          refine take_ (i := 5) (N := some 79) (v := ?_) (a' := ?_) #[true, true, true, true, true, true, false, true, false, false, false, false, false, false, false, false, false] rfl rfl (take_ofW HT_.out HW_.out (by kernel_rfl)) (fun _ _ _ h => h) (Or.inl ⟨by rfl, ?_⟩) hHeld ?_ ?_
          rotate_left
          ·rintro w' ⟨s0, s1, s2, s3, s4, s5⟩
           go_simp
           with_reducible rfl
          rotate_left
          ·simp only [Act.put, List.setIfInBounds_toArray, List.set_cons_zero, List.set_cons_succ, Zx, ZA]
           rfl
          refine take_ (i := 6) (N := some 80) (v := ?_) (a' := ?_) #[true, true, true, true, true, true, true, true, false, false, false, false, false, false, false, false, false] rfl rfl (take_ofW HT_.out HW_.out (by kernel_rfl)) (fun _ _ _ h => h) (Or.inl ⟨by rfl, ?_⟩) hHeld ?_ ?_
          rotate_left
          ·rintro w' ⟨s0, s1, s2, s3, s4, s5⟩
           go_simp
           with_reducible rfl
          rotate_left
          ·simp only [Act.put, List.setIfInBounds_toArray, List.set_cons_zero, List.set_cons_succ, Zx, ZA]
           rfl
          refine one_ (i := 8) (N := some 82) #[true, true, true, true, true, true, true, true, true, false, false, false, false, false, false, false, false] rfl rfl (one_of HT_.out (by kernel_rfl)) (by decide) (fun K hK => ?_)
          refine goes_ Try.func27 (by kernel_rfl) rfl #[.int .i64 t119] (by rfl) rfl rfl (by (try simp only [List.map_toArray, List.map_cons, List.map_nil]); first | done | rfl | (simp only [List.length_drop, List.length_take]; rfl)) ?_
          with_reducible refine (r00Whole.calls k1 t119 t150 t151 t154 _ A62.out).mono ?_
          rintro e w79 ⟨v152, rfl, ho0, hb⟩
          refine ⟨_, rfl, ?_⟩
          have n0_ := Zb.mk (Kd.ZJ (by (with_reducible repeat first | apply Kd.Zm | apply Kd.Zo); exact HO_125001.out) (Kd.ZV ho0) hb)
          have n1_ := Zb.mk (Kd.ZJ (by (with_reducible repeat first | apply Kd.Zm | apply Kd.Zo); exact HO_138001.out) (Kd.ZV ho0) hb)
          have n2_ := Zb.mk (Kd.ZG (Kd.R_new' (Kd.R_new' ho0 (Kd.R_lt (by (with_reducible repeat first | apply Kd.Zm | apply Kd.Zo); exact HO_125001.out))) (Kd.R_lt (by (with_reducible repeat first | apply Kd.Zm | apply Kd.Zo); exact HO_138001.out))) (Zi (by repeat (with_reducible first | exact HB.out | apply Zc | apply Za | apply Zd | refine Zh ?_ GE118.out | refine Zh ?_ GE124.out | refine Zh ?_ GE137.out | refine Zh ?_ GE148.out))))
          have n3_ := Zb.mk (Zn (g := gb118) (o := .cells #[.bool a0_0, .slice A0_1 l0_1.length c0_1] 40 (0, 0)) (by (with_reducible repeat first | refine Ze ?_ _ | refine Zg ?_ | refine Zf ?_ _); exact BK118.out) hb)
          have n4_ := Zb.mk (Zn (g := gb124) (o := .cells #[.bool t120, .slice Ao36 t121.length co36] 24 (0, 0)) (by (with_reducible repeat first | refine Ze ?_ _ | refine Zg ?_ | refine Zf ?_ _); exact BK124.out) hb)
          have n5_ := Zb.mk (Zn (g := gb137) (o := .cells #[.bool x138000_1, .slice Ao77 x138001_1.length co77, .int .i64 x138002_1] 48 (0, 0)) (by (with_reducible repeat first | refine Ze ?_ _ | refine Zg ?_ | refine Zf ?_ _); exact BK137.out) hb)
          have n6_ := Zb.mk (Zn (g := gb148) (o := .cells #[.bool false, .slice Ao36 t121.length co36, .int .i64 0] 48 (0, 0)) (by (with_reducible repeat first | refine Ze ?_ _ | refine Zg ?_ | refine Zf ?_ _); exact BK148.out) hb)
          have n7_ := Zb.mk (Zl (by repeat (with_reducible first | exact HB.out | apply Zc | apply Za | apply Zd | refine Zh ?_ GE118.out | refine Zh ?_ GE124.out | refine Zh ?_ GE137.out | refine Zh ?_ GE148.out)) hb)
          clear HO_125001
          clear HO_138001
          clear BK118
          clear BK124
          clear BK137
          clear BK148
          clear HB
          have HO_125001 := n0_
          have HO_138001 := n1_
          have HO153 := n2_
          have BK118 := n3_
          have BK124 := n4_
          have BK137 := n5_
          have BK148 := n6_
          have HB := n7_
          clear n0_ n1_ n2_ n3_ n4_ n5_ n6_ n7_
          (try clear hb)
          (try clear hb2)
          (try clear hk)
          (try clear hi)
          (try clear ho0)
          obtain ⟨Ao80, co80, eo80⟩ := Kd.Zy HO153.out
          (first | subst eo80 | (injection eo80 with f1_ f2_ f3_; have f4_ := f1_.symm; have f5_ := f3_.symm; clear f1_ f2_ f3_; subst f4_; subst f5_))
          refine hK.out _ _ ⟨(Zk BK137.out 0).trans rfl, (Zk BK137.out 1).trans rfl, (Zk BK137.out 2).trans rfl, (Zk BK148.out 0).trans rfl, (Zk BK148.out 1).trans rfl, (Zk BK148.out 2).trans rfl⟩ (fun hHeld => ?_)
          clear hK K
          refine norm_ (a' := ?_) ?_ ?_
          rotate_left
          ·show Act.put _ (some 82) _ = _
           simp only [Act.put, List.setIfInBounds_toArray, List.set_cons_zero, List.set_cons_succ, Zx, ZA]
           rfl
          refine one_ (i := 9) (N := some 83) #[true, true, true, true, true, true, true, true, true, true, false, false, false, false, false, false, false] rfl rfl (one_of HT_.out (by kernel_rfl)) (by decide) (fun K hK => ?_)
          refine goes_ Try.func25 (by kernel_rfl) rfl #[.agg #[.bool x138000_1, .slice Ao77 x138001_1.length co77, .int .i64 x138002_1], .agg #[.bool t150, .slice Ao80 t151.length co80, .int .i64 t154]] (by rfl) rfl rfl (by (try simp only [List.map_toArray, List.map_cons, List.map_nil]); first | done | rfl | (simp only [List.length_drop, List.length_take]; rfl)) ?_
          with_reducible refine (r00Times.calls k1 x138000_1 _ _ x138001_1 x138002_1 t150 _ _ t151 t154 t155 t156 t159 _ ?side1 ?side2 ?side3 ?side4 A63.out).mono ?_
          (case side1 => repeat (first | exact (Kd.Zv HO_138001.out).2.2 | (with_reducible refine Kd.ZC ?_ _) | (with_reducible refine Kd.ZF ?_ _) | (with_reducible refine Kd.ZN ?_)))
          (case side2 => exact (Kd.Zv HO_138001.out).2.1)
          (case side3 => repeat (first | exact (Kd.Zv HO153.out).2.2 | (with_reducible refine Kd.ZC ?_ _) | (with_reducible refine Kd.ZF ?_ _) | (with_reducible refine Kd.ZN ?_)))
          (case side4 => exact (Kd.Zv HO153.out).2.1)
          rintro e w81 ⟨v157, rfl, ho0, hb⟩
          refine ⟨_, rfl, ?_⟩
          have n0_ := Zb.mk (Kd.ZJ (by (with_reducible repeat first | apply Kd.Zm | apply Kd.Zo); exact HO_125001.out) (Kd.ZV ho0) hb)
          have n1_ := Zb.mk (Kd.ZJ (by (with_reducible repeat first | apply Kd.Zm | apply Kd.Zo); exact HO_138001.out) (Kd.ZV ho0) hb)
          have n2_ := Zb.mk (Kd.ZJ (by (with_reducible repeat first | apply Kd.Zm | apply Kd.Zo); exact HO153.out) (Kd.ZV ho0) hb)
          have n3_ := Zb.mk (Kd.ZG (Kd.R_new' (Kd.R_new' (Kd.R_new' ho0 (Kd.R_lt (by (with_reducible repeat first | apply Kd.Zm | apply Kd.Zo); exact HO_125001.out))) (Kd.R_lt (by (with_reducible repeat first | apply Kd.Zm | apply Kd.Zo); exact HO_138001.out))) (Kd.R_lt (by (with_reducible repeat first | apply Kd.Zm | apply Kd.Zo); exact HO153.out))) (Zi (by repeat (with_reducible first | exact HB.out | apply Zc | apply Za | apply Zd | refine Zh ?_ GE118.out | refine Zh ?_ GE124.out | refine Zh ?_ GE137.out | refine Zh ?_ GE148.out))))
          have n4_ := Zb.mk (Zn (g := gb118) (o := .cells #[.bool a0_0, .slice A0_1 l0_1.length c0_1] 40 (0, 0)) (by (with_reducible repeat first | refine Ze ?_ _ | refine Zg ?_ | refine Zf ?_ _); exact BK118.out) hb)
          have n5_ := Zb.mk (Zn (g := gb124) (o := .cells #[.bool t120, .slice Ao36 t121.length co36] 24 (0, 0)) (by (with_reducible repeat first | refine Ze ?_ _ | refine Zg ?_ | refine Zf ?_ _); exact BK124.out) hb)
          have n6_ := Zb.mk (Zn (g := gb137) (o := .cells #[.bool x138000_1, .slice Ao77 x138001_1.length co77, .int .i64 x138002_1] 48 (0, 0)) (by (with_reducible repeat first | refine Ze ?_ _ | refine Zg ?_ | refine Zf ?_ _); exact BK137.out) hb)
          have n7_ := Zb.mk (Zn (g := gb148) (o := .cells #[.bool false, .slice Ao36 t121.length co36, .int .i64 0] 48 (0, 0)) (by (with_reducible repeat first | refine Ze ?_ _ | refine Zg ?_ | refine Zf ?_ _); exact BK148.out) hb)
          have n8_ := Zb.mk (Zl (by repeat (with_reducible first | exact HB.out | apply Zc | apply Za | apply Zd | refine Zh ?_ GE118.out | refine Zh ?_ GE124.out | refine Zh ?_ GE137.out | refine Zh ?_ GE148.out)) hb)
          clear HO_125001
          clear HO_138001
          clear HO153
          clear BK118
          clear BK124
          clear BK137
          clear BK148
          clear HB
          have HO_125001 := n0_
          have HO_138001 := n1_
          have HO153 := n2_
          have HO158 := n3_
          have BK118 := n4_
          have BK124 := n5_
          have BK137 := n6_
          have BK148 := n7_
          have HB := n8_
          clear n0_ n1_ n2_ n3_ n4_ n5_ n6_ n7_ n8_
          (try clear hb)
          (try clear hb2)
          (try clear hk)
          (try clear hi)
          (try clear ho0)
          obtain ⟨Ao82, co82, eo82⟩ := Kd.Zy HO158.out
          (first | subst eo82 | (injection eo82 with f1_ f2_ f3_; have f4_ := f1_.symm; have f5_ := f3_.symm; clear f1_ f2_ f3_; subst f4_; subst f5_))
          refine hK.out _ _ ⟨(Zk BK137.out 0).trans rfl, (Zk BK137.out 1).trans rfl, (Zk BK137.out 2).trans rfl, (Zk BK148.out 0).trans rfl, (Zk BK148.out 1).trans rfl, (Zk BK148.out 2).trans rfl⟩ (fun hHeld => ?_)
          clear hK K
          refine norm_ (a' := ?_) ?_ ?_
          rotate_left
          ·show Act.put _ (some 83) _ = _
           simp only [Act.put, List.setIfInBounds_toArray, List.set_cons_zero, List.set_cons_succ, Zx, ZA]
           rfl
          refine one_ (i := 10) (N := some 84) #[true, true, true, true, true, true, true, true, true, true, true, false, false, false, false, false, false] rfl rfl (one_of HT_.out (by kernel_rfl)) (by decide) (fun K hK => ?_)
          refine goes_ Try.func28 (by kernel_rfl) rfl #[.agg #[.bool false, .slice Ao36 t121.length co36, .int .i64 0], .agg #[.bool t155, .slice Ao82 t156.length co82, .int .i64 t159]] (by rfl) rfl rfl (by (try simp only [List.map_toArray, List.map_cons, List.map_nil]); first | done | rfl | (simp only [List.length_drop, List.length_take]; rfl)) ?_
          with_reducible refine (r00Compare.calls k1 false _ _ t121 0 t155 _ _ t156 t159 t160 _ ?side1 ?side2 ?side3 ?side4 A64.out).mono ?_
          (case side1 => repeat (first | exact (Kd.Zv HO_125001.out).2.2 | (with_reducible refine Kd.ZC ?_ _) | (with_reducible refine Kd.ZF ?_ _) | (with_reducible refine Kd.ZN ?_)))
          (case side2 => exact (Kd.Zv HO_125001.out).2.1)
          (case side3 => repeat (first | exact (Kd.Zv HO158.out).2.2 | (with_reducible refine Kd.ZC ?_ _) | (with_reducible refine Kd.ZF ?_ _) | (with_reducible refine Kd.ZN ?_)))
          (case side4 => exact (Kd.Zv HO158.out).2.1)
          rintro e w83 ⟨rfl, hb⟩
          refine ⟨_, rfl, ?_⟩
          have n0_ := Zb.mk (Kd.Zz (by (with_reducible repeat first | apply Kd.Zm | apply Kd.Zo); exact HO_125001.out) hb)
          have n1_ := Zb.mk (Kd.Zz (by (with_reducible repeat first | apply Kd.Zm | apply Kd.Zo); exact HO_138001.out) hb)
          have n2_ := Zb.mk (Kd.Zz (by (with_reducible repeat first | apply Kd.Zm | apply Kd.Zo); exact HO153.out) hb)
          have n3_ := Zb.mk (Kd.Zz (by (with_reducible repeat first | apply Kd.Zm | apply Kd.Zo); exact HO158.out) hb)
          have n4_ := Zb.mk (Zn (g := gb118) (o := .cells #[.bool a0_0, .slice A0_1 l0_1.length c0_1] 40 (0, 0)) (by (with_reducible repeat first | refine Ze ?_ _ | refine Zg ?_ | refine Zf ?_ _); exact BK118.out) hb)
          have n5_ := Zb.mk (Zn (g := gb124) (o := .cells #[.bool t120, .slice Ao36 t121.length co36] 24 (0, 0)) (by (with_reducible repeat first | refine Ze ?_ _ | refine Zg ?_ | refine Zf ?_ _); exact BK124.out) hb)
          have n6_ := Zb.mk (Zn (g := gb137) (o := .cells #[.bool x138000_1, .slice Ao77 x138001_1.length co77, .int .i64 x138002_1] 48 (0, 0)) (by (with_reducible repeat first | refine Ze ?_ _ | refine Zg ?_ | refine Zf ?_ _); exact BK137.out) hb)
          have n7_ := Zb.mk (Zn (g := gb148) (o := .cells #[.bool false, .slice Ao36 t121.length co36, .int .i64 0] 48 (0, 0)) (by (with_reducible repeat first | refine Ze ?_ _ | refine Zg ?_ | refine Zf ?_ _); exact BK148.out) hb)
          have n8_ := Zb.mk (Zl (by repeat (with_reducible first | exact HB.out | apply Zc | apply Za | apply Zd | refine Zh ?_ GE118.out | refine Zh ?_ GE124.out | refine Zh ?_ GE137.out | refine Zh ?_ GE148.out)) hb)
          clear HO_125001
          clear HO_138001
          clear HO153
          clear HO158
          clear BK118
          clear BK124
          clear BK137
          clear BK148
          clear HB
          have HO_125001 := n0_
          have HO_138001 := n1_
          have HO153 := n2_
          have HO158 := n3_
          have BK118 := n4_
          have BK124 := n5_
          have BK137 := n6_
          have BK148 := n7_
          have HB := n8_
          clear n0_ n1_ n2_ n3_ n4_ n5_ n6_ n7_ n8_
          (try clear hb)
          (try clear hb2)
          (try clear hk)
          (try clear hi)
          refine hK.out _ _ ⟨(Zk BK137.out 0).trans rfl, (Zk BK137.out 1).trans rfl, (Zk BK137.out 2).trans rfl, (Zk BK148.out 0).trans rfl, (Zk BK148.out 1).trans rfl, (Zk BK148.out 2).trans rfl⟩ (fun hHeld => ?_)
          clear hK K
          refine norm_ (a' := ?_) ?_ ?_
          rotate_left
          ·show Act.put _ (some 84) _ = _
           simp only [Act.put, List.setIfInBounds_toArray, List.set_cons_zero, List.set_cons_succ, Zx, ZA]
           rfl
          refine ZM (i := 11) (N := some 85) (v := ?_) (a' := ?_) #[true, true, true, true, true, true, true, true, true, true, true, true, false, false, false, false, false] rfl rfl (ZD HT_.out (by kernel_rfl)) (fun _ _ _ h => h) (Or.inl ⟨by rfl, ?_⟩) ?_ ?_
          rotate_left
          ·intro w'
           go_simp
           with_reducible rfl
          rotate_left
          ·simp only [Act.put, List.setIfInBounds_toArray, List.set_cons_zero, List.set_cons_succ, Zx, ZA]
           rfl
          refine ZM (i := 12) (N := some 86) (v := ?_) (a' := ?_) #[true, true, true, true, true, true, true, true, true, true, true, true, true, false, false, false, false] rfl rfl (ZD HT_.out (by kernel_rfl)) (fun _ _ _ h => h) (Or.inl ⟨by rfl, ?_⟩) ?_ ?_
          rotate_left
          ·intro w'
           go_simp
           with_reducible rfl
          rotate_left
          ·simp only [Act.put, List.setIfInBounds_toArray, List.set_cons_zero, List.set_cons_succ, Zx, ZA]
           rfl
          refine ZM (i := 13) (N := some 87) (v := ?_) (a' := ?_) #[true, true, true, true, true, true, true, true, true, true, true, true, true, true, false, false, false] rfl rfl (ZD HT_.out (by kernel_rfl)) (fun _ _ _ h => h) (Or.inl ⟨by rfl, ?_⟩) ?_ ?_
          rotate_left
          ·intro w'
           go_simp
           with_reducible rfl
          rotate_left
          ·simp only [Act.put, List.setIfInBounds_toArray, List.set_cons_zero, List.set_cons_succ, Zx, ZA]
           rfl
          refine one_ (i := 14) (N := some 88) #[true, true, true, true, true, true, true, true, true, true, true, true, true, true, true, false, false] rfl rfl (one_of HT_.out (by kernel_rfl)) (by decide) (fun K hK => ?_)
          refine goes_ Try.func10 (by kernel_rfl) rfl #[] (by rfl) rfl rfl (by (try simp only [List.map_toArray, List.map_cons, List.map_nil]); first | done | rfl | (simp only [List.length_drop, List.length_take]; rfl)) ?_
          with_reducible refine (w19awake.calls k1  t161 _ A66.out).mono ?_
          rintro e w84 ⟨rfl, hb⟩
          refine ⟨_, rfl, ?_⟩
          have n0_ := Zb.mk (Kd.Zz (by (with_reducible repeat first | apply Kd.Zm | apply Kd.Zo); exact HO_125001.out) hb)
          have n1_ := Zb.mk (Kd.Zz (by (with_reducible repeat first | apply Kd.Zm | apply Kd.Zo); exact HO_138001.out) hb)
          have n2_ := Zb.mk (Kd.Zz (by (with_reducible repeat first | apply Kd.Zm | apply Kd.Zo); exact HO153.out) hb)
          have n3_ := Zb.mk (Kd.Zz (by (with_reducible repeat first | apply Kd.Zm | apply Kd.Zo); exact HO158.out) hb)
          have n4_ := Zb.mk (Zn (g := gb118) (o := .cells #[.bool a0_0, .slice A0_1 l0_1.length c0_1] 40 (0, 0)) (by (with_reducible repeat first | refine Ze ?_ _ | refine Zg ?_ | refine Zf ?_ _); exact BK118.out) hb)
          have n5_ := Zb.mk (Zn (g := gb124) (o := .cells #[.bool t120, .slice Ao36 t121.length co36] 24 (0, 0)) (by (with_reducible repeat first | refine Ze ?_ _ | refine Zg ?_ | refine Zf ?_ _); exact BK124.out) hb)
          have n6_ := Zb.mk (Zn (g := gb137) (o := .cells #[.bool x138000_1, .slice Ao77 x138001_1.length co77, .int .i64 x138002_1] 48 (0, 0)) (by (with_reducible repeat first | refine Ze ?_ _ | refine Zg ?_ | refine Zf ?_ _); exact BK137.out) hb)
          have n7_ := Zb.mk (Zn (g := gb148) (o := .cells #[.bool false, .slice Ao36 t121.length co36, .int .i64 0] 48 (0, 0)) (by (with_reducible repeat first | refine Ze ?_ _ | refine Zg ?_ | refine Zf ?_ _); exact BK148.out) hb)
          have n8_ := Zb.mk (Zl (by repeat (with_reducible first | exact HB.out | apply Zc | apply Za | apply Zd | refine Zh ?_ GE118.out | refine Zh ?_ GE124.out | refine Zh ?_ GE137.out | refine Zh ?_ GE148.out)) hb)
          clear HO_125001
          clear HO_138001
          clear HO153
          clear HO158
          clear BK118
          clear BK124
          clear BK137
          clear BK148
          clear HB
          have HO_125001 := n0_
          have HO_138001 := n1_
          have HO153 := n2_
          have HO158 := n3_
          have BK118 := n4_
          have BK124 := n5_
          have BK137 := n6_
          have BK148 := n7_
          have HB := n8_
          clear n0_ n1_ n2_ n3_ n4_ n5_ n6_ n7_ n8_
          (try clear hb)
          (try clear hb2)
          (try clear hk)
          (try clear hi)
          refine hK.out _ _ ⟨(Zk BK137.out 0).trans rfl, (Zk BK137.out 1).trans rfl, (Zk BK137.out 2).trans rfl, (Zk BK148.out 0).trans rfl, (Zk BK148.out 1).trans rfl, (Zk BK148.out 2).trans rfl⟩ (fun hHeld => ?_)
          clear hK K
          refine norm_ (a' := ?_) ?_ ?_
          rotate_left
          ·show Act.put _ (some 88) _ = _
           simp only [Act.put, List.setIfInBounds_toArray, List.set_cons_zero, List.set_cons_succ, Zx, ZA]
           rfl
          refine ZM (i := 15) (N := some 89) (v := ?_) (a' := ?_) #[true, true, true, true, true, true, true, true, true, true, true, true, true, true, true, true, false] rfl rfl (ZD HT_.out (by kernel_rfl)) (fun _ _ _ h => h) (Or.inl ⟨by rfl, ?_⟩) ?_ ?_
          rotate_left
          ·intro w'
           go_simp
           with_reducible rfl
          rotate_left
          ·simp only [Act.put, List.setIfInBounds_toArray, List.set_cons_zero, List.set_cons_succ, Zx, ZA]
           rfl
          refine ZM (i := 16) (N := some 4) (v := ?_) (a' := ?_) #[true, true, true, true, true, true, true, true, true, true, true, true, true, true, true, true, true] rfl rfl (ZD HT_.out (by kernel_rfl)) (fun _ _ _ h => h) (Or.inl ⟨by rfl, ?_⟩) ?_ ?_
          rotate_left
          ·intro w'
           go_simp
           with_reducible rfl
          rotate_left
          ·simp only [Act.put, List.setIfInBounds_toArray, List.set_cons_zero, List.set_cons_succ, Zx, ZA]
           rfl
          refine done_ (done_of HT_.out (by kernel_rfl)) ?_
          try go_wp2
          go_ret
          exact ⟨by first | rfl | (simp [errW_none, errW_some] <;> rfl) | (simp [*, errW_none, errW_some] <;> rfl), by repeat (with_reducible first | exact HB.out | apply Zc | apply Za | apply Zd | refine Zh ?_ GE118.out | refine Zh ?_ GE124.out | refine Zh ?_ GE137.out | refine Zh ?_ GE148.out)⟩
         ·rw [if_neg c65] at H
          exact absurd H (by simp)
        ·rw [if_neg c61] at H
         exact absurd H (by simp)
  ·rw [if_neg c9] at H
   exact absurd H (by simp)
 ·rw [if_neg c7] at H
  exact absurd H (by simp)
end Go.Proofs.Ytbmddlldadbfnaa.BC
end
section
namespace Go.Proofs.Ytbmddlldadbfnaa.BM
open Go.RowKit Go.Proofs.YtbmddlldadbfnaaW.PrintWords Go.Proofs.YtbmddlldadbfnaaW.PrintLast Go.Proofs.YtbmddlldadbfnaaW.PrintMore
def Ev {α : Type} (f : Nat → Option α) (r : α) : Prop := ∃ K, ∀ k, K ≤ k → f k = some r
namespace Ev
variable {α β : Type}
theorem pure (r : α) : Ev (fun _ => some r) r := ⟨0, fun _ _ => rfl⟩
theorem succ {f : Nat → Option α} {r : α} (h : Ev (fun k => f (k + 1)) r) : Ev f r := by
 obtain ⟨K, hK⟩ := h
 refine ⟨K + 1, fun k hk => ?_⟩
 have h : f (k - 1 + 1) = some r := hK (k - 1) (by omega)
 rwa [show k - 1 + 1 = k by omega] at h
theorem bind {f : Nat → Option α} {g : Nat → α → Option β} {a : α} {r : β} (hf : Ev f a) (hg : Ev (fun k => g k a) r) : Ev (fun k => (f k).bind (g k)) r := by
 obtain ⟨K, hK⟩ := hf
 obtain ⟨L, hL⟩ := hg
 refine ⟨max K L, fun k hk => ?_⟩
 show (f k).bind (g k) = some r
 rw [hK k (by omega)]
 exact hL k (by omega)
theorem congr {f g : Nat → Option α} {r : α} (h : Ev g r) (e : ∀ k, f k = g k) : Ev f r := by
 obtain ⟨K, hK⟩ := h
 exact ⟨K, fun k hk => (e k).trans (hK k hk)⟩
theorem ex {f : Nat → Option α} {r : α} (h : Ev f r) : ∃ k, f k = some r := by
 obtain ⟨K, hK⟩ := h
 exact ⟨K, hK K (Nat.le_refl _)⟩
theorem const {f : Option α} {r : α} (h : f = some r) : Ev (fun _ => f) r := ⟨0, fun _ _ => h⟩
end Ev
theorem w64 {n : Int} (h0 : -9223372036854775808 ≤ n) (h1 : n < 9223372036854775808) : wrap64 n = n := by unfold wrap64; omega
theorem u64 {n : Int} (h0 : 0 ≤ n) (h1 : n < 18446744073709551616) : IntKind.u64.wrap n = n := by rw [IntKind.wrap_u64]; omega
theorem u64m (n : Int) : IntKind.u64.wrap n = n % 18446744073709551616 := IntKind.wrap_u64 n
def V (B : Int) : List Int → Int
 | [] => 0
 | a :: l => a + B * V B l
def Dig (B : Int) (l : List Int) : Prop := ∀ a ∈ l, 0 ≤ a ∧ a < B
def Num (B : Int) (l : List Int) (n : Int) : Prop := Dig B l ∧ V B l = n
def Top (l : List Int) : Prop := ∀ h : l ≠ [], l.getLast h ≠ 0
def Can (B : Int) (l : List Int) (n : Int) : Prop := Num B l n ∧ Top l
theorem V_append (B : Int) (p q : List Int) : V B (p ++ q) = V B p + B ^ p.length * V B q := by
 induction p with
 | nil => simp [V]
 | cons a p ih => simp only [List.cons_append, V, ih, List.length_cons, Int.pow_succ]; grind
theorem V_snoc (B : Int) (p : List Int) (d : Int) : V B (p ++ [d]) = V B p + B ^ p.length * d := by
 rw [V_append]; simp [V]
theorem V_zeros (B : Int) (n : Nat) : V B (List.replicate n 0) = 0 := by
 induction n with
 | zero => rfl
 | succ n ih => simp [List.replicate_succ, V, ih]
theorem V_nonneg {B : Int} (hB : 0 < B) {l : List Int} (h : Dig B l) : 0 ≤ V B l := by
 induction l with
 | nil => simp [V]
 | cons a l ih =>
  have h1 := h a (by simp)
  have h2 := ih (fun x hx => h x (by simp [hx]))
  have := Int.mul_nonneg (Int.le_of_lt hB) h2
  simp only [V]; omega
theorem V_lt {B : Int} (hB : 0 < B) {l : List Int} (h : Dig B l) : V B l < B ^ l.length := by
 induction l with
 | nil => simp [V]
 | cons a l ih =>
  have h1 := h a (by simp)
  have h2 := ih (fun x hx => h x (by simp [hx]))
  have := Int.mul_le_mul_of_nonneg_left (show V B l + 1 ≤ B ^ l.length by omega) (Int.le_of_lt hB)
  simp only [V, List.length_cons, Int.pow_succ]
  grind
theorem Dig_append {B : Int} {p q : List Int} (hp : Dig B p) (hq : Dig B q) : Dig B (p ++ q) := by
 intro a ha
 rcases List.mem_append.1 ha with h | h
 ·exact hp a h
 ·exact hq a h
theorem Dig_one {B d : Int} (h0 : 0 ≤ d) (h1 : d < B) : Dig B [d] := by
 intro a ha; simp only [List.mem_singleton] at ha; subst ha; exact ⟨h0, h1⟩
theorem Dig_snoc {B d : Int} {p : List Int} (hp : Dig B p) (h0 : 0 ≤ d) (h1 : d < B) : Dig B (p ++ [d]) := Dig_append hp (Dig_one h0 h1)
theorem Dig_nil (B : Int) : Dig B [] := by intro a ha; simp at ha
theorem Dig_zeros {B : Int} (hB : 0 < B) (n : Nat) : Dig B (List.replicate n 0) := by
 intro a ha; have := List.eq_of_mem_replicate ha; subst this; exact ⟨by omega, hB⟩
theorem Dig_take {B : Int} {l : List Int} (h : Dig B l) (i : Nat) : Dig B (l.take i) := fun a ha => h a (List.mem_of_mem_take ha)
theorem Dig_tail {B a : Int} {l : List Int} (h : Dig B (a :: l)) : Dig B l := fun x hx => h x (by simp [hx])
theorem pow_pos' {B : Int} (hB : 0 < B) (n : Nat) : 0 < B ^ n := by
 induction n with
 | zero => simp
 | succ n ih => rw [Int.pow_succ]; exact Int.mul_pos ih hB
theorem pow_le' {B : Int} (hB : 1 ≤ B) {m n : Nat} (h : m ≤ n) : B ^ m ≤ B ^ n := by
 induction n with
 | zero => rw [show m = 0 by omega]; simp
 | succ n ih =>
  rcases Nat.lt_or_ge m (n + 1) with hlt | hge
  ·have h1 := ih (by omega)
   have h2 := pow_pos' (show 0 < B by omega) n
   have h3 := Int.mul_le_mul_of_nonneg_left hB (Int.le_of_lt h2)
   rw [Int.pow_succ]; omega
  ·rw [show m = n + 1 by omega]; exact Int.le_refl _
theorem pow_mono {a b : Int} (ha : 0 ≤ a) (h : a ≤ b) (n : Nat) : a ^ n ≤ b ^ n := by
 induction n with
 | zero => simp
 | succ n ih =>
  rw [Int.pow_succ, Int.pow_succ]
  exact Int.mul_le_mul ih h ha (Int.pow_nonneg (by omega))
theorem rd_nat (l : List Int) {i : Nat} (h : i < l.length) : rd l (i : Int) = l[i] := by
 unfold rd; simp [List.getD_eq_getElem?_getD, h]
theorem rd_int (l : List Int) {i : Int} (h0 : 0 ≤ i) (h : i < l.length) : rd l i = l[i.toNat]'(by omega) := by
 unfold rd; simp [List.getD_eq_getElem?_getD, show i.toNat < l.length by omega]
theorem rd_dig {B : Int} {l : List Int} (hl : Dig B l) {i : Int} (h0 : 0 ≤ i) (h : i < l.length) : 0 ≤ rd l i ∧ rd l i < B := by
 rw [rd_int l h0 h]; exact hl _ (List.getElem_mem _)
theorem take_rd (l : List Int) {i : Nat} (h : i < l.length) : l.take (i + 1) = l.take i ++ [rd l (i : Int)] := by
 rw [rd_nat l h, List.take_append_getElem h]
theorem V_take (B : Int) (l : List Int) {i : Nat} (h : i < l.length) : V B (l.take (i + 1)) = V B (l.take i) + B ^ i * rd l (i : Int) := by
 rw [take_rd l h, V_snoc, List.length_take, Nat.min_eq_left (by omega)]
theorem set_pad (p : List Int) (d : Int) (j : Nat) : (p ++ List.replicate (j + 1) 0).set p.length d = (p ++ [d]) ++ List.replicate j 0 := by
 rw [List.set_append_right _ _ (Nat.le_refl _)]; simp [List.replicate_succ]
theorem getLast_rd (l : List Int) (h : l ≠ []) : l.getLast h = rd l ((l.length : Int) - 1) := by
 have : 0 < l.length := List.length_pos_iff.2 h
 rw [rd_int l (by omega) (by omega), List.getLast_eq_getElem]
 congr 1; omega
theorem Can_unique {B : Int} (hB : 1 < B) : ∀ {l m : List Int} {n : Int}, Can B l n → Can B m n → l = m
 | [], [], _, _, _ => rfl
 | [], b :: m, n, h, h' => by
  exfalso
  have e : V B (b :: m) = 0 := by rw [h'.1.2, ← h.1.2]; rfl
  have hd := h'.1.1
  have b0 := hd b (by simp)
  have v0 := V_nonneg (by omega : 0 < B) (Dig_tail hd)
  have p0 := Int.mul_nonneg (show 0 ≤ B by omega) v0
  simp only [V] at e
  have hb : b = 0 := by omega
  have hv : B * V B m = 0 := by omega
  have hv' : V B m = 0 := by rcases Int.mul_eq_zero.1 hv with h | h <;> omega
  cases m with
  | nil => exact h'.2 (by simp) (by simpa using hb)
  | cons c m =>
   have : Can B (c :: m) 0 := ⟨⟨Dig_tail hd, hv'⟩, fun hne => by have := h'.2 (by simp); simpa using this⟩
   exact absurd (Can_unique hB (l := []) (m := c :: m) ⟨⟨Dig_nil B, rfl⟩, fun h => absurd rfl h⟩ this) (by simp)
 | a :: l, [], n, h, h' => by
  exfalso
  have e : V B (a :: l) = 0 := by rw [h.1.2, ← h'.1.2]; rfl
  have hd := h.1.1
  have b0 := hd a (by simp)
  have v0 := V_nonneg (by omega : 0 < B) (Dig_tail hd)
  have p0 := Int.mul_nonneg (show 0 ≤ B by omega) v0
  simp only [V] at e
  have hb : a = 0 := by omega
  have hv : B * V B l = 0 := by omega
  have hv' : V B l = 0 := by rcases Int.mul_eq_zero.1 hv with h | h <;> omega
  cases l with
  | nil => exact h.2 (by simp) (by simpa using hb)
  | cons c m =>
   have : Can B (c :: m) 0 := ⟨⟨Dig_tail hd, hv'⟩, fun hne => by have := h.2 (by simp); simpa using this⟩
   exact absurd (Can_unique hB (l := c :: m) (m := []) this ⟨⟨Dig_nil B, rfl⟩, fun h => absurd rfl h⟩) (by simp)
 | a :: l, b :: m, n, h, h' => by
  have e : a + B * V B l = b + B * V B m := by
   have h1 := h.1.2; have h2 := h'.1.2; simp only [V] at h1 h2; omega
  have a0 := h.1.1 a (by simp)
  have b0 := h'.1.1 b (by simp)
  have hab : a = b := by
   have h1 : (a + B * V B l) % B = a := by rw [Int.add_mul_emod_self_left]; exact Int.emod_eq_of_lt a0.1 a0.2
   have h2 : (b + B * V B m) % B = b := by rw [Int.add_mul_emod_self_left]; exact Int.emod_eq_of_lt b0.1 b0.2
   rw [← h1, e, h2]
  have hv : V B l = V B m := by
   have : B * V B l = B * V B m := by omega
   exact Int.eq_of_mul_eq_mul_left (by omega) this
  have tl : Top l := fun hne => by have := h.2 (by simp); rwa [List.getLast_cons hne] at this
  have tm : Top m := fun hne => by have := h'.2 (by simp); rwa [List.getLast_cons hne] at this
  rw [hab, Can_unique hB (l := l) (m := m) (n := V B l) ⟨⟨Dig_tail h.1.1, rfl⟩, tl⟩ ⟨⟨Dig_tail h'.1.1, hv.symm⟩, tm⟩]
 termination_by l m => l.length + m.length
theorem Can_nil (B : Int) : Can B [] 0 := ⟨⟨Dig_nil B, rfl⟩, fun h => absurd rfl h⟩
theorem Can_zero {B : Int} (hB : 1 < B) {l : List Int} (h : Can B l 0) : l = [] := Can_unique hB h (Can_nil B)
theorem Can_low {B : Int} (hB : 1 < B) {l : List Int} {n : Int} (h : Can B l n) (hne : l ≠ []) : B ^ (l.length - 1) ≤ n := by
 have hl : 0 < l.length := List.length_pos_iff.2 hne
 have e : l = l.take (l.length - 1) ++ [l.getLast hne] := by
  rw [List.getLast_eq_getElem]
  conv => lhs; rw [← List.take_length (l := l), show l.length = l.length - 1 + 1 by omega, List.take_add_one]
  simp [show l.length - 1 < l.length by omega]
 have hv := h.1.2
 rw [e, V_snoc, List.length_take, Nat.min_eq_left (by omega)] at hv
 have v0 := V_nonneg (by omega : 0 < B) (Dig_take h.1.1 (l.length - 1))
 have t0 := h.2 hne
 have d0 := h.1.1 (l.getLast hne) (List.getLast_mem hne)
 have := Int.mul_le_mul_of_nonneg_left (show (1 : Int) ≤ l.getLast hne by omega) (Int.le_of_lt (pow_pos' (by omega : 0 < B) (l.length - 1)))
 omega
theorem Can_len {B : Int} (hB : 1 < B) {l : List Int} {n : Int} (h : Can B l n) {c : Nat} (hn : n < B ^ c) : l.length ≤ c := by
 rcases Nat.lt_or_ge c l.length with hlt | hge
 ·exfalso
  have hne : l ≠ [] := by intro h0; subst h0; simp at hlt
  have h1 := Can_low hB h hne
  have h2 := pow_le' (show 1 ≤ B by omega) (show c ≤ l.length - 1 by omega)
  omega
 ·exact hge
theorem Can_pos {B : Int} (hB : 1 < B) {l : List Int} {n : Int} (h : Can B l n) (hne : l ≠ []) : 0 < n := by
 have h1 := Can_low hB h hne
 have h2 := pow_pos' (show 0 < B by omega) (l.length - 1)
 omega
theorem Can_nonneg {B : Int} (hB : 0 < B) {l : List Int} {n : Int} (h : Can B l n) : 0 ≤ n := by
 have := V_nonneg hB h.1.1; rw [h.1.2] at this; exact this
theorem V_take_zero (B : Int) (l : List Int) {i : Nat} (h : i < l.length) (h0 : rd l (i : Int) = 0) : V B (l.take i) = V B (l.take (i + 1)) := by
 rw [V_take B l h, h0]; simp
theorem Top_take {l : List Int} {i : Nat} (h : i < l.length) (h0 : rd l (i : Int) ≠ 0) : Top (l.take (i + 1)) := by
 intro hne
 simp only [take_rd l h, List.getLast_append, List.getLast_singleton]
 simpa using h0
end Go.Proofs.Ytbmddlldadbfnaa.BM
end
section
namespace Go.Proofs.Ytbmddlldadbfnaa.BM
open Go.RowKit Go.Proofs.YtbmddlldadbfnaaW.PrintWords Go.Proofs.YtbmddlldadbfnaaW.PrintLast Go.Proofs.YtbmddlldadbfnaaW.PrintMore
open Go.Proofs.Ytbmddlldadbfnaa.BB
theorem nattrim_l0 (B : Int) : ∀ (m : Nat) {l : List Int} {n : Int}, m ≤ l.length → l.length < 1099511627776 → Num B (l.take m) n →
  ∃ r, Ev (fun k => r00NatTrim.l0 k l m) r ∧ Can B r n ∧ r.length ≤ m
 | 0, l, n, hm, hb, hn => by
  have hv : n = 0 := by rw [← hn.2]; simp [V]
  subst hv
  refine ⟨[], Ev.succ (Ev.congr (Ev.pure _) fun k => ?_), Can_nil B, by simp⟩
  rw [r00NatTrim.l0, if_neg (by omega), if_pos (by omega), if_pos (by omega)]
  simp
 | m + 1, l, n, hm, hb, hn => by
  have e : wrap64 (((m + 1 : Nat) : Int) - 1) = ((m : Nat) : Int) := by rw [w64 (by omega) (by omega)]; omega
  have c0 : ((m + 1 : Nat) : Int) > 0 := by clear e; omega
  have c1 : ((m : Nat) : Int) < (l.length : Int) := by clear e; omega
  by_cases h0 : rd l ((m : Nat) : Int) = 0
  ·obtain ⟨r, he, hc, hl⟩ := nattrim_l0 B m (l := l) (n := n) (by clear e; omega) (by clear e; omega)
    ⟨Dig_take (by have := Dig_take hn.1 m; rwa [List.take_take, Nat.min_eq_left (by clear e; omega)] at this) m |> fun h => by rwa [List.take_take, Nat.min_self] at h, by rw [V_take_zero B l (by clear e; omega) h0]; exact hn.2⟩
   refine ⟨r, Ev.succ (Ev.congr he fun k => ?_), hc, by clear e; omega⟩
   rw [r00NatTrim.l0, e, if_pos c0, if_pos (Int.natCast_nonneg _), if_pos c1, if_pos h0]
  ·refine ⟨l.take (m + 1), Ev.succ (Ev.congr (Ev.pure _) fun k => ?_), ⟨hn, Top_take (by clear e; omega) h0⟩, by rw [List.length_take]; clear e; omega⟩
   have c2 : ((m + 1 : Nat) : Int) ≤ (l.length : Int) := by clear e; omega
   have c3 : ([] : List Int).length + (l.take (m + 1)).length < 17592186044416 := by rw [List.length_take, List.length_nil]; clear e; omega
   rw [r00NatTrim.l0, e, if_pos c0, if_pos (Int.natCast_nonneg _), if_pos c1, if_neg h0, if_pos (Int.natCast_nonneg _), if_pos c2, Int.toNat_natCast, if_pos c3]
   simp
theorem low_l0 (B : Int) : ∀ (m : Nat) {l : List Int} {n : Int}, m ≤ l.length → l.length < 1099511627776 → Num B (l.take m) n →
  ∃ r, Ev (fun k => r00low.l0 k l m) r ∧ Can B r n ∧ r.length ≤ m
 | 0, l, n, hm, hb, hn => by
  have hv : n = 0 := by rw [← hn.2]; simp [V]
  subst hv
  refine ⟨[], Ev.succ (Ev.congr (Ev.pure _) fun k => ?_), Can_nil B, by simp⟩
  rw [r00low.l0, if_neg (by omega), if_pos (by omega), if_pos (by omega)]
  simp
 | m + 1, l, n, hm, hb, hn => by
  have e : wrap64 (((m + 1 : Nat) : Int) - 1) = ((m : Nat) : Int) := by rw [w64 (by omega) (by omega)]; omega
  have c0 : ((m + 1 : Nat) : Int) > 0 := by clear e; omega
  have c1 : ((m : Nat) : Int) < (l.length : Int) := by clear e; omega
  by_cases h0 : rd l ((m : Nat) : Int) = 0
  ·obtain ⟨r, he, hc, hl⟩ := low_l0 B m (l := l) (n := n) (by clear e; omega) (by clear e; omega)
    ⟨Dig_take (by have := Dig_take hn.1 m; rwa [List.take_take, Nat.min_eq_left (by clear e; omega)] at this) m |> fun h => by rwa [List.take_take, Nat.min_self] at h, by rw [V_take_zero B l (by clear e; omega) h0]; exact hn.2⟩
   refine ⟨r, Ev.succ (Ev.congr he fun k => ?_), hc, by clear e; omega⟩
   rw [r00low.l0, e, if_pos c0, if_pos (Int.natCast_nonneg _), if_pos c1, if_pos h0]
  ·refine ⟨l.take (m + 1), Ev.succ (Ev.congr (Ev.pure _) fun k => ?_), ⟨hn, Top_take (by clear e; omega) h0⟩, by rw [List.length_take]; clear e; omega⟩
   have c2 : ((m + 1 : Nat) : Int) ≤ (l.length : Int) := by clear e; omega
   rw [r00low.l0, e, if_pos c0, if_pos (Int.natCast_nonneg _), if_pos c1, if_neg h0, if_pos (Int.natCast_nonneg _), if_pos c2, Int.toNat_natCast]
theorem nattrim_ev (B : Int) {l : List Int} {n : Int} (hb : l.length < 1099511627776) (hn : Num B l n) : ∃ r, Ev (fun k => r00NatTrim.f k l) r ∧ Can B r n ∧ r.length ≤ l.length :=
 nattrim_l0 B l.length (Nat.le_refl _) hb (by rw [List.take_length]; exact hn)
theorem low_ev (B : Int) {l : List Int} {n : Int} (hb : l.length < 1099511627776) (hn : Num B l n) : ∃ r, Ev (fun k => r00low.f k l) r ∧ Can B r n ∧ r.length ≤ l.length :=
 low_l0 B l.length (Nat.le_refl _) hb (by rw [List.take_length]; exact hn)
theorem nattrim_can {B : Int} (hB : 1 < B) {l : List Int} {n : Int} (h : Can B l n) (hb : l.length < 1099511627776) : Ev (fun k => r00NatTrim.f k l) l := by
 obtain ⟨r, he, hc, _⟩ := nattrim_ev B hb h.1
 rwa [Can_unique hB hc h] at he
theorem natof_ev {a : Int} (h0 : 0 ≤ a) (h1 : a < 18446744073709551616) : ∃ r, Ev (fun k => r00NatOf.f k a) r ∧ Can 18446744073709551616 r a ∧ r.length ≤ 1 := by
 obtain ⟨r, he, hc, hl⟩ := nattrim_ev 18446744073709551616 (l := [a]) (n := a) (by simp) ⟨Dig_one h0 h1, by simp [V]⟩
 exact ⟨r, Ev.bind (g := fun _ t => some t) he (Ev.pure _), hc, hl⟩
theorem whole_ev {a : Int} (h0 : 0 ≤ a) (h1 : a < 9223372036854775808) : ∃ r, Ev (fun k => r00Whole.f k a) (false, r, 0) ∧ Can 18446744073709551616 r a ∧ r.length ≤ 1 := by
 obtain ⟨r, he, hc, hl⟩ := natof_ev h0 (show a < 18446744073709551616 by omega)
 refine ⟨r, Ev.congr (Ev.bind (g := fun _ t => some (false, t, 0)) he (Ev.pure _)) fun k => ?_, hc, hl⟩
 unfold r00Whole.f
 rw [if_neg (by omega), u64 h0 (by omega)]
theorem bits_loop : ∀ (m : Nat) (c x : Int), 0 ≤ x → x < 2 ^ m → m ≤ 64 → 0 ≤ c → c + m < 1099511627776 → Ev (fun k => r00NatBits.l0 k c x) (c + bitLen x.toNat)
 | 0, c, x, h0, h1, hm, hc0, hc => by
  have : x = 0 := by simp at h1; omega
  subst this
  refine Ev.succ (Ev.congr (Ev.pure _) fun k => ?_)
  rw [r00NatBits.l0, if_neg (by omega)]
  simp [bitLen]
 | m + 1, c, x, h0, h1, hm, hc0, hc => by
  by_cases hx : x = 0
  ·subst hx
   refine Ev.succ (Ev.congr (Ev.pure _) fun k => ?_)
   rw [r00NatBits.l0, if_neg (by omega)]
   simp [bitLen]
  ·have h64 : (2 : Int) ^ (m + 1) ≤ 18446744073709551616 := pow_le' (B := 2) (by omega) hm
   have hlt : x / 2 < 2 ^ m := by rw [Int.pow_succ] at h1; omega
   have hb : bitLen x.toNat = bitLen (x / 2).toNat + 1 := by
    have e2 : (x / 2).toNat = x.toNat / 2 ^ 1 := by omega
    by_cases h2 : x.toNat / 2 ^ 1 = 0
    ·have : x = 1 := by omega
     subst this
     decide
    ·rw [e2, bitLen_shift x.toNat 1 h2]; omega
   have h := bits_loop m (c + 1) (x / 2) (by omega) hlt (by omega) (by omega) (by omega)
   refine Ev.succ (Ev.congr (r := c + bitLen x.toNat) (g := fun k => r00NatBits.l0 k (c + 1) (x / 2)) (by rwa [show c + 1 + (bitLen (x / 2).toNat : Int) = c + (bitLen x.toNat : Int) by rw [hb]; omega] at h) fun k => ?_)
   rw [r00NatBits.l0, if_pos (by omega), w64 (by omega) (by omega), Int.tdiv_eq_ediv_of_nonneg h0, u64 (by omega) (by omega)]
end Go.Proofs.Ytbmddlldadbfnaa.BM
end
section
namespace Go.Proofs.Ytbmddlldadbfnaa.BM
open Go.RowKit Go.Proofs.YtbmddlldadbfnaaW.PrintWords Go.Proofs.YtbmddlldadbfnaaW.PrintLast Go.Proofs.YtbmddlldadbfnaaW.PrintMore
open Go.Proofs.Ytbmddlldadbfnaa.BB
def bitsOf (l : List Int) : Int := if l = [] then 0 else 64 * ((l.length : Int) - 1) + bitLen (rd l ((l.length : Int) - 1)).toNat
theorem natbits_ev {l : List Int} {n : Int} (h : Can 18446744073709551616 l n) (hb : l.length < 1073741824) : Ev (fun k => r00NatBits.f k l) (bitsOf l) := by
 refine Ev.bind (g := fun k (t134 : List Int) => if (t134.length : Int) = 0 then some 0 else (if 0 ≤ (wrap64 ((t134.length : Int) - 1)) then (if (wrap64 ((t134.length : Int) - 1)) < (t134.length : Int) then r00NatBits.l0 k (wrap64 (64 * (wrap64 ((t134.length : Int) - 1)))) (rd t134 (wrap64 ((t134.length : Int) - 1))) else none) else none)) (nattrim_can (by omega) h (by omega)) ?_
 by_cases hl : l = []
 ·subst hl; exact Ev.const (by simp [bitsOf])
 ·have h0 : 0 < l.length := List.length_pos_iff.2 hl
  have hr := rd_dig h.1.1 (i := (l.length : Int) - 1) (by omega) (by omega)
  have hlp := bits_loop 64 (64 * ((l.length : Int) - 1)) _ hr.1 hr.2 (by omega) (by omega) (by omega)
  refine Ev.congr (r := bitsOf l) (by unfold bitsOf; rw [if_neg hl]; exact hlp) fun k => ?_
  have c1 : ¬ (l.length : Int) = 0 := by omega
  have c2 : 0 ≤ (l.length : Int) - 1 := by omega
  have c3 : (l.length : Int) - 1 < (l.length : Int) := by omega
  rw [if_neg c1, w64 (n := (l.length : Int) - 1) (by omega) (by omega), if_pos c2, if_pos c3, w64 (by omega) (by omega)]
theorem bitsOf_zero {l : List Int} {n : Int} (h : Can 18446744073709551616 l n) : (bitsOf l == 0) = decide (l = []) := by
 unfold bitsOf
 by_cases hl : l = []
 ·simp [hl]
 ·have h0 : 0 < l.length := List.length_pos_iff.2 hl
  have hr := rd_dig h.1.1 (i := (l.length : Int) - 1) (by omega) (by omega)
  have ht := h.2 hl
  rw [getLast_rd] at ht
  have : bitLen (rd l ((l.length : Int) - 1)).toNat ≠ 0 := by unfold bitLen; rw [if_neg (by omega)]; omega
  rw [if_neg hl, decide_eq_false hl]
  exact beq_false_of_ne (by omega)
theorem bitsOf_le {l : List Int} {n : Int} (h : Can 18446744073709551616 l n) : 0 ≤ bitsOf l ∧ bitsOf l ≤ 64 * (l.length : Int) := by
 unfold bitsOf
 by_cases hl : l = []
 ·simp [hl]
 ·have h0 : 0 < l.length := List.length_pos_iff.2 hl
  have hr := rd_dig h.1.1 (i := (l.length : Int) - 1) (by omega) (by omega)
  have : bitLen (rd l ((l.length : Int) - 1)).toNat ≤ 64 := by
   unfold bitLen
   split
   ·omega
   ·rename_i hx
    have := (Nat.log2_lt hx).2 (show (rd l ((l.length : Int) - 1)).toNat < 2 ^ 64 by omega)
    omega
  rw [if_neg hl]; omega
theorem halves_step (k : Nat) (l p : List Int) (i : Nat) (hi : i < l.length) (hl : l.length < 1099511627776) (hp : p.length = 2 * i) :
  r00halves.l0 (k + 1) l p i = r00halves.l0 k l (p ++ [rd l i % 4294967296, rd l i / 4294967296]) ((i + 1 : Nat) : Int) ∨ ¬ (0 ≤ rd l i ∧ rd l i < 18446744073709551616) := by
 by_cases hr : 0 ≤ rd l i ∧ rd l i < 18446744073709551616
 ·left
  have e1 : Int.tmod (rd l i) 4294967296 = rd l i % 4294967296 := Int.tmod_eq_emod_of_nonneg hr.1
  have e2 : IntKind.u64.wrap (Int.tdiv (rd l i) 4294967296) = rd l i / 4294967296 := by rw [Int.tdiv_eq_ediv_of_nonneg hr.1]; exact u64 (by omega) (by omega)
  have e3 : wrap64 ((i : Int) + 1) = ((i + 1 : Nat) : Int) := by rw [w64 (by omega) (by omega)]; omega
  have c1 : p.length + [rd l i % 4294967296, rd l i / 4294967296].length < 17592186044416 := by simp; clear e1 e2 e3; omega
  rw [r00halves.l0, if_pos (Int.ofNat_lt.2 hi), if_pos (Int.natCast_nonneg _), e1, e2, e3]
  simp only [Option.bind_some]
  rw [if_pos c1]
 ·exact .inr hr
theorem pow_two_i (i : Nat) : (4294967296 : Int) ^ (2 * i) = 18446744073709551616 ^ i := by rw [Int.pow_mul]; rfl
theorem halves_loop {l : List Int} (hd : Dig 18446744073709551616 l) (hl : l.length < 1073741824) : ∀ (m i : Nat) (p : List Int), i + m = l.length → p.length = 2 * i → Dig 4294967296 p → V 4294967296 p = V 18446744073709551616 (l.take i) →
  ∃ r, Ev (fun k => r00halves.l0 k l p i) r ∧ Can 4294967296 r (V 18446744073709551616 l) ∧ r.length ≤ 2 * l.length := by
 intro m
 induction m with
 | zero =>
  intro i p hi hp hdp hv
  rw [List.take_of_length_le (by omega)] at hv
  obtain ⟨r, he, hc, hlen⟩ := low_ev 4294967296 (l := p) (n := V 18446744073709551616 l) (by omega) ⟨hdp, hv⟩
  refine ⟨r, Ev.succ (Ev.congr (Ev.bind (g := fun _ t => some t) he (Ev.pure _)) fun k => ?_), hc, by omega⟩
  rw [r00halves.l0, if_neg (by omega)]
 | succ m ih =>
  intro i p hi hp hdp hv
  have hr := rd_dig hd (i := (i : Int)) (by omega) (by omega)
  obtain ⟨r, he, hc, hlen⟩ := ih (i + 1) (p ++ [rd l i % 4294967296, rd l i / 4294967296]) (by omega) (by simp; omega)
   (Dig_append hdp (by intro a ha; simp at ha; rcases ha with rfl | rfl <;> omega))
   (by rw [V_append, hv, V_take _ _ (by omega), hp, pow_two_i]; simp only [V]; congr 2; omega)
  refine ⟨r, Ev.succ (Ev.congr he fun k => ?_), hc, hlen⟩
  rcases halves_step k l p i (by omega) (by omega) hp with h | h
  ·exact h
  ·exact absurd hr h
theorem halves_ev {l : List Int} {n : Int} (h : Num 18446744073709551616 l n) (hl : l.length < 1073741824) : ∃ r, Ev (fun k => r00halves.f k l) r ∧ Can 4294967296 r n ∧ r.length ≤ 2 * l.length := by
 obtain ⟨r, he, hc, hlen⟩ := halves_loop h.1 hl l.length 0 [] (by omega) rfl (Dig_nil _) (by simp [V])
 rw [h.2] at hc
 exact ⟨r, he, hc, hlen⟩
theorem limbs_step2 (k : Nat) (l p : List Int) (i : Nat) (d : Int) (hi : 2 * i < l.length) (hl : l.length < 1099511627776) (hp : p.length = i)
  (hd : (2 * i + 1 < l.length ∧ IntKind.u64.wrap (rd l ((2 * i : Nat) : Int) + IntKind.u64.wrap (4294967296 * rd l ((2 * i + 1 : Nat) : Int))) = d) ∨ (¬ 2 * i + 1 < l.length ∧ rd l ((2 * i : Nat) : Int) = d)) :
  r00limbs.l0 (k + 1) l p ((2 * i : Nat) : Int) = r00limbs.l0 k l (p ++ [d]) ((2 * (i + 1) : Nat) : Int) := by
 have e1 : wrap64 (((2 * i : Nat) : Int) + 1) = ((2 * i + 1 : Nat) : Int) := by rw [w64 (by omega) (by omega)]; omega
 have e2 : wrap64 (((2 * i : Nat) : Int) + 2) = ((2 * (i + 1) : Nat) : Int) := by rw [w64 (by omega) (by omega)]; omega
 have c1 : p.length < 17592186044416 := by clear e1 e2; omega
 rw [r00limbs.l0, if_pos (Int.ofNat_lt.2 hi), if_pos (Int.natCast_nonneg _), e1, e2]
 rcases hd with ⟨h1, h2⟩ | ⟨h1, h2⟩
 ·rw [if_pos (Int.ofNat_lt.2 h1), if_pos (Int.natCast_nonneg _), if_pos c1, h2]
 ·rw [if_neg (fun h => h1 (Int.ofNat_lt.1 h)), if_pos c1, h2]
theorem limbs2_loop {l : List Int} (hd : Dig 4294967296 l) (hl : l.length < 1073741824) : ∀ (m i : Nat) (p : List Int), l.length - 2 * i ≤ m → p.length = i → Dig 18446744073709551616 p → V 18446744073709551616 p = V 4294967296 (l.take (2 * i)) →
  i ≤ l.length → ∃ r, Ev (fun k => r00limbs.l0 k l p ((2 * i : Nat) : Int)) r ∧ Can 18446744073709551616 r (V 4294967296 l) ∧ r.length ≤ l.length := by
 intro m
 induction m with
 | zero =>
  intro i p hi hp hdp hv hil
  rw [List.take_of_length_le (by omega)] at hv
  obtain ⟨r, he, hc, hlen⟩ := nattrim_ev 18446744073709551616 (l := p) (n := V 4294967296 l) (by omega) ⟨hdp, hv⟩
  refine ⟨r, Ev.succ (Ev.congr (Ev.bind (g := fun _ t => some t) he (Ev.pure _)) fun k => ?_), hc, by omega⟩
  rw [r00limbs.l0, if_neg (by omega)]
 | succ m ih =>
  intro i p hi hp hdp hv hil
  by_cases hlt : 2 * i < l.length
  ·have hr := rd_dig hd (i := ((2 * i : Nat) : Int)) (by omega) (by omega)
   by_cases h1 : 2 * i + 1 < l.length
   ·have hr1 := rd_dig hd (i := ((2 * i + 1 : Nat) : Int)) (by omega) (by omega)
    obtain ⟨d, hdd⟩ : ∃ d, d = rd l ((2 * i : Nat) : Int) + 4294967296 * rd l ((2 * i + 1 : Nat) : Int) := ⟨_, rfl⟩
    obtain ⟨r, he, hc, hlen⟩ := ih (i + 1) (p ++ [d]) (by omega) (by simp; omega) (Dig_snoc hdp (by omega) (by omega))
     (by rw [V_snoc, hv, hp, show 2 * (i + 1) = 2 * i + 1 + 1 by omega, V_take _ _ h1, V_take _ _ hlt, Int.pow_succ, pow_two_i, hdd]; grind) (by omega)
    refine ⟨r, Ev.succ (Ev.congr he fun k => ?_), hc, hlen⟩
    exact limbs_step2 k l p i d hlt (by omega) hp (.inl ⟨h1, by rw [u64 (n := 4294967296 * rd l ((2 * i + 1 : Nat) : Int)) (by omega) (by omega), hdd]; exact u64 (by omega) (by omega)⟩)
   ·obtain ⟨r, he, hc, hlen⟩ := ih (i + 1) (p ++ [rd l ((2 * i : Nat) : Int)]) (by omega) (by simp; omega) (Dig_snoc hdp (by omega) (by omega))
     (by
      have e := V_take 4294967296 l hlt
      rw [List.take_of_length_le (i := 2 * i + 1) (by omega), pow_two_i] at e
      rw [V_snoc, hv, hp, List.take_of_length_le (i := 2 * (i + 1)) (by omega), e]) (by omega)
    refine ⟨r, Ev.succ (Ev.congr he fun k => ?_), hc, hlen⟩
    exact limbs_step2 k l p i _ hlt (by omega) hp (.inr ⟨h1, rfl⟩)
  ·exact ih i p (by omega) hp hdp hv hil
theorem limbs2_ev {l : List Int} {n : Int} (h : Num 4294967296 l n) (hl : l.length < 1073741824) : ∃ r, Ev (fun k => r00limbs.f k l) r ∧ Can 18446744073709551616 r n ∧ r.length ≤ l.length := by
 obtain ⟨r, he, hc, hlen⟩ := limbs2_loop h.1 hl l.length 0 [] (by omega) rfl (Dig_nil _) (by simp [V]) (by omega)
 rw [h.2] at hc
 exact ⟨r, he, hc, hlen⟩
theorem natup_loop {h : List Int} (hd : Dig 4294967296 h) (hl : h.length < 1000000000) : ∀ (m i : Nat), i + m = h.length →
  ∃ r, Ev (fun k => r00NatUp.l1 k h (h.take i) 0 1 i) r ∧ Can 18446744073709551616 r (V 4294967296 h) := by
 intro m
 induction m with
 | zero =>
  intro i hi
  obtain ⟨r, he, hc, hlen⟩ := limbs2_ev (l := h ++ [0]) (n := V 4294967296 h) ⟨Dig_snoc hd (by omega) (by omega), by rw [V_snoc]; simp⟩ (by simp; omega)
  refine ⟨r, Ev.succ (Ev.congr (Ev.bind (g := fun _ t => some t) he (Ev.pure _)) fun k => ?_), hc⟩
  rw [r00NatUp.l1, if_neg (by omega), List.take_of_length_le (by omega), if_pos (by omega)]
 | succ m ih =>
  intro i hi
  have hr := rd_dig hd (i := (i : Int)) (by omega) (by omega)
  obtain ⟨r, he, hc⟩ := ih (i + 1) (by omega)
  refine ⟨r, Ev.succ (Ev.congr he fun k => ?_), hc⟩
  have e1 : IntKind.u64.wrap (IntKind.u64.wrap (rd h (i : Int) * 1) + 0) = rd h (i : Int) := by rw [u64 (n := rd h (i : Int) * 1) (by omega) (by omega)]; rw [u64 (by omega) (by omega)]; omega
  have e2 : Int.tmod (rd h (i : Int)) 4294967296 = rd h (i : Int) := by rw [Int.tmod_eq_emod_of_nonneg hr.1]; omega
  have e3 : IntKind.u64.wrap (Int.tdiv (rd h (i : Int)) 4294967296) = 0 := by rw [Int.tdiv_eq_ediv_of_nonneg hr.1, u64m]; omega
  have e4 : wrap64 ((i : Int) + 1) = ((i + 1 : Nat) : Int) := by rw [w64 (by omega) (by omega)]; omega
  have c1 : (h.take i).length < 17592186044416 := by rw [List.length_take]; clear e1 e2 e3 e4; omega
  have c2 : i < h.length := by clear e1 e2 e3 e4; omega
  rw [r00NatUp.l1, if_pos (Int.ofNat_lt.2 c2), if_pos (Int.natCast_nonneg _), if_pos c1, e1, e2, e3, e4, ← take_rd h c2]
theorem natup_ev {l : List Int} {n : Int} (h : Can 18446744073709551616 l n) (hl : l.length < 268435456) : Ev (fun k => r00NatUp.f k l 0) l := by
 obtain ⟨hh, he, hc, hlen⟩ := halves_ev h.1 (by omega)
 refine Ev.bind (g := fun k (t169 : List Int) => (if (t169.length : Int) = 0 then some ([] : List Int) else (if 0 ≤ (wrap64 (Int.tdiv 0 32)) then (if (wrap64 (Int.tdiv 0 32) : Int).toNat ≤ 35184372088832 then r00NatUp.l0 k 0 t169 (List.replicate (wrap64 (Int.tdiv 0 32) : Int).toNat 0) 0 1 0 else none) else none))) he ?_
 by_cases h0 : hh = []
 ·subst h0
  have : n = 0 := by rw [← hc.1.2]; rfl
  subst this
  rw [Can_zero (by omega) h]
  exact Ev.const (by simp)
 ·obtain ⟨r, hr, hcr⟩ := natup_loop hc.1.1 (by omega) hh.length 0 (by omega)
  rw [hc.1.2] at hcr
  rw [Can_unique (by omega) hcr h] at hr
  refine Ev.congr (Ev.succ (f := fun k => r00NatUp.l0 k 0 hh [] 0 1 0) (Ev.congr hr fun k => ?_)) fun k => ?_
  ·show r00NatUp.l0 (k + 1) 0 hh [] 0 1 0 = _
   rw [r00NatUp.l0, if_neg (by decide)]
   rfl
  ·have : ¬ (hh.length : Int) = 0 := by have := List.length_pos_iff.2 h0; omega
   have e : wrap64 (Int.tdiv 0 32) = 0 := by rw [show Int.tdiv 0 32 = 0 from rfl]; exact w64 (by omega) (by omega)
   rw [if_neg this, e, if_pos (Int.le_refl _), if_pos (by decide)]
   rfl
end Go.Proofs.Ytbmddlldadbfnaa.BM
end
section
namespace Go.Proofs.Ytbmddlldadbfnaa.BM
open Go.RowKit Go.Proofs.YtbmddlldadbfnaaW.PrintWords Go.Proofs.YtbmddlldadbfnaaW.PrintLast Go.Proofs.YtbmddlldadbfnaaW.PrintMore
open Go.Proofs.Ytbmddlldadbfnaa.BB
def dg (l : List Int) (i : Nat) : Int := if i < l.length then rd l i else 0
theorem digit_f (l : List Int) (i : Nat) : r00digit.f l i = some (dg l i) := by
 unfold r00digit.f dg
 by_cases h : i < l.length
 ·rw [if_pos (Int.ofNat_lt.2 h), if_pos (Int.natCast_nonneg _), if_pos h]
 ·rw [if_neg (fun h' => h (Int.ofNat_lt.1 h')), if_neg h]
theorem dg_range {B : Int} (hB : 0 < B) {l : List Int} (h : Dig B l) (i : Nat) : 0 ≤ dg l i ∧ dg l i < B := by
 unfold dg
 split
 ·exact rd_dig h (by omega) (by omega)
 ·omega
theorem V_dg (B : Int) (l : List Int) (i : Nat) : V B (l.take (i + 1)) = V B (l.take i) + B ^ i * dg l i := by
 unfold dg
 split
 ·rename_i h; exact V_take B l h
 ·rw [List.take_of_length_le (by omega), List.take_of_length_le (by omega)]; omega
theorem V_set (B : Int) (d : Int) : ∀ (l : List Int) (i : Nat), i < l.length → V B (l.set i d) = V B l + B ^ i * (d - rd l i)
 | [], i, h => by simp at h
 | a :: l, 0, _ => by
  have : rd (a :: l) ((0 : Nat) : Int) = a := rfl
  rw [this]; simp [V]; omega
 | a :: l, i + 1, h => by
  have hi : i < l.length := by simpa using h
  have : rd (a :: l) ((i + 1 : Nat) : Int) = rd l (i : Int) := by rw [rd_nat _ h, rd_nat _ hi]; rfl
  rw [this, List.set_cons_succ, V, V, V_set B d l i hi, Int.pow_succ]
  grind
theorem rd_set (l : List Int) (i t : Nat) (d : Int) (hi : i < l.length) : rd (l.set i d) (t : Int) = if t = i then d else rd l (t : Int) := by
 unfold rd
 simp only [List.getD_eq_getElem?_getD, Int.toNat_natCast, List.getElem?_set]
 by_cases h : i = t
 ·subst h; simp [hi]
 ·rw [if_neg h, if_neg (fun h' => h h'.symm)]
theorem Dig_set {B d : Int} {l : List Int} (h : Dig B l) (i : Nat) (h0 : 0 ≤ d) (h1 : d < B) : Dig B (l.set i d) := by
 intro a ha
 rcases List.mem_or_eq_of_mem_set ha with h' | h'
 ·exact h a h'
 ·subst h'; exact ⟨h0, h1⟩
theorem prod_step (k : Nat) (a b buf : List Int) (i j : Nat) (c s : Int) (hj : j < b.length) (hi : i < a.length) (hij : i + j < buf.length) (hb : buf.length < 1099511627776)
  (hs : IntKind.u64.wrap (IntKind.u64.wrap (IntKind.u64.wrap (rd a i * rd b j) + rd buf ((i + j : Nat) : Int)) + c) = s) :
  r00product.l1 (k + 1) a b buf i c j = r00product.l1 k a b (buf.set (i + j) (Int.tmod s 4294967296)) i (IntKind.u64.wrap (Int.tdiv s 4294967296)) ((j + 1 : Nat) : Int) := by
 have e1 : wrap64 ((i : Int) + (j : Int)) = ((i + j : Nat) : Int) := by rw [w64 (by omega) (by omega)]; omega
 have e2 : wrap64 ((j : Int) + 1) = ((j + 1 : Nat) : Int) := by rw [w64 (by omega) (by omega)]; omega
 rw [r00product.l1, if_pos (Int.ofNat_lt.2 hj), if_pos (Int.natCast_nonneg _), if_pos (Int.ofNat_lt.2 hi), if_pos (Int.natCast_nonneg _), e1, if_pos (Int.natCast_nonneg _), if_pos (Int.ofNat_lt.2 hij), hs, e2, Int.toNat_natCast]
theorem prod_end (k : Nat) (a b buf : List Int) (i : Nat) (c : Int) (hij : i + b.length < buf.length) (hb : buf.length < 1099511627776) :
  r00product.l1 (k + 1) a b buf i c b.length = r00product.l0 k a b (buf.set (i + b.length) c) ((i + 1 : Nat) : Int) := by
 have e1 : wrap64 ((i : Int) + (b.length : Int)) = ((i + b.length : Nat) : Int) := by rw [w64 (by omega) (by omega)]; omega
 have e2 : wrap64 ((i : Int) + 1) = ((i + 1 : Nat) : Int) := by rw [w64 (by omega) (by omega)]; omega
 rw [r00product.l1, if_neg (Int.lt_irrefl _), e1, if_pos (Int.natCast_nonneg _), if_pos (Int.ofNat_lt.2 hij), e2, Int.toNat_natCast]
theorem prod_alg (B P Q vb vb0 v c x y z d c2 : Int) (h : vb + P * Q * c = vb0 + P * (x * v)) (h2 : x * y + z + c = d + B * c2) : vb + P * Q * (d - z) + P * Q * B * c2 = vb0 + P * (x * (v + Q * y)) := by
 rw [show vb + P * Q * (d - z) + P * Q * B * c2 = vb + P * Q * (d + B * c2) - P * Q * z by grind, ← h2, show vb + P * Q * (x * y + z + c) - P * Q * z = (vb + P * Q * c) + P * Q * x * y by grind, h]
 grind
theorem prod_in {a b : List Int} (ha : Dig 4294967296 a) (hb : Dig 4294967296 b) (hla : a.length < 100000000) (hlb : b.length < 100000000) (i : Nat) (hi : i < a.length) (buf0 : List Int) (hz : ∀ t, i + b.length ≤ t → rd buf0 ((t : Nat) : Int) = 0)
  (Q : List Int → Prop) (H : ∀ buf, buf.length = a.length + b.length → Dig 4294967296 buf → V 4294967296 buf = V 4294967296 buf0 + 4294967296 ^ i * (rd a i * V 4294967296 b) → (∀ t, i + 1 + b.length ≤ t → rd buf ((t : Nat) : Int) = 0) →
   ∃ r, Ev (fun k => r00product.l0 k a b buf ((i + 1 : Nat) : Int)) r ∧ Q r) :
  ∀ (m j : Nat) (buf : List Int) (c : Int), j + m = b.length → buf.length = a.length + b.length → Dig 4294967296 buf → 0 ≤ c → c < 4294967296 →
   V 4294967296 buf + 4294967296 ^ i * 4294967296 ^ j * c = V 4294967296 buf0 + 4294967296 ^ i * (rd a i * V 4294967296 (b.take j)) → (∀ t, i + j ≤ t → rd buf ((t : Nat) : Int) = rd buf0 ((t : Nat) : Int)) →
   ∃ r, Ev (fun k => r00product.l1 k a b buf i c j) r ∧ Q r := by
 intro m
 induction m with
 | zero =>
  intro j buf c hj hl hd hc0 hc1 hv ht
  have : j = b.length := by omega
  subst this
  rw [List.take_length] at hv
  have h0 : rd buf ((i + b.length : Nat) : Int) = 0 := by rw [ht _ (Nat.le_refl _)]; exact hz _ (Nat.le_refl _)
  obtain ⟨r, he, hq⟩ := H (buf.set (i + b.length) c) (by rw [List.length_set]; exact hl) (Dig_set hd _ hc0 hc1)
   (by rw [V_set _ _ _ _ (by omega), h0, Int.sub_zero, Int.pow_add]; exact hv)
   (fun t ht' => by rw [rd_set _ _ _ _ (by omega), if_neg (by omega), ht t (by omega)]; exact hz t (by omega))
  exact ⟨r, Ev.succ (Ev.congr he fun k => prod_end k a b buf i c (by omega) (by omega)), hq⟩
 | succ m ih =>
  intro j buf c hj hl hd hc0 hc1 hv ht
  have ra := rd_dig ha (i := (i : Int)) (by omega) (by omega)
  have rb := rd_dig hb (i := (j : Int)) (by omega) (by omega)
  have rz := rd_dig hd (i := ((i + j : Nat) : Int)) (by omega) (by omega)
  have hP0 := Int.mul_nonneg ra.1 rb.1
  have hP1 : rd a i * rd b j ≤ 18446744065119617025 := by
   have := Int.mul_le_mul (show rd a (i : Int) ≤ 4294967295 by omega) (show rd b (j : Int) ≤ 4294967295 by omega) rb.1 (by omega)
   simpa using this
  obtain ⟨s, hs⟩ : ∃ s, s = rd a i * rd b j + rd buf ((i + j : Nat) : Int) + c := ⟨_, rfl⟩
  have hs0 : 0 ≤ s := by omega
  have hs1 : s < 18446744073709551616 := by omega
  have hc2 : s / 4294967296 < 4294967296 := by omega
  have hv2 : V 4294967296 (buf.set (i + j) (s % 4294967296)) + 4294967296 ^ i * 4294967296 ^ (j + 1) * (s / 4294967296) = V 4294967296 buf0 + 4294967296 ^ i * (rd a i * V 4294967296 (b.take (j + 1))) := by
   rw [V_set _ _ _ _ (by omega), V_take _ _ (by omega), Int.pow_add, Int.pow_succ, ← Int.mul_assoc]
   exact prod_alg 4294967296 (4294967296 ^ i) (4294967296 ^ j) _ _ _ c _ _ _ _ _ hv (by omega)
  obtain ⟨r, he, hq⟩ := ih (j + 1) (buf.set (i + j) (s % 4294967296)) (s / 4294967296) (by omega) (by rw [List.length_set]; exact hl) (Dig_set hd _ (by omega) (by omega)) (by omega) hc2 hv2
   (fun t ht' => by rw [rd_set _ _ _ _ (by omega), if_neg (by omega)]; exact ht t (by omega))
  refine ⟨r, Ev.succ (Ev.congr he fun k => ?_), hq⟩
  have hw : IntKind.u64.wrap (IntKind.u64.wrap (IntKind.u64.wrap (rd a i * rd b j) + rd buf ((i + j : Nat) : Int)) + c) = s := by
   rw [u64 (n := rd a i * rd b j) hP0 (by omega), u64 (n := rd a i * rd b j + rd buf ((i + j : Nat) : Int)) (by omega) (by omega), ← hs]
   exact u64 hs0 hs1
  have ht' : Int.tmod s 4294967296 = s % 4294967296 := Int.tmod_eq_emod_of_nonneg hs0
  have ht2 : IntKind.u64.wrap (Int.tdiv s 4294967296) = s / 4294967296 := by rw [Int.tdiv_eq_ediv_of_nonneg hs0]; exact u64 (Int.ediv_nonneg hs0 (by decide)) (Int.lt_trans hc2 (by decide))
  rw [prod_step k a b buf i j c s (by clear hw ht' ht2; omega) hi (by clear hw ht' ht2; omega) (by clear hw ht' ht2; omega) hw, ht', ht2]
theorem prod_out {a b : List Int} (ha : Dig 4294967296 a) (hb : Dig 4294967296 b) (hla : a.length < 100000000) (hlb : b.length < 100000000) : ∀ (m i : Nat) (buf : List Int), i + m = a.length → buf.length = a.length + b.length → Dig 4294967296 buf →
  V 4294967296 buf = V 4294967296 (a.take i) * V 4294967296 b → (∀ t, i + b.length ≤ t → rd buf ((t : Nat) : Int) = 0) →
  ∃ r, Ev (fun k => r00product.l0 k a b buf i) r ∧ (Can 4294967296 r (V 4294967296 a * V 4294967296 b) ∧ r.length ≤ a.length + b.length) := by
 intro m
 induction m with
 | zero =>
  intro i buf hi hl hd hv hz
  rw [List.take_of_length_le (by omega)] at hv
  obtain ⟨r, he, hc, hlen⟩ := low_ev 4294967296 (l := buf) (by omega) ⟨hd, hv⟩
  refine ⟨r, Ev.succ (Ev.congr (Ev.bind (g := fun _ t => some t) he (Ev.pure _)) fun k => ?_), hc, by omega⟩
  rw [r00product.l0, if_neg (by omega)]
 | succ m ih =>
  intro i buf hi hl hd hv hz
  obtain ⟨r, he, hq⟩ := prod_in ha hb hla hlb i (by omega) buf hz (fun r => Can 4294967296 r (V 4294967296 a * V 4294967296 b) ∧ r.length ≤ a.length + b.length)
   (fun buf2 hl2 hd2 hv2 hz2 => ih (i + 1) buf2 (by omega) hl2 hd2 (by rw [hv2, hv, V_take _ _ (by omega)]; grind) hz2)
   b.length 0 buf 0 (by omega) hl hd (by omega) (by omega) (by simp [V]) (fun _ _ => rfl)
  refine ⟨r, Ev.succ (Ev.congr he fun k => ?_), hq⟩
  rw [r00product.l0, if_pos (by omega)]
  rfl
theorem product_ev {a b : List Int} {x y : Int} (ha : Num 4294967296 a x) (hb : Num 4294967296 b y) (hla : a.length < 100000000) (hlb : b.length < 100000000) :
  ∃ r, Ev (fun k => r00product.f k a b) r ∧ Can 4294967296 r (x * y) ∧ r.length ≤ a.length + b.length := by
 obtain ⟨r, he, hc⟩ := prod_out ha.1 hb.1 hla hlb a.length 0 (List.replicate (a.length + b.length) 0) (by omega) (by simp) (Dig_zeros (by omega) _) (by simp [V, V_zeros]) (fun t _ => by unfold rd; simp [List.getD_eq_getElem?_getD, List.getElem?_replicate]; split <;> rfl)
 rw [ha.2, hb.2] at hc
 refine ⟨r, Ev.congr he fun k => ?_, hc⟩
 have e : wrap64 ((a.length : Int) + (b.length : Int)) = ((a.length + b.length : Nat) : Int) := by rw [w64 (by omega) (by omega)]; omega
 have c1 : a.length + b.length ≤ 35184372088832 := by clear e; omega
 unfold r00product.f
 rw [e, if_pos (Int.natCast_nonneg _), Int.toNat_natCast, if_pos c1]
 rfl
theorem natmul_ev {a b : List Int} {x y : Int} (ha : Num 18446744073709551616 a x) (hb : Num 18446744073709551616 b y) (hla : a.length < 10000000) (hlb : b.length < 10000000) :
  ∃ r, Ev (fun k => r00NatMul.f k a b) r ∧ Can 18446744073709551616 r (x * y) := by
 obtain ⟨p, hp, hcp, hlp⟩ := halves_ev ha (by omega)
 obtain ⟨q, hq, hcq, hlq⟩ := halves_ev hb (by omega)
 obtain ⟨t, ht, hct, hlt⟩ := product_ev hcp.1 hcq.1 (by omega) (by omega)
 obtain ⟨r, hr, hcr, _⟩ := limbs2_ev hct.1 (by omega)
 exact ⟨r, Ev.bind (g := fun k t268 => (r00halves.f k b).bind fun t271 => (r00product.f k t268 t271).bind fun t274 => (r00limbs.f k t274).bind fun t277 => some t277) hp
  (Ev.bind (g := fun k t271 => (r00product.f k p t271).bind fun t274 => (r00limbs.f k t274).bind fun t277 => some t277) hq
   (Ev.bind (g := fun k t274 => (r00limbs.f k t274).bind fun t277 => some t277) ht (Ev.bind (g := fun _ t277 => some t277) hr (Ev.pure _)))), hcr⟩
end Go.Proofs.Ytbmddlldadbfnaa.BM
end
section
namespace Go.Proofs.Ytbmddlldadbfnaa.BM
open Go.RowKit Go.Proofs.YtbmddlldadbfnaaW.PrintWords Go.Proofs.YtbmddlldadbfnaaW.PrintLast Go.Proofs.YtbmddlldadbfnaaW.PrintMore
open Go.Proofs.Ytbmddlldadbfnaa.BA
theorem trim_ev (B : Int) : ∀ (m : Nat) {l : List Int} {n : Int}, l.length = m → m < 4611686018427387904 → Num B l n →
  ∃ r, Ev (fun k => big_trim.f k l) r ∧ Can B r n ∧ r.length ≤ m
 | 0, l, n, hm, _, hn => by
  have : l = [] := List.eq_nil_of_length_eq_zero hm
  subst this
  refine ⟨[], Ev.succ (Ev.congr (Ev.pure _) fun k => ?_), ⟨hn, fun h => absurd rfl h⟩, by simp⟩
  simp [big_trim.f, big_trim.l0]
 | m + 1, l, n, hm, hb, hn => by
  have e : wrap64 ((l.length : Int) - 1) = ((m : Nat) : Int) := by rw [w64 (by omega) (by omega)]; omega
  by_cases h0 : rd l ((m : Nat) : Int) = 0
  ·obtain ⟨r, he, hc, hl⟩ := trim_ev B m (l := l.take m) (n := n) (by rw [List.length_take]; omega) (by omega)
    ⟨Dig_take hn.1 m, by rw [V_take_zero B l (by omega) h0, show m + 1 = l.length by omega, List.take_length]; exact hn.2⟩
   refine ⟨r, Ev.succ (Ev.congr he fun k => ?_), hc, by omega⟩
   show big_trim.l0 (k + 1) l = big_trim.l0 k _
   rw [big_trim.l0, e, if_pos (by omega), if_pos (by omega), if_pos (by omega), if_pos h0, if_pos (by omega)]
   simp
  ·refine ⟨l, Ev.succ (Ev.congr (Ev.pure _) fun k => ?_), ⟨hn, ?_⟩, by omega⟩
   ·show big_trim.l0 (k + 1) l = _
    rw [big_trim.l0, e, if_pos (by omega), if_pos (by omega), if_pos (by omega), if_neg h0]
   ·have := Top_take (l := l) (i := m) (by omega) h0
    rwa [show m + 1 = l.length by omega, List.take_length] at this
theorem trim_can {B : Int} (hB : 1 < B) {l : List Int} {n : Int} (h : Can B l n) (hl : l.length < 4611686018427387904) : Ev (fun k => big_trim.f k l) l := by
 obtain ⟨r, he, hc, _⟩ := trim_ev B l.length rfl hl h.1
 rwa [Can_unique hB hc h] at he
theorem mul64 {a b : Int} (ha0 : 0 ≤ a) (ha : a < 18446744073709551616) (hb0 : 0 ≤ b) (hb : b < 18446744073709551616) : bits_Mul64.f a b = some (a * b / 18446744073709551616, a * b % 18446744073709551616) := by
 unfold bits_Mul64.f
 have := mul64_arith a b ha0 ha hb0 hb
 simp only [u64m]
 rw [and_low32 a ha0 ha, and_low32 b hb0 hb, and_low32 _ (Int.emod_nonneg _ (by omega)) (Int.emod_lt_of_pos _ (by omega)), this]
theorem chunk_loop (b : Int) (hb : 2 ≤ b) (hb' : b ≤ 36) : ∀ (j e : Nat), 1 ≤ e → e + j = 64 → b ^ e < 18446744073709551616 →
  ∃ r : Nat, 1 ≤ r ∧ r ≤ 64 ∧ b ^ r < 18446744073709551616 ∧ 18446744073709551616 ≤ b ^ (r + 1) ∧ Ev (fun k => big_chunk.l0 k b (b ^ e) e) (b ^ r, (r : Int)) := by
 intro j
 induction j with
 | zero =>
  intro e he hj hlt
  exfalso
  have h1 := pow_mono (by omega) hb e
  have : e = 64 := by omega
  subst this
  have h2 : (2 : Int) ^ 64 = 18446744073709551616 := by decide
  omega
 | succ j ih =>
  intro e he hj hlt
  have hp := pow_pos' (show 0 < b by omega) e
  have hm := mul64 (a := b ^ e) (b := b) (by omega) hlt (by omega) (by omega)
  have hu : IntKind.u64.wrap b = b := u64 (by omega) (by omega)
  by_cases hz : b ^ e * b / 18446744073709551616 = 0
  ·have hlt2 : b ^ (e + 1) < 18446744073709551616 := by rw [Int.pow_succ]; omega
   have heq : b ^ e * b % 18446744073709551616 = b ^ (e + 1) := by
    rw [Int.pow_succ] at hlt2 ⊢
    exact Int.emod_eq_of_lt (by have := Int.mul_pos hp (show 0 < b by omega); omega) hlt2
   obtain ⟨r, h1, h2, h3, h4, h5⟩ := ih (e + 1) (by omega) (by omega) hlt2
   refine ⟨r, h1, h2, h3, h4, Ev.succ (Ev.congr h5 fun k => ?_)⟩
   rw [big_chunk.l0, hu, hm]
   simp only [Option.bind_some, hz, if_true, heq]
   rw [w64 (by omega) (by omega)]
   simp
  ·refine ⟨e, he, by omega, hlt, ?_, Ev.succ (Ev.congr (Ev.pure _) fun k => ?_)⟩
   ·rw [Int.pow_succ]; have := Int.mul_pos hp (show 0 < b by omega); omega
   ·rw [big_chunk.l0, hu, hm]
    simp only [Option.bind_some, hz, if_false]
theorem chunk_ev (b : Int) (hb : 2 ≤ b) (hb' : b ≤ 36) :
  ∃ r : Nat, 1 ≤ r ∧ r ≤ 64 ∧ b ^ r < 18446744073709551616 ∧ 18446744073709551616 ≤ b ^ (r + 1) ∧ Ev (fun k => big_chunk.f k b) (b ^ r, (r : Int)) := by
 obtain ⟨r, h1, h2, h3, h4, h5⟩ := chunk_loop b hb hb' 63 1 (by omega) (by omega) (by rw [Int.pow_one]; omega)
 refine ⟨r, h1, h2, h3, h4, Ev.congr h5 fun k => ?_⟩
 rw [big_chunk.f, u64 (show 0 ≤ b by omega) (show b < 18446744073709551616 by omega), Int.pow_one]; rfl
end Go.Proofs.Ytbmddlldadbfnaa.BM
end
section
namespace Go.Proofs.Ytbmddlldadbfnaa.BM
open Go.RowKit Go.Proofs.YtbmddlldadbfnaaW.PrintWords Go.Proofs.YtbmddlldadbfnaaW.PrintLast Go.Proofs.YtbmddlldadbfnaaW.PrintMore
open Go.Proofs.Ytbmddlldadbfnaa.BA
theorem Ev.step {α β : Type} {f : Nat → Option α} {g : Nat → Option β} {a : α} {r : β} {t : Nat → Option β} (hf : Ev f a) (h : ∀ k, f k = some a → t (k + 1) = g k) (hg : Ev g r) : Ev t r := by
 obtain ⟨K, hK⟩ := hf
 obtain ⟨L, hL⟩ := hg
 refine ⟨max K L + 1, fun k hk => ?_⟩
 have h1 := h (k - 1) (hK _ (by omega))
 rw [show k - 1 + 1 = k by omega] at h1
 rw [h1]
 exact hL _ (by omega)
def bodyOf (s : ByteArray) : ByteArray := if 0 < s.size ∧ bt s 0 = 45 then s.extract 1 s.size else s
end Go.Proofs.Ytbmddlldadbfnaa.BM
end
section
namespace Go.Proofs.Ytbmddlldadbfnaa.BM
open Go.RowKit Go.Proofs.YtbmddlldadbfnaaW.PrintWords Go.Proofs.YtbmddlldadbfnaaW.PrintLast Go.Proofs.YtbmddlldadbfnaaW.PrintMore
open Go.Proofs.Ytbmddlldadbfnaa.BA
def tab8 : ByteArray := (⟨#[0, 1, 2, 2, 3, 3, 3, 3, 4, 4, 4, 4, 4, 4, 4, 4, 5, 5, 5, 5, 5, 5, 5, 5, 5, 5, 5, 5, 5, 5, 5, 5, 6, 6, 6, 6, 6, 6, 6, 6, 6, 6, 6, 6, 6, 6, 6, 6, 6, 6, 6, 6, 6, 6, 6, 6, 6, 6, 6, 6, 6, 6, 6, 6, 7, 7, 7, 7, 7, 7, 7, 7, 7, 7, 7, 7, 7, 7, 7, 7, 7, 7, 7, 7, 7, 7, 7, 7, 7, 7, 7, 7, 7, 7, 7, 7, 7, 7, 7, 7, 7, 7, 7, 7, 7, 7, 7, 7, 7, 7, 7, 7, 7, 7, 7, 7, 7, 7, 7, 7, 7, 7, 7, 7, 7, 7, 7, 7, 8, 8, 8, 8, 8, 8, 8, 8, 8, 8, 8, 8, 8, 8, 8, 8, 8, 8, 8, 8, 8, 8, 8, 8, 8, 8, 8, 8, 8, 8, 8, 8, 8, 8, 8, 8, 8, 8, 8, 8, 8, 8, 8, 8, 8, 8, 8, 8, 8, 8, 8, 8, 8, 8, 8, 8, 8, 8, 8, 8, 8, 8, 8, 8, 8, 8, 8, 8, 8, 8, 8, 8, 8, 8, 8, 8, 8, 8, 8, 8, 8, 8, 8, 8, 8, 8, 8, 8, 8, 8, 8, 8, 8, 8, 8, 8, 8, 8, 8, 8, 8, 8, 8, 8, 8, 8, 8, 8, 8, 8, 8, 8, 8, 8, 8, 8, 8, 8, 8, 8, 8, 8, 8, 8, 8, 8, 8, 8]⟩ : ByteArray)
theorem tab8_bt (i : Int) (h0 : 0 ≤ i) (h1 : i < 256) : bt tab8 i = (bitLen i.toNat : Int) := by
 have hs : tab8.size = 256 := by decide +kernel
 have h : i.toNat < tab8.size := by omega
 unfold bt
 rw [dif_pos h]
 exact congrArg Int.ofNat (len8tab_get i.toNat h)
theorem len_j0 (k : Nat) (y c : Int) (h0 : 0 ≤ y) (h1 : y < 4294967296) (hc0 : 0 ≤ c) (hc : c ≤ 32) : bits_Len64.j0 (k + 1) y c = some (c + bitLen y.toNat) := by
 have e : bits_Len64.j0 (k + 1) y c = if y ≥ 65536 then (if (y / 65536) ≥ 256 then (if 0 ≤ (((y / 65536) / 256) % 256) then (if (((y / 65536) / 256) % 256) < 256 then (some (wrap64 ((wrap64 ((wrap64 (c + 16)) + 8)) + (wrap64 (bt tab8 (((y / 65536) / 256) % 256)))))) else none) else none)
   else (if 0 ≤ ((y / 65536) % 256) then (if ((y / 65536) % 256) < 256 then (some (wrap64 ((wrap64 (c + 16)) + (wrap64 (bt tab8 ((y / 65536) % 256)))))) else none) else none))
   else (if y ≥ 256 then (if 0 ≤ ((y / 256) % 256) then (if ((y / 256) % 256) < 256 then (some (wrap64 ((wrap64 (c + 8)) + (wrap64 (bt tab8 ((y / 256) % 256)))))) else none) else none)
   else (if 0 ≤ ((y) % 256) then (if ((y) % 256) < 256 then (some (wrap64 (c + (wrap64 (bt tab8 ((y) % 256)))))) else none) else none)) := by
  rw [bits_Len64.j0]; rfl
 have fin : ∀ (z d : Int) (b : Nat), 0 ≤ z → z < 256 → 0 ≤ d → d ≤ 64 → bitLen y.toNat = b + bitLen z.toNat → c + b = d → wrap64 (d + wrap64 (bt tab8 z)) = c + bitLen y.toNat := by
  intro z d b hz0 hz hd0 hd hb hcd
  have h8 := bitLen_le8 z.toNat (by omega)
  rw [tab8_bt z hz0 hz, w64 (n := (bitLen z.toNat : Int)) (by omega) (by omega), w64 (by omega) (by omega), hb]
  omega
 have sh : ∀ (b : Nat) (z : Int), (z = y / 2 ^ b) → 0 < z → bitLen y.toNat = b + bitLen z.toNat := by
  intro b z hz hz0
  have ez : z.toNat = y.toNat / 2 ^ b := by
   subst hz
   have : ((y.toNat / 2 ^ b : Nat) : Int) = y / 2 ^ b := by rw [Int.natCast_ediv, Int.toNat_of_nonneg h0, Int.natCast_pow]; rfl
   omega
  rw [bitLen_shift y.toNat b (by omega), ez]
 rw [e]
 clear e
 by_cases g1 : y ≥ 65536
 ·rw [if_pos g1]
  by_cases g2 : y / 65536 ≥ 256
  ·rw [if_pos g2, if_pos (by omega), if_pos (by omega), w64 (n := c + 16) (by omega) (by omega), w64 (n := c + 16 + 8) (by omega) (by omega)]
   exact congrArg some (fin _ _ 24 (by omega) (by omega) (by omega) (by omega) (by rw [show y / 65536 / 256 % 256 = y / 16777216 by omega]; exact sh 24 _ (by rfl) (by omega)) (by omega))
  ·rw [if_neg g2, if_pos (by omega), if_pos (by omega), w64 (n := c + 16) (by omega) (by omega)]
   exact congrArg some (fin _ _ 16 (by omega) (by omega) (by omega) (by omega) (by rw [show y / 65536 % 256 = y / 65536 by omega]; exact sh 16 _ (by rfl) (by omega)) (by omega))
 ·rw [if_neg g1]
  by_cases g2 : y ≥ 256
  ·rw [if_pos g2, if_pos (by omega), if_pos (by omega), w64 (n := c + 8) (by omega) (by omega)]
   exact congrArg some (fin _ _ 8 (by omega) (by omega) (by omega) (by omega) (by rw [show y / 256 % 256 = y / 256 by omega]; exact sh 8 _ (by rfl) (by omega)) (by omega))
  ·rw [if_neg g2, if_pos (by omega), if_pos (by omega)]
   exact congrArg some (fin _ _ 0 (by omega) (by omega) (by omega) (by omega) (by rw [show y % 256 = y by omega]; omega) (by omega))
theorem len_ev (x : Int) (h0 : 0 ≤ x) (h1 : x < 18446744073709551616) : Ev (fun k => bits_Len64.f k x) (bitLen x.toNat : Int) := by
 refine Ev.succ (Ev.congr (Ev.pure _) fun k => ?_)
 unfold bits_Len64.f
 by_cases g : x ≥ 4294967296
 ·rw [if_pos g, len_j0 k _ _ (by omega) (by omega) (by omega) (by omega)]
  have ez : (x / 4294967296).toNat = x.toNat / 2 ^ 32 := by
   have : ((x.toNat / 2 ^ 32 : Nat) : Int) = x / 4294967296 := by omega
   omega
  have := bitLen_shift x.toNat 32 (by omega)
  rw [ez, this]
  congr 1
 ·rw [if_neg g, len_j0 k _ _ (by omega) (by omega) (by omega) (by omega)]
  congr 1
  omega
theorem bitLen_le64 {x : Nat} (h : x < 18446744073709551616) : bitLen x ≤ 64 := by
 unfold bitLen
 split
 ·omega
 ·rename_i h0
  have := (Nat.log2_lt h0).2 (show x < 2 ^ 64 from h)
  omega
theorem bitLen_pos {x : Nat} (h : x ≠ 0) : 1 ≤ bitLen x := by unfold bitLen; rw [if_neg h]; omega
theorem lz_ev (x : Int) (h0 : 0 ≤ x) (h1 : x < 18446744073709551616) : Ev (fun k => bits_LeadingZeros64.f k x) (64 - bitLen x.toNat : Int) := by
 refine Ev.bind (g := fun _ t => some (wrap64 (64 - t))) (len_ev x h0 h1) (Ev.const ?_)
 have := bitLen_le64 (x := x.toNat) (by omega)
 rw [w64 (by omega) (by omega)]
theorem pow256 (m : Nat) : (2 : Int) ^ (8 * m) = 256 ^ m := by rw [Int.pow_mul]; rfl
def byteAt (l : List Int) (j : Nat) : Int := rd l ((j / 8 : Nat) : Int) / 256 ^ (j % 8) % 256
theorem byteAt_range (l : List Int) (j : Nat) : 0 ≤ byteAt l j ∧ byteAt l j < 256 := by unfold byteAt; omega
theorem shr_byte (x : Int) (m : Nat) (h : m < 8) : shr .u64 x ((8 * m : Nat) : Int) % 256 = x / 256 ^ m % 256 := by
 unfold shr
 rw [show min ((8 * m : Nat) : Int).toNat IntKind.u64.bits = 8 * m by simp [IntKind.bits]; omega, pow256]
def bytesOf (l : List Int) (nb : Nat) : List Int := (List.range nb).map fun i => byteAt l (nb - 1 - i)
end Go.Proofs.Ytbmddlldadbfnaa.BM
end
section
namespace Go.Proofs.Ytbmddlldadbfnaa.BM
open Go.RowKit Go.Proofs.YtbmddlldadbfnaaW.PrintWords Go.Proofs.YtbmddlldadbfnaaW.PrintLast Go.Proofs.YtbmddlldadbfnaaW.PrintMore
open Go.Proofs.Ytbmddlldadbfnaa.BA
theorem div_step (x : Int) (m : Nat) : x / 256 ^ (m + 1) * 256 + x / 256 ^ m % 256 = x / 256 ^ m := by
 rw [Int.pow_succ, ← Int.ediv_ediv_of_nonneg (Int.pow_nonneg (by omega))]
 omega
theorem rd_bytes (l : List Int) (nb i : Nat) (h : i < nb) : (bytesOf l nb)[i]'(by simp [bytesOf]; exact h) = byteAt l (nb - 1 - i) := by simp [bytesOf]
theorem clone_f (l : List Int) (h : l.length < 17592186044416) : sClone.f l = some l := by
 unfold sClone.f
 simp [h]
end Go.Proofs.Ytbmddlldadbfnaa.BM
end
section
namespace Go.Proofs.Ytbmddlldadbfnaa.BM
open Go.RowKit Go.Proofs.YtbmddlldadbfnaaW.PrintWords Go.Proofs.YtbmddlldadbfnaaW.PrintLast Go.Proofs.YtbmddlldadbfnaaW.PrintMore
open Go.Proofs.Ytbmddlldadbfnaa.BB
def Late (P : Nat → Prop) : Prop := ∃ K, ∀ k, K ≤ k → P k
theorem Late.and {P Q : Nat → Prop} (h : Late P) (h' : Late Q) : Late fun k => P k ∧ Q k := by
 obtain ⟨K, hK⟩ := h
 obtain ⟨L, hL⟩ := h'
 exact ⟨max K L, fun k hk => ⟨hK k (by omega), hL k (by omega)⟩⟩
theorem Ev.late {α : Type} {f : Nat → Option α} {r : α} (h : Ev f r) : Late fun k => f k = some r := h
theorem Late.step {β : Type} {P : Nat → Prop} {g t : Nat → Option β} {r : β} (hP : Late P) (h : ∀ k, P k → t k = g k) (hg : Ev g r) : Ev t r := by
 obtain ⟨K, hK⟩ := hP
 obtain ⟨L, hL⟩ := hg
 exact ⟨max K L, fun k hk => (h k (hK k (by omega))).trans (hL k (by omega))⟩
theorem zero_ev {l : List Int} {n : Int} (h : Can 18446744073709551616 l n) (hb : l.length < 1073741824) (neg : Bool) (e : Int) : Ev (fun k => r00Num_Zero.f k neg l e) (decide (l = [])) := by
 refine Ev.bind (g := fun _ t139 => some (t139 == 0)) (natbits_ev h hb) (Ev.const ?_)
 rw [bitsOf_zero h]
theorem times0_ev {a b : List Int} {x y : Int} (ha : Can 18446744073709551616 a x) (hb : Can 18446744073709551616 b y) (hla : a.length < 10000000) (hlb : b.length < 10000000) (n m : Bool) :
  ∃ r, Ev (fun k => r00Times.f k n a 0 m b 0) ((n != m), r, 0) ∧ Can 18446744073709551616 r (x * y) := by
 obtain ⟨r, hr, hc⟩ := natmul_ev ha.1 hb.1 hla hlb
 refine ⟨r, Ev.bind (g := fun _ t283 => some ((n != m), t283, wrap64 (0 + 0))) hr (Ev.const ?_), hc⟩
 rw [w64 (by omega) (by omega)]
 rfl
def dgt (x : Int) : Int := if x < 10 then 48 + x else 87 + x
end Go.Proofs.Ytbmddlldadbfnaa.BM
end
section
namespace Go.Proofs.Ytbmddlldadbfnaa.BM
open Go.RowKit Go.Proofs.YtbmddlldadbfnaaW.PrintWords Go.Proofs.YtbmddlldadbfnaaW.PrintLast Go.Proofs.YtbmddlldadbfnaaW.PrintMore
section
open Go.Proofs.Ytbmddlldadbfnaa.BB
def startOf (s : ByteArray) : Nat := if bt s 0 = 45 then 1 else 0
theorem start_le (s : ByteArray) : startOf s ≤ s.size := by
 unfold startOf
 split
 ·rename_i h
  rcases Nat.eq_zero_or_pos s.size with h0 | h0
  ·exfalso
   unfold bt at h
   rw [dif_neg (by show ¬ (0 < s.size); omega)] at h
   omega
  ·exact h0
 ·omega
end
section
open Go.Proofs.Ytbmddlldadbfnaa.BA
def allDigits : ByteArray := (⟨#[48, 49, 50, 51, 52, 53, 54, 55, 56, 57, 97, 98, 99, 100, 101, 102, 103, 104, 105, 106, 107, 108, 109, 110, 111, 112, 113, 114, 115, 116, 117, 118, 119, 120, 121, 122]⟩ : ByteArray)
theorem allDigits_bt : ∀ i : Fin 36, bt allDigits ((i.val : Nat) : Int) = dgt (i.val : Int) := by decide +kernel
theorem body_size (s : ByteArray) : (bodyOf s).size = s.size - startOf s := by
 have := start_le s
 unfold bodyOf startOf
 by_cases h : bt s 0 = 45
 ·have h0 : 0 < s.size := by unfold startOf at this; rw [if_pos h] at this; omega
  rw [if_pos ⟨h0, h⟩, if_pos h, ByteArray.size_extract]; omega
 ·rw [if_neg (fun h' => h h'.2), if_neg h]; omega
theorem trimPrefix (s : ByteArray) : strings_TrimPrefix.f s (⟨#[45]⟩ : ByteArray) = some (bodyOf s) := by
 unfold strings_TrimPrefix.f stringslite_TrimPrefix.f stringslite_HasPrefix.f bodyOf
 have e : ((⟨#[45]⟩ : ByteArray).size : Int) = 1 := rfl
 rw [e]
 by_cases h0 : 0 < s.size
 ·rw [if_pos (by omega), if_pos (by decide), if_pos (by omega), Option.bind_some]
  have hx : ((s.extract 0 (1 : Int).toNat).toList == (⟨#[45]⟩ : ByteArray).toList) = decide (bt s 0 = 45) := by
   have h1 : s.extract 0 1 = ⟨#[s[0]'h0]⟩ := by
    apply ByteArray.ext
    apply Array.ext
    ·show (s.extract 0 1).size = 1
     rw [ByteArray.size_extract]; omega
    ·intro i h1 h2
     have : i = 0 := by simp at h2; omega
     subst this
     exact ByteArray.getElem_extract (i := 0) (b := s) (start := 0) (stop := 1) (by rw [ByteArray.size_extract]; omega)
   show ((s.extract 0 1).toList == _) = _
   rw [h1]
   have h2 : (⟨#[s[0]'h0]⟩ : ByteArray).toList = [s[0]'h0] := ByteArray.toList_mk [s[0]'h0]
   have h3 : (⟨#[45]⟩ : ByteArray).toList = [45] := ByteArray.toList_mk [45]
   rw [h2, h3]
   have h4 : bt s 0 = ((s[0]'h0).toNat : Int) := by unfold bt; rw [dif_pos (by exact h0)]; rfl
   rw [h4]
   by_cases h5 : s[0]'h0 = 45
   ·rw [h5]; rfl
   ·have : ¬ ((s[0]'h0).toNat : Int) = 45 := fun h => h5 (UInt8.toNat_inj.1 (by simpa using (by omega : (s[0]'h0).toNat = 45)))
    rw [decide_eq_false this]
    simp [h5]
  rw [hx]
  by_cases h : bt s 0 = 45
  ·rw [decide_eq_true h, if_pos rfl, if_pos (by decide), if_pos (by omega), Option.bind_some, if_pos ⟨h0, h⟩]
   rfl
  ·rw [decide_eq_false h, if_neg (by decide), Option.bind_some, if_neg (fun h' => h h'.2)]
 ·rw [if_neg (by omega), Option.bind_some, if_neg (by decide), Option.bind_some, if_neg (fun h => h0 h.1)]
end
end Go.Proofs.Ytbmddlldadbfnaa.BM
end
section
namespace Go.Proofs.Ytbmddlldadbfnaa.BM
open Go.RowKit Go.Proofs.YtbmddlldadbfnaaW.PrintWords Go.Proofs.YtbmddlldadbfnaaW.PrintLast Go.Proofs.YtbmddlldadbfnaaW.PrintMore
open Go.Proofs.Ytbmddlldadbfnaa.BA Go.Proofs.Ytbmddlldadbfnaa.BB
theorem Ev.of_mono {α : Type} {f : Nat → Option α} (hm : ∀ k, LeO (f k) (f (k + 1))) {k : Nat} {r : α} (h : f k = some r) : Ev f r := by
 refine ⟨k, fun j hj => ?_⟩
 obtain ⟨d, rfl⟩ : ∃ d, j = k + d := ⟨j - k, by omega⟩
 clear hj
 induction d with
 | zero => exact h
 | succ d ih => exact hm _ _ ih
theorem awake_at : w19awake.f 64 = some true := by decide +kernel
theorem awake_ev : Ev (fun k => w19awake.f k) true := Ev.of_mono (fun k => w19awake.mono k) awake_at
theorem may_true {b : Int} (h1 : 2 ≤ b) (h2 : b ≤ 36) : r19may.f b = some true := by unfold r19may.f; rw [if_pos h1, decide_eq_true h2]
end Go.Proofs.Ytbmddlldadbfnaa.BM
namespace Go.Proofs.Ytbmddlldadbfnaa.Pure
open Go.RowKit Go.Proofs.Ytbmddlldadbfnaa.BB Go.Proofs.Ytbmddlldadbfnaa.BM
end Go.Proofs.Ytbmddlldadbfnaa.Pure
end
section
namespace Go.Proofs.Ytbmddlldadbfnaa.BM
open Go.RowKit Go.Proofs.YtbmddlldadbfnaaW.PrintWords Go.Proofs.YtbmddlldadbfnaaW.PrintLast Go.Proofs.YtbmddlldadbfnaaW.PrintMore
open Go.Proofs.Ytbmddlldadbfnaa.BA
theorem whole_step (k : Nat) (l x4 : List Int) (nb i j : Nat) (hi : i < nb) (h4 : x4.length = nb) (hj : j = nb - 1 - i) (hj8 : j / 8 < l.length) (hn : nb < 1099511627776) :
  exact_Whole.l0 (k + 1) l x4 nb i = exact_Whole.l0 k l (x4.set i (byteAt l j)) nb ((i + 1 : Nat) : Int) := by
 have e1 : wrap64 ((wrap64 ((x4.length : Int) - 1)) - (i : Int)) = (j : Int) := by rw [w64 (n := (x4.length : Int) - 1) (by omega) (by omega), w64 (by omega) (by omega)]; omega
 have e2 : wrap64 (Int.tdiv ((j : Nat) : Int) 8) = ((j / 8 : Nat) : Int) := by rw [Int.tdiv_eq_ediv_of_nonneg (by omega), w64 (by omega) (by omega)]; omega
 have e3 : wrap64 (8 * (Int.tmod ((j : Nat) : Int) 8)) = ((8 * (j % 8) : Nat) : Int) := by rw [Int.tmod_eq_emod_of_nonneg (by omega), w64 (by omega) (by omega)]; omega
 have e4 : wrap64 ((i : Int) + 1) = ((i + 1 : Nat) : Int) := by rw [w64 (by omega) (by omega)]; omega
 have c1 : (i : Int) < (nb : Int) := by clear e1 e2 e3 e4; omega
 have c2 : ((j / 8 : Nat) : Int) < (l.length : Int) := by clear e1 e2 e3 e4; omega
 have c3 : (i : Int) < (x4.length : Int) := by clear e1 e2 e3 e4; omega
 rw [exact_Whole.l0, if_pos c1, e1, e2, e3, e4, if_pos (Int.natCast_nonneg _), if_pos c2, if_pos (Int.natCast_nonneg _), if_pos (Int.natCast_nonneg _), if_pos c3, shr_byte _ _ (Nat.mod_lt _ (by decide))]
 rfl
theorem whole_loop (l : List Int) (nb : Nat) (hn : nb < 1099511627776) (hl : ∀ j, j < nb → j / 8 < l.length) : ∀ (m i : Nat), i + m = nb →
  Ev (fun k => exact_Whole.l0 k l ((List.range i).map (fun i => byteAt l (nb - 1 - i)) ++ List.replicate m 0) nb i) (bytesOf l nb) := by
 intro m
 induction m with
 | zero =>
  intro i hi
  refine Ev.succ (Ev.congr (Ev.pure _) fun k => ?_)
  have : i = nb := by omega
  subst this
  rw [exact_Whole.l0, if_neg (Int.lt_irrefl _)]
  simp [bytesOf]
 | succ m ih =>
  intro i hi
  refine Ev.succ (Ev.congr (ih (i + 1) (by omega)) fun k => ?_)
  rw [whole_step k l _ nb i (nb - 1 - i) (by omega) (by simp; omega) rfl (hl _ (by omega)) hn]
  have e := set_pad ((List.range i).map (fun i => byteAt l (nb - 1 - i))) (byteAt l (nb - 1 - i)) m
  rw [List.length_map, List.length_range] at e
  rw [e, List.range_succ, List.map_append]
  rfl
theorem wholeB_ev (l : List Int) (hl : l.length < 100000000) : Ev (fun k => exact_Whole.f k l) (bytesOf l (8 * l.length)) := by
 have h := whole_loop l (8 * l.length) (by omega) (fun j hj => by omega) (8 * l.length) 0 (by omega)
 refine Ev.congr h fun k => ?_
 have e : wrap64 (8 * (l.length : Int)) = ((8 * l.length : Nat) : Int) := by rw [w64 (by omega) (by omega)]; omega
 have c : 8 * l.length ≤ 281474976710656 := by clear e; omega
 unfold exact_Whole.f
 rw [e, if_pos (Int.natCast_nonneg _), Int.toNat_natCast, if_pos c]
 simp
theorem or_at {A v : Int} {m : Nat} (hA : 0 ≤ A) (hv0 : 0 ≤ v) (hv : v < 256) (hm : m < 8) (ht : A * 256 ^ (m + 1) + v * 256 ^ m < 18446744073709551616) :
  Go.bits .or .u64 (A * 256 ^ (m + 1)) (shl .u64 (IntKind.u64.wrap v) ((8 * m : Nat) : Int)) = A * 256 ^ (m + 1) + v * 256 ^ m := by
 have hp := pow_pos' (show (0 : Int) < 256 by omega) m
 have hvm := Int.mul_nonneg hv0 (Int.le_of_lt hp)
 have hAm := Int.mul_nonneg hA (Int.le_of_lt (pow_pos' (show (0 : Int) < 256 by omega) (m + 1)))
 have hlt : v * 256 ^ m < 256 ^ (m + 1) := by
  rw [Int.pow_succ, Int.mul_comm ((256 : Int) ^ m)]
  exact Int.mul_lt_mul_of_pos_right hv hp
 have e1 : shl .u64 (IntKind.u64.wrap v) ((8 * m : Nat) : Int) = v * 256 ^ m := by
  unfold shl
  rw [u64 hv0 (by omega), show min ((8 * m : Nat) : Int).toNat IntKind.u64.bits = 8 * m by simp [IntKind.bits]; omega, pow256]
  exact u64 hvm (by omega)
 rw [e1]
 obtain ⟨a, ha⟩ := Int.eq_ofNat_of_zero_le hA
 obtain ⟨b, hb⟩ := Int.eq_ofNat_of_zero_le hvm
 have hP : ((2 ^ (8 * (m + 1)) : Nat) : Int) = (256 : Int) ^ (m + 1) := by rw [← pow256, Int.natCast_pow]; rfl
 have hA2 : A * 256 ^ (m + 1) = ((2 ^ (8 * (m + 1)) * a : Nat) : Int) := by rw [Int.natCast_mul, hP, ha]; exact Int.mul_comm _ _
 have hb2 : b < 2 ^ (8 * (m + 1)) := by omega
 rw [hA2, hb] at ht ⊢
 rw [bits_or_u64_nat _ b (by omega) (by omega), ← Nat.two_pow_add_eq_or_of_lt hb2]
 omega
def cleared (x : Int) (c : Nat) : Int := x / 256 ^ c * 256 ^ c
theorem cleared_zero (x : Int) : cleared x 0 = x := by simp [cleared]
theorem cleared_step (x : Int) (m : Nat) : x / 256 ^ (m + 1) * 256 ^ (m + 1) + x / 256 ^ m % 256 * 256 ^ m = cleared x m := by
 have := div_step x m
 unfold cleared
 rw [← this, Int.pow_succ]
 grind
theorem cleared_le {x : Int} (_h : 0 ≤ x) (m : Nat) : cleared x m ≤ x := by
 have := Int.ediv_mul_le x (show (256 : Int) ^ m ≠ 0 from Int.ne_of_gt (pow_pos' (by omega) m))
 exact this
theorem set_step (k : Nat) (bs x5 : List Int) (i j : Nat) (y : Int) (hi : i < bs.length) (hj : j = bs.length - 1 - i) (hj8 : j / 8 < x5.length) (hn : bs.length < 1099511627776)
  (hy : Go.bits .or .u64 (rd x5 ((j / 8 : Nat) : Int)) (shl .u64 (IntKind.u64.wrap (rd bs (i : Int))) ((8 * (j % 8) : Nat) : Int)) = y) :
  bISetBytes.l0 (k + 1) bs x5 bs.length i = bISetBytes.l0 k bs (x5.set (j / 8) y) bs.length ((i + 1 : Nat) : Int) := by
 have e1 : wrap64 ((wrap64 ((bs.length : Int) - 1)) - (i : Int)) = (j : Int) := by rw [w64 (n := (bs.length : Int) - 1) (by omega) (by omega), w64 (by omega) (by omega)]; omega
 have e2 : wrap64 (Int.tdiv ((j : Nat) : Int) 8) = ((j / 8 : Nat) : Int) := by rw [Int.tdiv_eq_ediv_of_nonneg (by omega), w64 (by omega) (by omega)]; omega
 have e3 : wrap64 (8 * (Int.tmod ((j : Nat) : Int) 8)) = ((8 * (j % 8) : Nat) : Int) := by rw [Int.tmod_eq_emod_of_nonneg (by omega), w64 (by omega) (by omega)]; omega
 have e4 : wrap64 ((i : Int) + 1) = ((i + 1 : Nat) : Int) := by rw [w64 (by omega) (by omega)]; omega
 rw [bISetBytes.l0, if_pos (Int.ofNat_lt.2 hi), e1, e2, e3, e4, if_pos (Int.natCast_nonneg _), if_pos (Int.ofNat_lt.2 hj8), if_pos (Int.natCast_nonneg _), if_pos (Int.ofNat_lt.2 hi), if_pos (Int.natCast_nonneg _), hy, Int.toNat_natCast]
theorem setbytes_loop {l : List Int} (hd : Dig 18446744073709551616 l) (hlen : l.length < 100000000) : ∀ (m i : Nat) (x5 : List Int), i + m = 8 * l.length → x5.length = l.length + 1 →
  (∀ t : Nat, t < l.length → rd x5 (t : Int) = cleared (rd l (t : Int)) (min (8 * l.length - i - 8 * t) 8)) → rd x5 ((l.length : Nat) : Int) = 0 →
  Ev (fun k => bISetBytes.l0 k (bytesOf l (8 * l.length)) x5 (bytesOf l (8 * l.length)).length i) (l ++ [0]) := by
 have hnl : (bytesOf l (8 * l.length)).length = 8 * l.length := by simp [bytesOf]
 intro m
 induction m with
 | zero =>
  intro i x5 hi hl hv hz
  refine Ev.succ (Ev.congr (Ev.pure _) fun k => ?_)
  rw [bISetBytes.l0, if_neg (by omega)]
  congr 1
  apply List.ext_getElem
  ·simp [hl]
  ·intro t h1 h2
   rcases Nat.lt_or_ge t l.length with hlt | hge
   ·have h3 := hv t hlt
    rw [show min (8 * l.length - i - 8 * t) 8 = 0 by omega, cleared_zero, rd_nat _ h1, rd_nat _ hlt] at h3
    rw [List.getElem_append_left hlt, h3]
   ·have : t = l.length := by omega
    subst this
    rw [rd_nat _ h1] at hz
    rw [hz]
    simp
 | succ m ih =>
  intro i x5 hi hl hv hz
  obtain ⟨j, hj⟩ : ∃ j, j = 8 * l.length - 1 - i := ⟨_, rfl⟩
  have hjt : j / 8 < l.length := by omega
  have hx := rd_dig hd (i := ((j / 8 : Nat) : Int)) (by omega) (by omega)
  have hb : rd (bytesOf l (8 * l.length)) (i : Int) = byteAt l j := by
   rw [rd_nat _ (by rw [hnl]; omega), rd_bytes l (8 * l.length) i (by omega), ← hj]
  have hold := hv (j / 8) hjt
  rw [show min (8 * l.length - i - 8 * (j / 8)) 8 = j % 8 + 1 by omega] at hold
  have hbr := byteAt_range l j
  have hle := cleared_le hx.1 (j % 8)
  have hcs := cleared_step (rd l ((j / 8 : Nat) : Int)) (j % 8)
  have hy : Go.bits .or .u64 (rd x5 ((j / 8 : Nat) : Int)) (shl .u64 (IntKind.u64.wrap (rd (bytesOf l (8 * l.length)) (i : Int))) ((8 * (j % 8) : Nat) : Int)) = cleared (rd l ((j / 8 : Nat) : Int)) (j % 8) := by
   rw [hold, hb]
   unfold cleared
   rw [or_at (Int.ediv_nonneg hx.1 (Int.pow_nonneg (by omega))) hbr.1 hbr.2 (by omega) (by unfold byteAt; rw [hcs]; omega)]
   unfold byteAt
   rw [hcs]
   rfl
  refine Ev.succ (Ev.congr (ih (i + 1) (x5.set (j / 8) (cleared (rd l ((j / 8 : Nat) : Int)) (j % 8))) (by omega) (by rw [List.length_set]; exact hl) (fun t ht => ?_) ?_) fun k => ?_)
  ·rw [rd_set _ _ _ _ (by omega)]
   by_cases h : t = j / 8
   ·rw [if_pos h, h, show min (8 * l.length - (i + 1) - 8 * (j / 8)) 8 = j % 8 by omega]
   ·rw [if_neg h, hv t ht]
    congr 1
    omega
  ·rw [rd_set _ _ _ _ (by omega), if_neg (by omega)]
   exact hz
  ·exact set_step k _ x5 i j _ (by rw [hnl]; omega) (by rw [hnl]; omega) (by omega) (by rw [hnl]; omega) hy
theorem setbytes_ev {l : List Int} (hd : Dig 18446744073709551616 l) (hlen : l.length < 100000000) : Ev (fun k => bISetBytes.f k 0 (bytesOf l (8 * l.length))) (l ++ [0]) := by
 have hnl : (bytesOf l (8 * l.length)).length = 8 * l.length := by simp [bytesOf]
 have hrep : ∀ t : Nat, rd (List.replicate (l.length + 1) 0) (t : Int) = 0 := by
  intro t
  unfold rd
  simp [List.getD_eq_getElem?_getD, List.getElem?_replicate]
  split <;> rfl
 have h := setbytes_loop hd hlen (8 * l.length) 0 (List.replicate (l.length + 1) 0) (by omega) (by simp) (fun t ht => by
  have hx := rd_dig hd (i := (t : Int)) (by omega) (by omega)
  rw [hrep, show min (8 * l.length - 0 - 8 * t) 8 = 8 by omega]
  unfold cleared
  rw [Int.ediv_eq_zero_of_lt hx.1 (show rd l (t : Int) < 256 ^ 8 from hx.2), Int.zero_mul]) (hrep _)
 refine Ev.congr h fun k => ?_
 have e : wrap64 ((wrap64 (((bytesOf l (8 * l.length)).length : Int) / 8)) + 1) = ((l.length + 1 : Nat) : Int) := by
  rw [hnl, w64 (n := ((8 * l.length : Nat) : Int) / 8) (by omega) (by omega), w64 (by omega) (by omega)]; omega
 have c : l.length + 1 ≤ 35184372088832 := by clear e; omega
 unfold bISetBytes.f
 rw [e, if_pos (Int.natCast_nonneg _), Int.toNat_natCast, if_pos c]
 rfl
theorem exactInt_ev {l : List Int} {n : Int} (h : Can 18446744073709551616 l n) (hl : l.length < 100000000) (neg : Bool) : Ev (fun k => exact_Int.f k neg l) (neg && decide (0 < l.length), l) := by
 have h1 := wholeB_ev l hl
 have h2 := setbytes_ev h.1.1 hl
 obtain ⟨r, h3, hc, _⟩ := trim_ev 18446744073709551616 (l.length + 1) (l := l ++ [0]) (n := n) (by simp) (by omega) ⟨Dig_snoc h.1.1 (by omega) (by omega), by rw [V_snoc, h.1.2]; simp⟩
 have := Can_unique (by omega) hc h
 subst this
 have h4 := trim_can (by omega) h (by omega)
 refine Late.step (g := fun _ => some (neg && decide (0 < r.length), r)) (h1.late.and (h2.late.and (h3.late.and h4.late))) (fun k hk => ?_) (Ev.pure _)
 have k1 : exact_Whole.f k r = some (bytesOf r (8 * r.length)) := hk.1
 have k2 : bISetBytes.f k 0 (bytesOf r (8 * r.length)) = some (r ++ [0]) := hk.2.1
 have k3 : big_trim.f k (r ++ [0]) = some r := hk.2.2.1
 have k4 : big_trim.f k r = some r := hk.2.2.2
 unfold exact_Int.f
 rw [k1, Option.bind_some, k2, Option.bind_some, k3, Option.bind_some]
 cases neg
 ·rfl
 ·rw [if_pos rfl, clone_f r (by omega), Option.bind_some, k4, Option.bind_some]
  rfl
end Go.Proofs.Ytbmddlldadbfnaa.BM
end
section
namespace Go.Proofs.Ytbmddlldadbfnaa.BM
open Go.RowKit Go.Proofs.YtbmddlldadbfnaaW.PrintWords Go.Proofs.YtbmddlldadbfnaaW.PrintLast Go.Proofs.YtbmddlldadbfnaaW.PrintMore
open Go.Proofs.Ytbmddlldadbfnaa.BA
theorem guess (y yn1 yn0 u d q rh : Int) (hy : y = yn1 * 4294967296 + yn0) (hq : q * yn1 + rh = u) : (q * yn0 > 4294967296 * rh + d) ↔ u * 4294967296 + d < q * y := by
 have e : q * y = (u - rh) * 4294967296 + q * yn0 := by rw [hy, ← hq]; grind
 rw [e]
 omega
structure Guess (y yn1 yn0 u d Q : Int) : Prop where
 hy : y = yn1 * 4294967296 + yn0
 h1 : 2147483648 ≤ yn1
 h2 : yn1 < 4294967296
 h3 : 0 ≤ yn0
 h4 : yn0 < 4294967296
 hu0 : 0 ≤ u
 hu : u < y
 hd0 : 0 ≤ d
 hd : d < 4294967296
 hQ : Q = (u * 4294967296 + d) / y
theorem Guess.le {y yn1 yn0 u d Q : Int} (g : Guess y yn1 yn0 u d Q) (q : Int) : q ≤ Q ↔ q * y ≤ u * 4294967296 + d := by
 rw [g.hQ]
 have := g.hu0; have := g.hu
 exact Int.le_ediv_iff_mul_le (by omega)
theorem Guess.range {y yn1 yn0 u d Q : Int} (g : Guess y yn1 yn0 u d Q) : 0 ≤ Q ∧ Q < 4294967296 := by
 have h0 := g.hu0; have h1 := g.hu; have h2 := g.hd0; have h3 := g.hd
 refine ⟨by rw [g.hQ]; exact Int.ediv_nonneg (by omega) (by omega), ?_⟩
 rcases Int.lt_or_le Q 4294967296 with h | h
 ·exact h
 ·have := (g.le 4294967296).1 h
  omega
theorem Guess.test {y yn1 yn0 u d Q q rh : Int} (g : Guess y yn1 yn0 u d Q) (hq : q * yn1 + rh = u) (_hr0 : 0 ≤ rh) (_hr : rh < 4294967296) (hge : Q ≤ q) (hle : q ≤ 4294967297) :
  ((q ≥ 4294967296 ∨ q * yn0 > 4294967296 * rh + d) → Q ≤ q - 1 ∧ (q - 1) * yn1 + (rh + yn1) = u ∧ (4294967296 ≤ rh + yn1 → q - 1 = Q)) ∧ (¬ (q ≥ 4294967296 ∨ q * yn0 > 4294967296 * rh + d) → q = Q) := by
 have hrg := g.range
 have hgs := guess y yn1 yn0 u d q rh g.hy hq
 have hl := g.le q
 refine ⟨fun h => ?_, fun h => ?_⟩
 ·have h1 : Q ≤ q - 1 := by
   rcases h with h | h
   ·omega
   ·have := hgs.1 h
    have : ¬ q ≤ Q := fun h' => by have := hl.1 h'; omega
    omega
  have h2 : (q - 1) * yn1 + (rh + yn1) = u := by rw [Int.sub_mul]; omega
  refine ⟨h1, h2, fun hb => ?_⟩
  have hgs2 := guess y yn1 yn0 u d (q - 1) (rh + yn1) g.hy h2
  have hn : ¬ ((q - 1) * yn0 > 4294967296 * (rh + yn1) + d) := by
   have h3 := g.h3; have h4 := g.h4; have hd0 := g.hd0
   have := Int.mul_le_mul (show q - 1 ≤ 4294967296 by omega) (show yn0 ≤ 4294967295 by omega) h3 (by omega)
   omega
  have : (q - 1) * y ≤ u * 4294967296 + d := by
   rcases Int.lt_or_le (u * 4294967296 + d) ((q - 1) * y) with h' | h'
   ·exact absurd (hgs2.2 h') hn
   ·exact h'
  have := (g.le (q - 1)).2 this
  omega
 ·have : ¬ (u * 4294967296 + d < q * y) := fun h' => h (.inr (hgs.2 h'))
  have := hl.2 (by omega)
  omega
theorem Guess.first {y yn1 yn0 u d Q : Int} (g : Guess y yn1 yn0 u d Q) : Q ≤ u / yn1 ∧ u / yn1 ≤ 4294967297 ∧ u / yn1 * yn1 + u % yn1 = u ∧ 0 ≤ u % yn1 ∧ u % yn1 < 4294967296 ∧ 0 ≤ u / yn1 := by
 have h1 := g.h1; have h2 := g.h2; have h3 := g.h3; have h4 := g.h4; have hu0 := g.hu0; have hu := g.hu; have hy := g.hy; have hd0 := g.hd0; have hd := g.hd
 have hr0 := Int.emod_nonneg u (show yn1 ≠ 0 by omega)
 have hr := Int.emod_lt_of_pos u (show 0 < yn1 by omega)
 have he : u / yn1 * yn1 + u % yn1 = u := by have := Int.mul_ediv_add_emod u yn1; rw [Int.mul_comm]; exact this
 refine ⟨?_, ?_, he, hr0, by omega, Int.ediv_nonneg hu0 (by omega)⟩
 ·have hrg := g.range
  have hq := (g.le Q).1 (Int.le_refl _)
  rw [Int.le_ediv_iff_mul_le (by omega)]
  have hm := Int.mul_nonneg hrg.1 h3
  have e : Q * y = Q * yn1 * 4294967296 + Q * yn0 := by rw [hy]; grind
  omega
 ·have : u / yn1 < 4294967298 := by
   rw [Int.ediv_lt_iff_lt_mul (by omega)]
   omega
  omega
theorem dv_test (q yn0 rh d : Int) (q0 : 0 ≤ q) (h3 : 0 ≤ yn0) (h4 : yn0 < 4294967296) (hr0 : 0 ≤ rh) (hr : rh < 4294967296) (hd0 : 0 ≤ d) (hd : d < 4294967296) (hq : q < 4294967296) :
  decide ((IntKind.u64.wrap (q * yn0)) > (IntKind.u64.wrap ((IntKind.u64.wrap (4294967296 * rh)) + d))) = decide (q * yn0 > 4294967296 * rh + d) := by
 have hm0 := Int.mul_nonneg q0 h3
 have hm1 := Int.mul_le_mul (show q ≤ 4294967295 by omega) (show yn0 ≤ 4294967295 by omega) h3 (by omega)
 rw [u64 hm0 (by omega), u64 (n := 4294967296 * rh) (by omega) (by omega), u64 (by omega) (by omega)]
theorem dv_loop1 {y s yn1 yn0 u d u0 Q : Int} (g : Guess y yn1 yn0 u d Q) {r : Int × Int} (hr : Ev (fun k => bits_Div64.j2 k y s yn1 yn0 u d u0 Q) r) :
  ∀ (m : Nat) (q rh : Int), (q - Q).toNat ≤ m → q * yn1 + rh = u → 0 ≤ rh → rh < 4294967296 → Q ≤ q → q ≤ 4294967297 → Ev (fun k => bits_Div64.l0 k y s yn1 yn0 u d u0 q rh) r := by
 have hrg := g.range
 have h1 := g.h1; have h2 := g.h2; have h3 := g.h3; have h4 := g.h4; have hd0 := g.hd0; have hd := g.hd
 intro m
 induction m with
 | zero =>
  intro q rh hm hq hr0 hrl hge hle
  obtain ⟨t1, t2⟩ := g.test hq hr0 hrl hge hle
  have hn : ¬ (q ≥ 4294967296 ∨ q * yn0 > 4294967296 * rh + d) := fun h => by have := (t1 h).1; omega
  have hqQ := t2 hn
  subst hqQ
  refine Ev.succ (Ev.succ (Ev.congr hr fun k => ?_))
  rw [bits_Div64.l0, if_neg (fun h => hn (.inl h)), dv_test q yn0 rh d hrg.1 h3 h4 hr0 hrl hd0 hd hrg.2, decide_eq_false (fun h => hn (.inr h)), bits_Div64.j1, if_neg (by decide)]
 | succ m ih =>
  intro q rh hm hq hr0 hrl hge hle
  obtain ⟨t1, t2⟩ := g.test hq hr0 hrl hge hle
  by_cases hc : q ≥ 4294967296 ∨ q * yn0 > 4294967296 * rh + d
  ·obtain ⟨a1, a2, a3⟩ := t1 hc
   have hhead : ∀ k, bits_Div64.l0 (k + 1 + 1) y s yn1 yn0 u d u0 q rh = bits_Div64.j1 (k + 1) y s yn1 yn0 u d u0 q rh true := by
    intro k
    rw [bits_Div64.l0]
    by_cases hb : q ≥ 4294967296
    ·rw [if_pos hb]
    ·rw [if_neg hb, dv_test q yn0 rh d (by omega) h3 h4 hr0 hrl hd0 hd (by omega), decide_eq_true (hc.elim (fun h => absurd h hb) id)]
   have e1 : IntKind.u64.wrap (rh + yn1) = rh + yn1 := u64 (by omega) (by omega)
   have e2 : IntKind.u64.wrap (q - 1) = q - 1 := u64 (by omega) (by omega)
   by_cases hb : 4294967296 ≤ rh + yn1
   ·have := a3 hb
    refine Ev.succ (Ev.succ (Ev.congr hr fun k => ?_))
    rw [hhead, bits_Div64.j1, if_pos rfl, e1, e2, if_pos hb, this]
   ·refine Ev.succ (Ev.succ (Ev.congr (ih (q - 1) (rh + yn1) (by omega) a2 (by omega) (by omega) a1 (by omega)) fun k => ?_))
    rw [hhead, bits_Div64.j1, if_pos rfl, e1, e2, if_neg hb]
  ·have hqQ := t2 hc
   subst hqQ
   refine Ev.succ (Ev.succ (Ev.congr hr fun k => ?_))
   rw [bits_Div64.l0, if_neg (fun h => hc (.inl h)), dv_test q yn0 rh d hrg.1 h3 h4 hr0 hrl hd0 hd hrg.2, decide_eq_false (fun h => hc (.inr h)), bits_Div64.j1, if_neg (by decide)]
theorem dv_loop2 {y s yn1 yn0 u d q1 Q : Int} (g : Guess y yn1 yn0 u d Q) {r : Int × Int} (hs : 0 ≤ s) (hr : some (IntKind.u64.wrap ((IntKind.u64.wrap (q1 * 4294967296)) + Q), shr .u64 (IntKind.u64.wrap ((IntKind.u64.wrap ((IntKind.u64.wrap (u * 4294967296)) + d)) - (IntKind.u64.wrap (Q * y)))) s) = some r) :
  ∀ (m : Nat) (q rh : Int), (q - Q).toNat ≤ m → q * yn1 + rh = u → 0 ≤ rh → rh < 4294967296 → Q ≤ q → q ≤ 4294967297 → Ev (fun k => bits_Div64.l1 k y s yn1 yn0 d q1 rh u q) r := by
 have hrg := g.range
 have h1 := g.h1; have h2 := g.h2; have h3 := g.h3; have h4 := g.h4; have hd0 := g.hd0; have hd := g.hd
 intro m
 induction m with
 | zero =>
  intro q rh hm hq hr0 hrl hge hle
  obtain ⟨t1, t2⟩ := g.test hq hr0 hrl hge hle
  have hn : ¬ (q ≥ 4294967296 ∨ q * yn0 > 4294967296 * rh + d) := fun h => by have := (t1 h).1; omega
  have hqQ := t2 hn
  subst hqQ
  refine Ev.succ (Ev.succ (Ev.congr (Ev.pure r) fun k => ?_))
  rw [bits_Div64.l1, if_neg (fun h => hn (.inl h)), dv_test q yn0 rh d hrg.1 h3 h4 hr0 hrl hd0 hd hrg.2, decide_eq_false (fun h => hn (.inr h)), bits_Div64.j4, if_neg (by decide), if_pos hs, hr]
 | succ m ih =>
  intro q rh hm hq hr0 hrl hge hle
  obtain ⟨t1, t2⟩ := g.test hq hr0 hrl hge hle
  by_cases hc : q ≥ 4294967296 ∨ q * yn0 > 4294967296 * rh + d
  ·obtain ⟨a1, a2, a3⟩ := t1 hc
   have hhead : ∀ k, bits_Div64.l1 (k + 1 + 1) y s yn1 yn0 d q1 rh u q = bits_Div64.j4 (k + 1) y s yn1 yn0 d q1 rh u q true := by
    intro k
    rw [bits_Div64.l1]
    by_cases hb : q ≥ 4294967296
    ·rw [if_pos hb]
    ·rw [if_neg hb, dv_test q yn0 rh d (by omega) h3 h4 hr0 hrl hd0 hd (by omega), decide_eq_true (hc.elim (fun h => absurd h hb) id)]
   have e1 : IntKind.u64.wrap (rh + yn1) = rh + yn1 := u64 (by omega) (by omega)
   have e2 : IntKind.u64.wrap (q - 1) = q - 1 := u64 (by omega) (by omega)
   by_cases hb : 4294967296 ≤ rh + yn1
   ·have := a3 hb
    refine Ev.succ (Ev.succ (Ev.congr (Ev.pure r) fun k => ?_))
    rw [hhead, bits_Div64.j4, if_pos rfl, e1, e2, if_pos hb, this, if_pos hs, hr]
   ·refine Ev.succ (Ev.succ (Ev.congr (ih (q - 1) (rh + yn1) (by omega) a2 (by omega) (by omega) a1 (by omega)) fun k => ?_))
    rw [hhead, bits_Div64.j4, if_pos rfl, e1, e2, if_neg hb]
  ·have hqQ := t2 hc
   subst hqQ
   refine Ev.succ (Ev.succ (Ev.congr (Ev.pure r) fun k => ?_))
   rw [bits_Div64.l1, if_neg (fun h => hc (.inl h)), dv_test q yn0 rh d hrg.1 h3 h4 hr0 hrl hd0 hd hrg.2, decide_eq_false (fun h => hc (.inr h)), bits_Div64.j4, if_neg (by decide), if_pos hs, hr]
end Go.Proofs.Ytbmddlldadbfnaa.BM
end
section
namespace Go.Proofs.Ytbmddlldadbfnaa.BM
open Go.RowKit Go.Proofs.YtbmddlldadbfnaaW.PrintWords Go.Proofs.YtbmddlldadbfnaaW.PrintLast Go.Proofs.YtbmddlldadbfnaaW.PrintMore
open Go.Proofs.Ytbmddlldadbfnaa.BA
theorem or_sum {a b : Int} {s : Nat} (ha : 0 ≤ a) (hb0 : 0 ≤ b) (hb : b < 2 ^ s) (ht : a * 2 ^ s + b < 18446744073709551616) : Go.bits .or .u64 (a * 2 ^ s) b = a * 2 ^ s + b := by
 obtain ⟨x, hx⟩ := Int.eq_ofNat_of_zero_le ha
 obtain ⟨z, hz⟩ := Int.eq_ofNat_of_zero_le hb0
 have hP : ((2 ^ s : Nat) : Int) = (2 : Int) ^ s := by rw [Int.natCast_pow]; rfl
 have e : a * 2 ^ s = ((2 ^ s * x : Nat) : Int) := by rw [Int.natCast_mul, hP, hx]; exact Int.mul_comm _ _
 have hz2 : z < 2 ^ s := by omega
 rw [e, hz] at ht ⊢
 rw [bits_or_u64_nat _ z (by omega) (by omega), ← Nat.two_pow_add_eq_or_of_lt hz2]
 omega
theorem wrap_mod (a d p r : Int) (h : a * 4294967296 + d - p = r) (h0 : 0 ≤ r) (h1 : r < 18446744073709551616) : IntKind.u64.wrap ((IntKind.u64.wrap ((IntKind.u64.wrap (a * 4294967296)) + d)) - (IntKind.u64.wrap p)) = r := by
 rw [u64m, u64m, u64m, u64m]
 omega
theorem dv_two {N P y y' u un10 un21 Q1 Q0 r : Int} (hP : 0 < P) (hy0 : 0 < y) (hy : y' = y * P) (hN : N * P = u * 18446744073709551616 + un10) (h1 : u * 4294967296 + un10 / 4294967296 = Q1 * y' + un21) (h2 : un21 * 4294967296 + un10 % 4294967296 = Q0 * y' + r)
  (hr0 : 0 ≤ r) (hr : r < y') : N / y = Q1 * 4294967296 + Q0 ∧ N % y = r / P := by
 have e : N * P = (Q1 * 4294967296 + Q0) * y' + r := by
  have hd := Int.mul_ediv_add_emod un10 4294967296
  rw [hN]
  have : (Q1 * 4294967296 + Q0) * y' = Q1 * y' * 4294967296 + Q0 * y' := by grind
  rw [this]
  omega
 have e2 : (N - (Q1 * 4294967296 + Q0) * y) * P = r := by
  rw [Int.sub_mul, e, hy]
  have : (Q1 * 4294967296 + Q0) * y * P = (Q1 * 4294967296 + Q0) * (y * P) := Int.mul_assoc _ _ _
  omega
 generalize hq : Q1 * 4294967296 + Q0 = Q at e2 ⊢
 generalize hrho : N - Q * y = rho at e2
 have hrho0 : 0 ≤ rho := by
  rcases Int.lt_or_le rho 0 with h | h
  ·have := Int.mul_lt_mul_of_pos_right h hP; rw [Int.zero_mul] at this; omega
  ·exact h
 have hrho1 : rho < y := by
  rcases Int.lt_or_le rho y with h | h
  ·exact h
  ·have := Int.mul_le_mul_of_nonneg_right h (Int.le_of_lt hP); rw [← hy] at this; omega
 have eN : N = rho + y * Q := by rw [Int.mul_comm y Q]; omega
 refine ⟨?_, ?_⟩
 ·rw [eN, Int.add_mul_ediv_left _ _ (by omega), Int.ediv_eq_zero_of_lt hrho0 hrho1, Int.zero_add]
 ·rw [eN, Int.add_mul_emod_self_left, Int.emod_eq_of_lt hrho0 hrho1, ← e2, Int.mul_ediv_cancel _ (by omega)]
theorem dv_split {hi lo : Int} {s : Nat} (hs : s ≤ 64) : (hi * 18446744073709551616 + lo) * 2 ^ s = (hi * 2 ^ s + lo / 2 ^ (64 - s)) * 18446744073709551616 + lo * 2 ^ s % 18446744073709551616 := by
 have hW : (18446744073709551616 : Int) = 2 ^ s * 2 ^ (64 - s) := by rw [← Int.pow_add, show s + (64 - s) = 64 by omega]; rfl
 have h1 := Int.mul_ediv_add_emod (lo * 2 ^ s) 18446744073709551616
 have h2 : lo * 2 ^ s / 18446744073709551616 = lo / 2 ^ (64 - s) := by
  rw [hW, Int.mul_comm lo]
  exact Int.mul_ediv_mul_of_pos _ _ (pow_pos' (by omega) s)
 rw [h2] at h1
 grind
theorem div64_ev {hi lo y : Int} (h0 : 0 ≤ hi) (h1 : hi < y) (hy : y < 18446744073709551616) (hl0 : 0 ≤ lo) (hl : lo < 18446744073709551616) :
  Ev (fun k => bits_Div64.f k hi lo y) ((hi * 18446744073709551616 + lo) / y, (hi * 18446744073709551616 + lo) % y) := by
 by_cases hz : hi = 0
 ·subst hz
  refine Ev.congr (Ev.pure _) fun k => ?_
  have a1 : IntKind.u64.wrap (Int.tdiv lo y) = lo / y := by
   rw [Int.tdiv_eq_ediv_of_nonneg hl0]
   have := Int.ediv_le_self y hl0
   exact u64 (Int.ediv_nonneg hl0 (by omega)) (by omega)
  unfold bits_Div64.f
  rw [if_neg (by omega), if_neg (by omega), if_pos rfl, a1, Int.tmod_eq_emod_of_nonneg hl0, Int.zero_mul, Int.zero_add]
 ·have hlz := lz_ev y (by omega) hy
  have hb64 := bitLen_le64 (x := y.toNat) (by omega)
  have hspec := bitLen_spec y.toNat
  obtain ⟨s, hs⟩ : ∃ s : Nat, s = 64 - bitLen y.toNat := ⟨_, rfl⟩
  have hs64 : (64 : Int) - (bitLen y.toNat : Int) = (s : Int) := by omega
  have hbp := bitLen_pos (x := y.toNat) (by omega)
  rw [hs64] at hlz
  have hpos : (0 : Int) < 2 ^ s := pow_pos' (by omega) s
  have hpos2 : (0 : Int) < 2 ^ (64 - s) := pow_pos' (by omega) _
  have hW : (2 : Int) ^ s * 2 ^ (64 - s) = 18446744073709551616 := by rw [← Int.pow_add, show s + (64 - s) = 64 by omega]; rfl
  have yup : y * 2 ^ s < 18446744073709551616 := by
   have : y < 2 ^ (64 - s) := by
    have h := hspec.1
    have e : ((2 ^ bitLen y.toNat : Nat) : Int) = (2 : Int) ^ (64 - s) := by rw [Int.natCast_pow, show 64 - s = bitLen y.toNat by omega]; rfl
    omega
   have := Int.mul_lt_mul_of_pos_right this hpos
   rw [Int.mul_comm ((2 : Int) ^ (64 - s))] at this
   omega
  have ylo : 9223372036854775808 ≤ y * 2 ^ s := by
   have h := hspec.2 (by omega)
   have e : ((2 ^ (bitLen y.toNat - 1) : Nat) : Int) = (2 : Int) ^ (63 - s) := by rw [Int.natCast_pow, show 63 - s = bitLen y.toNat - 1 by omega]; rfl
   have h2 : (2 : Int) ^ (63 - s) ≤ y := by omega
   have := Int.mul_le_mul_of_nonneg_right h2 (Int.le_of_lt hpos)
   have e2 : (2 : Int) ^ (63 - s) * 2 ^ s = 9223372036854775808 := by rw [← Int.pow_add, show 63 - s + s = 63 by omega]; rfl
   omega
  have hlow0 : 0 ≤ lo / 2 ^ (64 - s) := Int.ediv_nonneg hl0 (Int.le_of_lt hpos2)
  have hlow : lo / 2 ^ (64 - s) < 2 ^ s := by
   rw [Int.ediv_lt_iff_lt_mul hpos2, hW]; exact hl
  have hhi : hi * 2 ^ s + 2 ^ s ≤ y * 2 ^ s := by
   have := Int.mul_le_mul_of_nonneg_right (show hi + 1 ≤ y by omega) (Int.le_of_lt hpos)
   rw [Int.add_mul, Int.one_mul] at this
   exact this
  have hhi0 := Int.mul_nonneg h0 (Int.le_of_lt hpos)
  have hsplit := dv_split (hi := hi) (lo := lo) (s := s) (by omega)
  obtain ⟨u, hu⟩ : ∃ u, u = hi * 2 ^ s + lo / 2 ^ (64 - s) := ⟨_, rfl⟩
  obtain ⟨v, hv⟩ : ∃ v, v = lo * 2 ^ s % 18446744073709551616 := ⟨_, rfl⟩
  obtain ⟨y', hy'⟩ : ∃ y', y' = y * 2 ^ s := ⟨_, rfl⟩
  have hv0 : 0 ≤ v := by rw [hv]; exact Int.emod_nonneg _ (by omega)
  have hv1 : v < 18446744073709551616 := by rw [hv]; exact Int.emod_lt_of_pos _ (by omega)
  rw [← hu, ← hv] at hsplit
  have m1 : min ((s : Nat) : Int).toNat IntKind.u64.bits = s := by simp [IntKind.bits]; omega
  have m2 : min ((64 : Int) - (s : Int)).toNat IntKind.u64.bits = 64 - s := by show min ((64 : Int) - (s : Int)).toNat 64 = 64 - s; omega
  have f1 : shl .u64 y (s : Int) = y' := by unfold shl; rw [m1, hy']; exact u64 (by omega) yup
  have f2 : shl .u64 hi (s : Int) = hi * 2 ^ s := by unfold shl; rw [m1]; exact u64 hhi0 (by omega)
  have f3 : shr .u64 lo ((64 : Int) - (s : Int)) = lo / 2 ^ (64 - s) := by unfold shr; rw [m2]
  have f4 : shl .u64 lo (s : Int) = v := by unfold shl; rw [m1, u64m, hv]
  have f5 : Go.bits .or .u64 (hi * 2 ^ s) (lo / 2 ^ (64 - s)) = u := by rw [or_sum h0 hlow0 hlow (by omega), hu]
  have f6 : Go.bits .and .u64 y' 4294967295 = y' % 4294967296 := and_low32 y' (by omega) (by omega)
  have f7 : Go.bits .and .u64 v 4294967295 = v % 4294967296 := and_low32 v hv0 hv1
  have hu0 : 0 ≤ u := by omega
  have huy : u < y' := by omega
  have g1 : Guess y' (y' / 4294967296) (y' % 4294967296) u (v / 4294967296) ((u * 4294967296 + v / 4294967296) / y') := ⟨by omega, by omega, by omega, by omega, by omega, hu0, huy, by omega, by omega, rfl⟩
  obtain ⟨Q1, hQ1⟩ : ∃ Q1, Q1 = (u * 4294967296 + v / 4294967296) / y' := ⟨_, rfl⟩
  obtain ⟨w, hw⟩ : ∃ w, w = (u * 4294967296 + v / 4294967296) % y' := ⟨_, rfl⟩
  have hw0 : 0 ≤ w := by rw [hw]; exact Int.emod_nonneg _ (by omega)
  have hwy : w < y' := by rw [hw]; exact Int.emod_lt_of_pos _ (by omega)
  have ed1 : u * 4294967296 + v / 4294967296 = Q1 * y' + w := by have := Int.mul_ediv_add_emod (u * 4294967296 + v / 4294967296) y'; rw [← hQ1, ← hw, Int.mul_comm] at this; exact this.symm
  rw [← hQ1] at g1
  have g2 : Guess y' (y' / 4294967296) (y' % 4294967296) w (v % 4294967296) ((w * 4294967296 + v % 4294967296) / y') := ⟨by omega, by omega, by omega, by omega, by omega, hw0, hwy, by omega, by omega, rfl⟩
  obtain ⟨Q0, hQ0⟩ : ∃ Q0, Q0 = (w * 4294967296 + v % 4294967296) / y' := ⟨_, rfl⟩
  obtain ⟨r, hr⟩ : ∃ r, r = (w * 4294967296 + v % 4294967296) % y' := ⟨_, rfl⟩
  have hr0 : 0 ≤ r := by rw [hr]; exact Int.emod_nonneg _ (by omega)
  have hry : r < y' := by rw [hr]; exact Int.emod_lt_of_pos _ (by omega)
  have ed2 : w * 4294967296 + v % 4294967296 = Q0 * y' + r := by have := Int.mul_ediv_add_emod (w * 4294967296 + v % 4294967296) y'; rw [← hQ0, ← hr, Int.mul_comm] at this; exact this.symm
  rw [← hQ0] at g2
  obtain ⟨fin1, fin2⟩ := dv_two (N := hi * 18446744073709551616 + lo) hpos (by omega) hy' hsplit ed1 ed2 hr0 hry
  have hrg1 := g1.range
  have hrg2 := g2.range
  have hans : some (IntKind.u64.wrap ((IntKind.u64.wrap (Q1 * 4294967296)) + Q0), shr .u64 (IntKind.u64.wrap ((IntKind.u64.wrap ((IntKind.u64.wrap (w * 4294967296)) + v % 4294967296)) - (IntKind.u64.wrap (Q0 * y')))) (s : Int)) =
    some ((hi * 18446744073709551616 + lo) / y, (hi * 18446744073709551616 + lo) % y) := by
   rw [wrap_mod w (v % 4294967296) (Q0 * y') r (by omega) hr0 (by omega), u64 (n := Q1 * 4294967296) (by omega) (by omega), u64 (by omega) (by omega), fin1, fin2]
   unfold shr
   rw [m1]
  obtain ⟨b1, b2, b3, b4, b5, b6⟩ := g2.first
  have loop2 := dv_loop2 (s := (s : Int)) (q1 := Q1) g2 (Int.natCast_nonneg _) hans (w / (y' / 4294967296) - Q0).toNat (w / (y' / 4294967296)) (w % (y' / 4294967296)) (Nat.le_refl _) b3 b4 b5 b1 b2
  have j2 : Ev (fun k => bits_Div64.j2 k y' s (y' / 4294967296) (y' % 4294967296) u (v / 4294967296) (v % 4294967296) Q1) ((hi * 18446744073709551616 + lo) / y, (hi * 18446744073709551616 + lo) % y) := by
   refine Ev.succ (Ev.congr loop2 fun k => ?_)
   have hwm : IntKind.u64.wrap ((IntKind.u64.wrap ((IntKind.u64.wrap (u * 4294967296)) + v / 4294967296)) - (IntKind.u64.wrap (Q1 * y'))) = w := wrap_mod u (v / 4294967296) (Q1 * y') w (by omega) hw0 (by omega)
   have hq : IntKind.u64.wrap (Int.tdiv w (y' / 4294967296)) = w / (y' / 4294967296) := by rw [Int.tdiv_eq_ediv_of_nonneg hw0]; exact u64 b6 (by omega)
   have hrm : IntKind.u64.wrap (w - IntKind.u64.wrap (w / (y' / 4294967296) * (y' / 4294967296))) = w % (y' / 4294967296) := by rw [u64m, u64m]; omega
   rw [bits_Div64.j2, if_neg (by omega), hwm, hq, hrm]
  obtain ⟨a1, a2, a3, a4, a5, a6⟩ := g1.first
  have loop1 := dv_loop1 (s := (s : Int)) (u0 := v % 4294967296) g1 j2 (u / (y' / 4294967296) - Q1).toNat (u / (y' / 4294967296)) (u % (y' / 4294967296)) (Nat.le_refl _) a3 a4 a5 a1 a2
  refine Late.step (hlz.late) (fun k hk => ?_) loop1
  have hk' : bits_LeadingZeros64.f k y = some (s : Int) := hk
  have us : IntKind.u64.wrap (s : Int) = (s : Int) := u64 (by omega) (by omega)
  have us2 : IntKind.u64.wrap ((64 : Int) - (s : Int)) = (64 : Int) - (s : Int) := u64 (by omega) (by omega)
  have hq : IntKind.u64.wrap (Int.tdiv u (y' / 4294967296)) = u / (y' / 4294967296) := by rw [Int.tdiv_eq_ediv_of_nonneg hu0]; exact u64 a6 (by omega)
  have hrm : IntKind.u64.wrap (u - IntKind.u64.wrap (u / (y' / 4294967296) * (y' / 4294967296))) = u % (y' / 4294967296) := by rw [u64m, u64m]; omega
  have d1 : ¬ y = 0 := by omega
  have d2 : ¬ y ≤ hi := by omega
  have d3 : ¬ y' / 4294967296 = 0 := by omega
  have d4 : 0 ≤ (64 : Int) - (s : Int) := by omega
  unfold bits_Div64.f
  rw [if_neg d1, if_neg d2, if_neg hz, hk', Option.bind_some, us, us2, if_pos (Int.natCast_nonneg _), if_pos d4, f1, if_neg d3, f2, f3, f4, f5, f6, f7, hq, hrm]
end Go.Proofs.Ytbmddlldadbfnaa.BM
end
section
namespace Go.Proofs.Ytbmddlldadbfnaa.BM
open Go.RowKit Go.Proofs.YtbmddlldadbfnaaW.PrintWords Go.Proofs.YtbmddlldadbfnaaW.PrintLast Go.Proofs.YtbmddlldadbfnaaW.PrintMore
open Go.Proofs.Ytbmddlldadbfnaa.BA
theorem short_step (k : Nat) (l x6 : List Int) (d r : Int) (i : Nat) (q r' : Int) (hi : i < l.length) (h6 : i < x6.length) (hl : l.length < 1099511627776) (hd : bits_Div64.f k r (rd l i) d = some (q, r')) :
  big_short.l0 (k + 1) l d x6 r i = big_short.l0 k l d (x6.set i q) r' ((i : Int) - 1) := by
 have e : wrap64 ((i : Int) - 1) = (i : Int) - 1 := w64 (by omega) (by omega)
 rw [big_short.l0, if_pos (Int.natCast_nonneg _), if_pos (Int.natCast_nonneg _), if_pos (Int.ofNat_lt.2 hi), hd, Option.bind_some]
 show (if (i : Int) < (x6.length : Int) then _ else none) = _
 rw [if_pos (Int.ofNat_lt.2 h6), e]
 rfl
theorem short_alg (W vq d rem a q r' : Int) (h : rem * W + a = q * d + r') : a + W * (vq * d + rem) = (q + W * vq) * d + r' := by
 have : a + W * (vq * d + rem) = (rem * W + a) + W * vq * d := by grind
 rw [this, h]
 grind
theorem set_rep (i : Nat) (d : Int) (q : List Int) : (List.replicate (i + 1) 0 ++ q).set i d = List.replicate i 0 ++ (d :: q) := by
 rw [List.set_append_left _ _ (by simp), List.replicate_succ']
 have : (List.replicate i (0 : Int) ++ [0]).set i d = List.replicate i 0 ++ [d] := by
  have h := List.set_append_right (s := List.replicate i (0 : Int)) (t := [0]) i d (by simp)
  rw [h]; simp
 rw [this]; simp
theorem short_loop {l : List Int} (hdl : Dig 18446744073709551616 l) (hl : l.length < 100000000) {d : Int} (hd0 : 0 < d) (hd : d < 18446744073709551616) : ∀ (i : Nat) (q : List Int) (rem : Int),
  i ≤ l.length → q.length = l.length - i → Dig 18446744073709551616 q → 0 ≤ rem → rem < d → V 18446744073709551616 (l.drop i) = V 18446744073709551616 q * d + rem →
  ∃ t r, Ev (fun k => big_short.l0 k l d (List.replicate i 0 ++ q) rem ((i : Int) - 1)) (t, r) ∧ Can 18446744073709551616 t (V 18446744073709551616 l / d) ∧ r = V 18446744073709551616 l % d := by
 intro i
 induction i with
 | zero =>
  intro q rem hi hq hdq hr0 hr hv
  rw [List.drop_zero] at hv
  have e1 : V 18446744073709551616 l / d = V 18446744073709551616 q := by
   rw [hv, Int.add_comm, Int.add_mul_ediv_right _ _ (by omega), Int.ediv_eq_zero_of_lt hr0 hr, Int.zero_add]
  have e2 : V 18446744073709551616 l % d = rem := by
   rw [hv, Int.add_comm, Int.add_mul_emod_self_right, Int.emod_eq_of_lt hr0 hr]
  obtain ⟨t, ht, hc, _⟩ := trim_ev 18446744073709551616 q.length (l := q) (n := V 18446744073709551616 q) rfl (by omega) ⟨hdq, rfl⟩
  refine ⟨t, rem, Ev.succ (Ev.congr (Ev.bind (g := fun _ t121 => some (t121, rem)) ht (Ev.pure _)) fun k => ?_), by rw [e1]; exact hc, e2.symm⟩
  rw [big_short.l0, if_neg (by omega)]
  simp
 | succ i ih =>
  intro q rem hi hq hdq hr0 hr hv
  have ra := rd_dig hdl (i := (i : Int)) (by omega) (by omega)
  have hdiv := div64_ev (hi := rem) (lo := rd l (i : Int)) (y := d) hr0 hr hd ra.1 ra.2
  obtain ⟨Q, hQ⟩ : ∃ Q, Q = (rem * 18446744073709551616 + rd l (i : Int)) / d := ⟨_, rfl⟩
  obtain ⟨R, hR⟩ : ∃ R, R = (rem * 18446744073709551616 + rd l (i : Int)) % d := ⟨_, rfl⟩
  rw [← hQ, ← hR] at hdiv
  have hN : rem * 18446744073709551616 + rd l (i : Int) = Q * d + R := by have := Int.mul_ediv_add_emod (rem * 18446744073709551616 + rd l (i : Int)) d; rw [← hQ, ← hR, Int.mul_comm] at this; exact this.symm
  have hR0 : 0 ≤ R := by rw [hR]; exact Int.emod_nonneg _ (by omega)
  have hRd : R < d := by rw [hR]; exact Int.emod_lt_of_pos _ hd0
  have hQ0 : 0 ≤ Q := by rw [hQ]; exact Int.ediv_nonneg (by omega) (by omega)
  have hQW : Q < 18446744073709551616 := by
   rw [hQ, Int.ediv_lt_iff_lt_mul hd0]
   have := Int.mul_le_mul_of_nonneg_right (show rem + 1 ≤ d by omega) (show (0 : Int) ≤ 18446744073709551616 by omega)
   omega
  have hdrop : l.drop i = rd l (i : Int) :: l.drop (i + 1) := by rw [rd_nat l (by omega)]; exact List.drop_eq_getElem_cons (by omega)
  obtain ⟨t, r, he, hc, hrr⟩ := ih (Q :: q) R (by omega) (by simp; omega) (by
   intro a ha
   rcases List.mem_cons.1 ha with h | h
   ·subst h; exact ⟨hQ0, hQW⟩
   ·exact hdq a h) hR0 hRd (by
   rw [hdrop, V, V, hv]
   exact short_alg _ _ _ _ _ _ _ hN)
  refine ⟨t, r, Ev.succ (Late.step hdiv.late (fun k hk => ?_) he), hc, hrr⟩
  rw [show ((i + 1 : Nat) : Int) - 1 = (i : Int) by omega, short_step k l _ d rem i Q R (by omega) (by simp; omega) (by omega) hk, set_rep]
theorem short_ev {l : List Int} {n d : Int} (h : Can 18446744073709551616 l n) (hl : l.length < 100000000) (hd0 : 0 < d) (hd : d < 18446744073709551616) :
  ∃ t, Ev (fun k => big_short.f k l d) (t, n % d) ∧ Can 18446744073709551616 t (n / d) := by
 obtain ⟨t, r, he, hc, hr⟩ := short_loop h.1.1 hl hd0 hd l.length [] 0 (Nat.le_refl _) (by simp) (Dig_nil _) (by omega) (by omega) (by simp [V])
 rw [h.1.2] at hc hr
 subst hr
 refine ⟨t, Ev.congr he fun k => ?_, hc⟩
 have e : wrap64 ((l.length : Int) - 1) = (l.length : Int) - 1 := w64 (by omega) (by omega)
 have c : l.length ≤ 35184372088832 := by clear e; omega
 unfold big_short.f
 rw [if_pos (Int.natCast_nonneg _), Int.toNat_natCast, if_pos c, e]
 simp
theorem rev_step (k : Nat) (y : List Int) (i j : Nat) (h : i < j) (hj : j < y.length) (hl : y.length < 1099511627776) :
  sRev.l0 (k + 1) y i j = sRev.l0 k ((y.set i (rd y j)).set j (rd y i)) ((i + 1 : Nat) : Int) ((j : Int) - 1) := by
 have e1 : wrap64 ((i : Int) + 1) = ((i + 1 : Nat) : Int) := by rw [w64 (by omega) (by omega)]; omega
 have e2 : wrap64 ((j : Int) - 1) = (j : Int) - 1 := w64 (by omega) (by omega)
 have c : i < y.length := by clear e1 e2; omega
 rw [sRev.l0, if_pos (Int.ofNat_lt.2 h), if_pos (Int.natCast_nonneg _), if_pos (Int.ofNat_lt.2 hj), if_pos (Int.natCast_nonneg _), if_pos (Int.ofNat_lt.2 c), e1, e2, Int.toNat_natCast, Int.toNat_natCast]
theorem rev_loop (x : List Int) (hl : x.length < 1000000000000) : ∀ (m i : Nat) (y : List Int), x.length - 2 * i ≤ m → y.length = x.length → (∀ t : Nat, t < x.length → rd y (t : Int) = if t < i ∨ x.length ≤ t + i then rd x ((x.length - 1 - t : Nat) : Int) else rd x (t : Int)) →
  Ev (fun k => sRev.l0 k y i ((x.length : Int) - 1 - i)) x.reverse := by
 have fin : ∀ (i : Nat) (y : List Int), x.length ≤ 2 * i + 1 → y.length = x.length → (∀ t : Nat, t < x.length → rd y (t : Int) = if t < i ∨ x.length ≤ t + i then rd x ((x.length - 1 - t : Nat) : Int) else rd x (t : Int)) → Ev (fun k => sRev.l0 k y i ((x.length : Int) - 1 - i)) x.reverse := by
  intro i y hm hy hv
  refine Ev.succ (Ev.congr (Ev.pure _) fun k => ?_)
  rw [sRev.l0, if_neg (by omega)]
  congr 1
  apply List.ext_getElem
  ·simp [hy]
  ·intro t h1 h2
   have h := hv t (by omega)
   rw [rd_nat _ h1] at h
   rw [h, List.getElem_reverse]
   by_cases hc : t < i ∨ x.length ≤ t + i
   ·rw [if_pos hc, rd_nat _ (by omega)]
   ·rw [if_neg hc, rd_nat _ (by omega)]
    congr 1
    omega
 intro m
 induction m with
 | zero =>
  intro i y hm hy hv
  exact fin i y (by omega) hy hv
 | succ m ih =>
  intro i y hm hy hv
  by_cases hc : x.length ≤ 2 * i + 1
  ·exact fin i y hc hy hv
  ·obtain ⟨j, hj⟩ : ∃ j : Nat, j = x.length - 1 - i := ⟨_, rfl⟩
   have hij : i < j := by omega
   have hi := hv i (by omega)
   have hjv := hv j (by omega)
   rw [if_neg (by omega)] at hi hjv
   refine Ev.succ (Ev.congr (ih (i + 1) ((y.set i (rd y j)).set j (rd y i)) (by omega) (by simp [hy]) (fun t ht => ?_)) fun k => ?_)
   ·rw [rd_set _ _ _ _ (by simp; omega), rd_set _ _ _ _ (by omega)]
    by_cases h1 : t = j
    ·rw [if_pos h1, if_pos (by omega), hi, h1]
     congr 2
     omega
    ·rw [if_neg h1]
     by_cases h2 : t = i
     ·rw [if_pos h2, if_pos (by omega), hjv, h2]
      congr 2
     ·rw [if_neg h2, hv t ht]
      by_cases h3 : t < i ∨ x.length ≤ t + i
      ·rw [if_pos h3, if_pos (by omega)]
      ·rw [if_neg h3, if_neg (by omega)]
   ·rw [show (x.length : Int) - 1 - (i : Int) = (j : Int) by omega, rev_step k y i j hij (by omega) (by omega), show (j : Int) - 1 = (x.length : Int) - 1 - ((i + 1 : Nat) : Int) by omega]
theorem rev_ev (x : List Int) (hl : x.length < 1000000000000) : Ev (fun k => sRev.f k x) x.reverse := by
 have h := rev_loop x hl x.length 0 x (by omega) rfl (fun t ht => by rw [if_neg (by omega)])
 refine Ev.congr h fun k => ?_
 unfold sRev.f
 rw [w64 (by omega) (by omega)]
 simp
end Go.Proofs.Ytbmddlldadbfnaa.BM
end

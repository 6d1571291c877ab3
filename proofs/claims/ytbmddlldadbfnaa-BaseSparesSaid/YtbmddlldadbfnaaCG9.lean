/- Part of the proof that what is read twice of the text of a number of at most 40 limbs lies apart, spare room and all, and what is read a third time is what was read first. -/
import Derived.Test.YtbmddlldadbfnaaProg
import Derived.Below
import Derived.Deep.Draws
import Derived.Deep.AppendLies
import Derived.Maps.AppendAt
import Derived.OwnWalk
import Derived.Laws.BytesArg
import Derived.Laws.MakeOwn
import Derived.Laws.OwnMore
import Derived.Deep.OwnRows
import Derived.Tactics
import Derived.Lib.ConvBytes
import Derived.Laws.Slices
import Derived.WalkKit
import Derived.KernelRfl
import Derived.RowKit3
import Derived.Deep.LoopGhost
import Derived.Deep.QuietTactic
import Derived.BigQuiet
import Derived.WideLaws
import Derived.Deep.DeepCutAuto
import Derived.Deep.CutBlock
import Derived.Deep.RegionHeld3
import Derived.Laws.Rows
import Derived.Lib.AppendStr
import Derived.ArgAppend
import Derived.Laws.IdiomCopy
import Derived.OrdersHeld
import Derived.Laws.BitsLemmas
import Derived.RowKit
import Derived.Laws.MathBits
import Derived.Deep.DeepAppendRoom
import Derived.Test.YtbmddlldadbfnaaCG8
section
namespace Go.Proofs.Ytbmddlldadbfnaa.BB
open Go.RowKit Go.Proofs.Ytbmddlldadbfnaa.BA Go.Proofs.YtbmddlldadbfnaaW.PrintWords Go.Proofs.YtbmddlldadbfnaaW.PrintLast Go.Proofs.YtbmddlldadbfnaaW.PrintMore
attribute [local go_sem] ZU ZS max_two min_two ZP ZO ZT ZR
set_option linter.unusedVariables false
set_option linter.unusedSimpArgs false
attribute [local go_sem high] eqA35
def r00Num_Top.f (k : Nat) (a0_0 : Bool) (l0_1 : List Int) (a0_2 : Int) : Option (Int) := (r00NatBits.f k l0_1).bind fun t186 => (some (wrap64 (a0_2 + t186)))
theorem r00Num_Top.mono : ∀ a0 a1 a2 k, LeO (r00Num_Top.f k a0 a1 a2) (r00Num_Top.f (k + 1) a0 a1 a2) := by
 intro a0 a1 a2 k
 unfold r00Num_Top.f
 repeat' first
   | (with_reducible exact r00NatBits.mono _ _)
   | (with_reducible exact LeO.refl _)
   | (with_reducible exact LeO.none _)
   | (with_reducible refine LeO.ite ?_ ?_)
   | (with_reducible refine LeO.bind ?_ (fun _ => ?_))
   | exact r00NatBits.mono _ _
   | exact LeO.none _
   | refine LeO.ite ?_ ?_
   | refine LeO.bind ?_ (fun _ => ?_)
set_option maxHeartbeats 8000000 in
set_option maxRecDepth 100000 in
theorem r00Num_Top.calls (k : Nat) (a0_0 : Bool) (A0_1 : Option Addr) (c0_1 : Nat) (l0_1 : List Int) (a0_2 : Int) (r : Int) (w : World) (hr0_1 : Kd.C (Kd.int .u64) w A0_1 l0_1.length l0_1) (hc0_1 : l0_1.length ≤ c0_1) (h : r00Num_Top.f k a0_0 l0_1 a0_2 = some r) :
  Calls Try.prog 61 #[.agg #[.bool a0_0, .slice A0_1 l0_1.length c0_1, .int .i64 a0_2]] w fun e w' => e = .returned (.int .i64 r) ∧ Below w.heap.size w w' := by
 have hu48 := Try.underlying48
 have HR0_1 := Zb.mk hr0_1
 have HC0_1 := Zb.mk hc0_1
 clear hr0_1 hc0_1
 have HB := Zb.mk (Below.refl w.heap.size w)
 have H : ((r00NatBits.f k l0_1).bind fun t186 => (some (wrap64 (a0_2 + t186)))) = some r := h
 clear h
 replace H := Option.bind_eq_some_iff.mp H
 obtain ⟨t186, A20, H⟩ := H
 replace H : (some (wrap64 (a0_2 + t186))) = some r := H
 have A2 := Zb.mk A20
 clear A20
 obtain rfl := Option.some.inj H
 go_enter Try.func61, Try.ntmps61
 try go_wp2_with (first | ((with_reducible refine Zt (N := 1) rfl ?_); refine Zs ?hg (N := 1) ?hd (cs := #[.bool a0_0, .slice A0_1 l0_1.length c0_1, .int .i64 a0_2]) (t := 48) ?hr ?_; (case hd => rfl); (case hg => rfl); (case hr => first | (go_simp; done) | (go_simp; rfl)); intro gb185 hg w3 hbox hb; have n0_ := Zb.mk (Zl (by repeat (with_reducible first | exact HB.out | apply Zc | apply Za | apply Zd)) hb); have n1_ := Zb.mk (hbox); have n2_ := Zb.mk ((by rw [hg]; exact (Zi (by repeat (with_reducible first | exact HB.out | apply Zc | apply Za | apply Zd))) : w.heap.size ≤ gb185)); have n3_ := Zb.mk ((by rw [hg]; exact (Zi (by repeat (with_reducible first | exact HB.out | apply Zc | apply Za | apply Zd))) : w.heap.size ≤ gb185)); clear HB; have HB := n0_; have BK185 := n1_; have GW185 := n2_; have GE185 := n3_; clear n0_ n1_ n2_ n3_; clear hb hbox hg))
 have n0_ := Zb.mk (Zg BK185.out)
 have n1_ := Zb.mk (Zd HB.out)
 clear BK185
 clear HB
 have BK185 := n0_
 have HB := n1_
 clear n0_ n1_
 refine start_ (n := 7) (S := fun w' => w'.cell? ⟨gb185, 0, none⟩ = some (.bool a0_0) ∧ w'.cell? ⟨gb185, 1, none⟩ = some (.slice A0_1 l0_1.length c0_1) ∧ w'.cell? ⟨gb185, 2, none⟩ = some (.int .i64 a0_2)) (ds := []) #[false, false, false, false, false, false, false] (by kernel_rfl) rfl rfl ⟨(Zk BK185.out 0).trans rfl, (Zk BK185.out 1).trans rfl, (Zk BK185.out 2).trans rfl⟩ (fun hHeld => ?_)
 generalize w3.drew = w4 at BK185 HB hHeld ⊢
 refine ZM (i := 0) (N := some 3) (v := ?_) (a' := ?_) #[true, false, false, false, false, false, false] rfl rfl (by kernel_rfl) (fun _ _ _ h => h) (Or.inl ⟨by rfl, ?_⟩) ?_ ?_
 rotate_left
 ·intro w'
  go_simp
  with_reducible rfl
 rotate_left
 ·simp only [Act.put, List.setIfInBounds_toArray, List.set_cons_zero, List.set_cons_succ, Zx, ZA]
  rfl
 refine ZM (i := 2) (N := some 5) (v := ?_) (a' := ?_) #[true, false, true, false, false, false, false] rfl rfl (by kernel_rfl) (fun _ _ _ h => h) (Or.inl ⟨by rfl, ?_⟩) ?_ ?_
 rotate_left
 ·intro w'
  go_simp
  with_reducible rfl
 rotate_left
 ·simp only [Act.put, List.setIfInBounds_toArray, List.set_cons_zero, List.set_cons_succ, Zx, ZA]
  rfl
 refine take_ (i := 1) (N := some 4) (v := ?_) (a' := ?_) #[true, true, true, false, false, false, false] rfl rfl (by kernel_rfl) (fun _ _ _ h => h) (Or.inl ⟨by rfl, ?_⟩) hHeld ?_ ?_
 rotate_left
 ·rintro w' ⟨s0, s1, s2⟩
  go_simp
  with_reducible rfl
 rotate_left
 ·simp only [Act.put, List.setIfInBounds_toArray, List.set_cons_zero, List.set_cons_succ, Zx, ZA]
  rfl
 refine take_ (i := 3) (N := some 6) (v := ?_) (a' := ?_) #[true, true, true, true, false, false, false] rfl rfl (by kernel_rfl) (fun _ _ _ h => h) (Or.inl ⟨by rfl, ?_⟩) hHeld ?_ ?_
 rotate_left
 ·rintro w' ⟨s0, s1, s2⟩
  go_simp
  with_reducible rfl
 rotate_left
 ·simp only [Act.put, List.setIfInBounds_toArray, List.set_cons_zero, List.set_cons_succ, Zx, ZA]
  rfl
 refine one_ (i := 4) (N := some 7) #[true, true, true, true, true, false, false] rfl rfl (by kernel_rfl) (by decide) (fun K hK => ?_)
 refine goes_ Try.func80 (by kernel_rfl) rfl #[.slice A0_1 l0_1.length c0_1] (by rfl) rfl rfl (by (try simp only [List.map_toArray, List.map_cons, List.map_nil]); first | done | rfl | (simp only [List.length_drop, List.length_take]; rfl)) ?_
 with_reducible refine (r00NatBits.calls k _ _ l0_1 t186 _ ?side1 ?side2 A2.out).mono ?_
 (case side1 => repeat (first | exact (Kd.C_below HR0_1.out HB.out) | (with_reducible refine Kd.ZC ?_ _) | (with_reducible refine Kd.ZF ?_ _) | (with_reducible refine Kd.ZN ?_)))
 (case side2 => exact HC0_1.out)
 rintro e w5 ⟨rfl, hb⟩
 refine ⟨_, rfl, ?_⟩
 have n0_ := Zb.mk (Zn (g := gb185) (o := .cells #[.bool a0_0, .slice A0_1 l0_1.length c0_1, .int .i64 a0_2] 48 (0, 0)) (by (with_reducible repeat first | refine Ze ?_ _ | refine Zg ?_ | refine Zf ?_ _); exact BK185.out) hb)
 have n1_ := Zb.mk (Zl (by repeat (with_reducible first | exact HB.out | apply Zc | apply Za | apply Zd | refine Zh ?_ GE185.out)) hb)
 clear BK185
 clear HB
 have BK185 := n0_
 have HB := n1_
 clear n0_ n1_
 (try clear hb)
 (try clear hb2)
 (try clear hk)
 (try clear hi)
 refine hK.out _ _ ⟨(Zk BK185.out 0).trans rfl, (Zk BK185.out 1).trans rfl, (Zk BK185.out 2).trans rfl⟩ (fun hHeld => ?_)
 clear hK K
 refine norm_ (a' := ?_) ?_ ?_
 rotate_left
 ·show Act.put _ (some 7) _ = _
  simp only [Act.put, List.setIfInBounds_toArray, List.set_cons_zero, List.set_cons_succ, Zx, ZA]
  rfl
 refine ZM (i := 5) (N := some 8) (v := ?_) (a' := ?_) #[true, true, true, true, true, true, false] rfl rfl (by kernel_rfl) (fun _ _ _ h => h) (Or.inl ⟨by rfl, ?_⟩) ?_ ?_
 rotate_left
 ·intro w'
  go_simp
  with_reducible rfl
 rotate_left
 ·simp only [Act.put, List.setIfInBounds_toArray, List.set_cons_zero, List.set_cons_succ, Zx, ZA]
  rfl
 refine ZM (i := 6) (N := some 2) (v := ?_) (a' := ?_) #[true, true, true, true, true, true, true] rfl rfl (by kernel_rfl) (fun _ _ _ h => h) (Or.inl ⟨by rfl, ?_⟩) ?_ ?_
 rotate_left
 ·intro w'
  go_simp
  with_reducible rfl
 rotate_left
 ·simp only [Act.put, List.setIfInBounds_toArray, List.set_cons_zero, List.set_cons_succ, Zx, ZA]
  rfl
 refine done_ (by kernel_rfl) ?_
 try go_wp2
 go_ret
 exact ⟨by first | rfl | (simp [errW_none, errW_some] <;> rfl) | (simp [*, errW_none, errW_some] <;> rfl), by repeat (with_reducible first | exact HB.out | apply Zc | apply Za | apply Zd | refine Zh ?_ GE185.out)⟩
def r00TellInt.f (k : Nat) (a0_0 : Bool) (l0_1 : List Int) (a0_2 : Int) : Option (Bool × List Int × Bool) := (r00Num_Zero.f k a0_0 l0_1 a0_2).bind fun t189 => (if t189 = true then (some (false, ([] : List Int), true)) else ((r00Num_Top.f k a0_0 l0_1 a0_2).bind fun t190 => (if t190 > 262144 then (some (false, ([] : List Int), false)) else ((r00NatUp.f k l0_1 a0_2).bind fun t191 => (some (a0_0, t191, true))))))
theorem r00TellInt.mono : ∀ a0 a1 a2 k, LeO (r00TellInt.f k a0 a1 a2) (r00TellInt.f (k + 1) a0 a1 a2) := by
 intro a0 a1 a2 k
 unfold r00TellInt.f
 repeat' first
   | (with_reducible exact r00NatUp.mono _ _ _)
   | (with_reducible exact r00Num_Top.mono _ _ _ _)
   | (with_reducible exact r00Num_Zero.mono _ _ _ _)
   | (with_reducible exact LeO.refl _)
   | (with_reducible exact LeO.none _)
   | (with_reducible refine LeO.ite ?_ ?_)
   | (with_reducible refine LeO.bind ?_ (fun _ => ?_))
   | exact r00NatUp.mono _ _ _
   | exact r00Num_Top.mono _ _ _ _
   | exact r00Num_Zero.mono _ _ _ _
   | exact LeO.none _
   | refine LeO.ite ?_ ?_
   | refine LeO.bind ?_ (fun _ => ?_)
def r00TellInt.T5 : Bool × List (List Nat × List Nat) := (true, [([], []), ([0], [0]), ([], []), ([2], [2]), ([], []), ([4], [4]), ([3, 5], [3, 5]), ([1, 6], [1, 6]), ([7, 6, 0, 1, 2, 3, 4, 5, 6, 7], [7]), ([8, 0, 1, 2, 3, 4, 5, 6, 7, 8], [])])
def r00TellInt.B5 : List Nat := [0, 1, 0, 4, 0, 16, 60, 127, 255, 511]
theorem r00TellInt.tab5 : rtab .any (opsOf Try.f73 5) = r00TellInt.T5 := by kernel_rfl
theorem r00TellInt.bits5 : waitsOk r00TellInt.T5.2 r00TellInt.B5 = true := by kernel_rfl
set_option maxHeartbeats 8000000 in
set_option maxRecDepth 100000 in
theorem r00TellInt.calls (k : Nat) (a0_0 : Bool) (A0_1 : Option Addr) (c0_1 : Nat) (l0_1 : List Int) (a0_2 : Int) (r1 : Bool) (r2 : List Int) (r3 : Bool) (w : World) (hr0_1 : Kd.C (Kd.int .u64) w A0_1 l0_1.length l0_1) (hc0_1 : l0_1.length ≤ c0_1) (h : r00TellInt.f k a0_0 l0_1 a0_2 = some (r1, r2, r3)) :
  Calls Try.prog 73 #[.agg #[.bool a0_0, .slice A0_1 l0_1.length c0_1, .int .i64 a0_2]] w fun e w' => ∃ v1_ : Value, e = .returned (.tuple #[.agg #[.bool r1, v1_], .bool r3]) ∧ Kd.R (Kd.int .u64) 46 w' w.heap.size (fun _ => True) v1_ r2 ∧ Below w.heap.size w w' := by
 have hu48 := Try.underlying48
 have hu24 := Try.underlying24
 have HR0_1 := Zb.mk hr0_1
 have HC0_1 := Zb.mk hc0_1
 clear hr0_1 hc0_1
 have HB := Zb.mk (Below.refl w.heap.size w)
 have H : ((r00Num_Zero.f k a0_0 l0_1 a0_2).bind fun t189 => (if t189 = true then (some (false, ([] : List Int), true)) else ((r00Num_Top.f k a0_0 l0_1 a0_2).bind fun t190 => (if t190 > 262144 then (some (false, ([] : List Int), false)) else ((r00NatUp.f k l0_1 a0_2).bind fun t191 => (some (a0_0, t191, true))))))) = some (r1, r2, r3) := h
 clear h
 replace H := Option.bind_eq_some_iff.mp H
 obtain ⟨t189, A20, H⟩ := H
 replace H : (if t189 = true then (some (false, ([] : List Int), true)) else ((r00Num_Top.f k a0_0 l0_1 a0_2).bind fun t190 => (if t190 > 262144 then (some (false, ([] : List Int), false)) else ((r00NatUp.f k l0_1 a0_2).bind fun t191 => (some (a0_0, t191, true)))))) = some (r1, r2, r3) := H
 have A2 := Zb.mk A20
 clear A20
 by_cases c3 : t189 = true
 ·subst c3
  have H1 : (some (false, ([] : List Int), true)) = some (r1, r2, r3) := by rw [if_pos rfl] at H; exact H
  clear H
  have H := H1
  clear H1
  simp only [Option.some.injEq, Prod.mk.injEq] at H
  obtain ⟨rfl, rfl, rfl⟩ := H
  go_enter Try.func73, Try.ntmps73
  go_wp2_with (first | ((with_reducible refine Zt (N := 1) rfl ?_); refine Zs ?hg (N := 1) ?hd (cs := #[.bool a0_0, .slice A0_1 l0_1.length c0_1, .int .i64 a0_2]) (t := 48) ?hr ?_; (case hd => rfl); (case hg => rfl); (case hr => first | (go_simp; done) | (go_simp; rfl)); intro gb187 hg w4 hbox hb; have n0_ := Zb.mk (Zl (by repeat (with_reducible first | exact HB.out | apply Zc | apply Za | apply Zd)) hb); have n1_ := Zb.mk (hbox); have n2_ := Zb.mk ((by rw [hg]; exact (Zi (by repeat (with_reducible first | exact HB.out | apply Zc | apply Za | apply Zd))) : w.heap.size ≤ gb187)); have n3_ := Zb.mk ((by rw [hg]; exact (Zi (by repeat (with_reducible first | exact HB.out | apply Zc | apply Za | apply Zd))) : w.heap.size ≤ gb187)); clear HB; have HB := n0_; have BK187 := n1_; have GW187 := n2_; have GE187 := n3_; clear n0_ n1_ n2_ n3_; clear hb hbox hg) | ((with_reducible refine Zt (N := 2) rfl ?_); refine Zs ?hg (N := 2) ?hd (cs := #[.bool false, .slice none 0 0]) (t := 24) ?hr ?_; (case hd => rfl); (case hg => rfl); (case hr => first | (go_simp; done) | (go_simp; rfl)); intro gb188 hg w5 hbox hb; have n0_ := Zb.mk (Zn (g := gb187) (o := .cells #[.bool a0_0, .slice A0_1 l0_1.length c0_1, .int .i64 a0_2] 48 (0, 0)) (by (with_reducible repeat first | refine Ze ?_ _ | refine Zg ?_ | refine Zf ?_ _); exact BK187.out) hb); have n1_ := Zb.mk (Zl (by repeat (with_reducible first | exact HB.out | apply Zc | apply Za | apply Zd | refine Zh ?_ GE187.out)) hb); have n2_ := Zb.mk (hbox); have n3_ := Zb.mk ((by rw [hg]; exact (Zi (by repeat (with_reducible first | exact HB.out | apply Zc | apply Za | apply Zd | refine Zh ?_ GE187.out))) : w.heap.size ≤ gb188)); have n4_ := Zb.mk ((by rw [hg]; exact (Zi (by repeat (with_reducible first | exact HB.out | apply Zc | apply Za | apply Zd | refine Zh ?_ GE187.out))) : w.heap.size ≤ gb188)); have n5_ := Zb.mk ((by rw [hg]; exact Nat.ne_of_lt (Zw (g := gb187) (o := .cells #[.bool a0_0, .slice A0_1 l0_1.length c0_1, .int .i64 a0_2] 48 (0, 0)) (by (with_reducible repeat first | refine Ze ?_ _ | refine Zg ?_ | refine Zf ?_ _); exact BK187.out)) : gb187 ≠ gb188)); have n6_ := Zb.mk ((by rw [hg]; exact Nat.ne_of_gt (Zw (g := gb187) (o := .cells #[.bool a0_0, .slice A0_1 l0_1.length c0_1, .int .i64 a0_2] 48 (0, 0)) (by (with_reducible repeat first | refine Ze ?_ _ | refine Zg ?_ | refine Zf ?_ _); exact BK187.out)) : gb188 ≠ gb187)); clear BK187; clear HB; have BK187 := n0_; have HB := n1_; have BK188 := n2_; have GW188 := n3_; have GE188 := n4_; have NB187_188 := n5_; have NB188_187 := n6_; clear n0_ n1_ n2_ n3_ n4_ n5_ n6_; clear hb hbox hg; have hnb6 := NB187_188.out; have hnc6 := NB188_187.out; have hcz7_0 : w5.cell? ⟨gb187, 0, none⟩ = some (.bool a0_0) := (Zk BK187.out 0).trans rfl; have hcz7_1 : w5.cell? ⟨gb187, 1, none⟩ = some (.slice A0_1 l0_1.length c0_1) := (Zk BK187.out 1).trans rfl; have hcz7_2 : w5.cell? ⟨gb187, 2, none⟩ = some (.int .i64 a0_2) := (Zk BK187.out 2).trans rfl; have hfz7_0 := Zj BK187.out 0; have hfz7_1 := Zj BK187.out 1; have hfz7_2 := Zj BK187.out 2) | ((with_reducible refine Zp (f := 54) rfl ?_); refine ZB (some 5) rfl rfl Try.func54 (by kernel_rfl) rfl #[.agg #[.bool a0_0, .slice A0_1 l0_1.length c0_1, .int .i64 a0_2]] rfl (by (try simp only [List.map_toArray, List.map_cons, List.map_nil]); first | done | rfl | (simp only [List.length_drop, List.length_take]; rfl)) ?_; (with_reducible refine (r00Num_Zero.calls k a0_0 _ _ l0_1 a0_2 true _ ?side1 ?side2 A2.out).mono ?_); (case side1 => repeat (first | exact (Kd.C_below HR0_1.out HB.out) | (with_reducible refine Kd.ZC ?_ _) | (with_reducible refine Kd.ZF ?_ _) | (with_reducible refine Kd.ZN ?_))); (case side2 => exact HC0_1.out); rintro e w8 ⟨rfl, hb⟩; refine ⟨_, rfl, ?_⟩; have n0_ := Zb.mk (Zn (g := gb187) (o := .cells #[.bool a0_0, .slice A0_1 l0_1.length c0_1, .int .i64 a0_2] 48 (0, 0)) (by (with_reducible repeat first | refine Ze ?_ _ | refine Zg ?_ | refine Zf ?_ _); exact BK187.out) hb); have n1_ := Zb.mk (Zn (g := gb188) (o := .cells #[.bool false, .slice none 0 0] 24 (0, 0)) (by (with_reducible repeat first | refine Ze ?_ _ | refine Zg ?_ | refine Zf ?_ _); exact BK188.out) hb); have n2_ := Zb.mk (Zl (by repeat (with_reducible first | exact HB.out | apply Zc | apply Za | apply Zd | refine Zh ?_ GE187.out | refine Zh ?_ GE188.out)) hb); clear BK187; clear BK188; clear HB; have BK187 := n0_; have BK188 := n1_; have HB := n2_; clear n0_ n1_ n2_; (try clear hb); (try clear hb2); (try clear hk); (try clear hi); have hcz9_0 : w8.cell? ⟨gb188, 0, none⟩ = some (.bool false) := (Zk BK188.out 0).trans rfl; have hcz9_1 : w8.cell? ⟨gb188, 1, none⟩ = some (.slice none 0 0) := (Zk BK188.out 1).trans rfl; have hfz9_0 := Zj BK188.out 0; have hfz9_1 := Zj BK188.out 1))
  refine bodyPost_ret (results_ct rfl _ _ gb188 24 #[.bool false, .slice none 0 0] (0, 0) _ rfl (by (with_reducible repeat first | refine Ze ?_ _ | refine Zg ?_ | refine Zf ?_ _); refine Zu (cs := #[.bool false, .slice none 0 0]) ?_ 1 _ rfl; (with_reducible repeat first | refine Ze ?_ _ | refine Zg ?_ | refine Zf ?_ _); refine Zu (cs := #[.bool false, .slice none 0 0]) ?_ 0 _ rfl; (with_reducible repeat first | refine Ze ?_ _ | refine Zg ?_ | refine Zf ?_ _); exact BK188.out) Try.underlying24 rfl (by kernel_rfl)) rfl ?_
  exact ⟨_, by first | rfl | (simp [errW_none, errW_some] <;> rfl) | (simp [*, errW_none, errW_some] <;> rfl), by first | exact Kd.R_nil _ _ _ _ _ | exact Kd.V_nil _ _ _ _ _ | exact Kd.S_nil _ _ _ _ _, by repeat (with_reducible first | exact HB.out | apply Zc | apply Za | apply Zd | refine Zh ?_ GE187.out | refine Zh ?_ GE188.out)⟩
 ·replace c3 := Bool.eq_false_iff.mpr c3
  subst c3
  have H1 : ((r00Num_Top.f k a0_0 l0_1 a0_2).bind fun t190 => (if t190 > 262144 then (some (false, ([] : List Int), false)) else ((r00NatUp.f k l0_1 a0_2).bind fun t191 => (some (a0_0, t191, true))))) = some (r1, r2, r3) := by rw [if_neg (show ¬ (false = true) by decide)] at H; exact H
  clear H
  have H := H1
  clear H1
  replace H := Option.bind_eq_some_iff.mp H
  obtain ⟨t190, A100, H⟩ := H
  replace H : (if t190 > 262144 then (some (false, ([] : List Int), false)) else ((r00NatUp.f k l0_1 a0_2).bind fun t191 => (some (a0_0, t191, true)))) = some (r1, r2, r3) := H
  have A10 := Zb.mk A100
  clear A100
  by_cases c11 : t190 > 262144
  ·rw [if_pos c11] at H
   have c11b0 : decide (262144 < t190) = true := decide_eq_true c11
   clear c11
   simp only [Option.some.injEq, Prod.mk.injEq] at H
   obtain ⟨rfl, rfl, rfl⟩ := H
   go_enter Try.func73, Try.ntmps73
   go_wp2_with (first | ((with_reducible refine Zt (N := 1) rfl ?_); refine Zs ?hg (N := 1) ?hd (cs := #[.bool a0_0, .slice A0_1 l0_1.length c0_1, .int .i64 a0_2]) (t := 48) ?hr ?_; (case hd => rfl); (case hg => rfl); (case hr => first | (go_simp; done) | (go_simp; rfl)); intro gb187 hg w12 hbox hb; have n0_ := Zb.mk (Zl (by repeat (with_reducible first | exact HB.out | apply Zc | apply Za | apply Zd)) hb); have n1_ := Zb.mk (hbox); have n2_ := Zb.mk ((by rw [hg]; exact (Zi (by repeat (with_reducible first | exact HB.out | apply Zc | apply Za | apply Zd))) : w.heap.size ≤ gb187)); have n3_ := Zb.mk ((by rw [hg]; exact (Zi (by repeat (with_reducible first | exact HB.out | apply Zc | apply Za | apply Zd))) : w.heap.size ≤ gb187)); clear HB; have HB := n0_; have BK187 := n1_; have GW187 := n2_; have GE187 := n3_; clear n0_ n1_ n2_ n3_; clear hb hbox hg) | ((with_reducible refine Zt (N := 2) rfl ?_); refine Zs ?hg (N := 2) ?hd (cs := #[.bool false, .slice none 0 0]) (t := 24) ?hr ?_; (case hd => rfl); (case hg => rfl); (case hr => first | (go_simp; done) | (go_simp; rfl)); intro gb188 hg w13 hbox hb; have n0_ := Zb.mk (Zn (g := gb187) (o := .cells #[.bool a0_0, .slice A0_1 l0_1.length c0_1, .int .i64 a0_2] 48 (0, 0)) (by (with_reducible repeat first | refine Ze ?_ _ | refine Zg ?_ | refine Zf ?_ _); exact BK187.out) hb); have n1_ := Zb.mk (Zl (by repeat (with_reducible first | exact HB.out | apply Zc | apply Za | apply Zd | refine Zh ?_ GE187.out)) hb); have n2_ := Zb.mk (hbox); have n3_ := Zb.mk ((by rw [hg]; exact (Zi (by repeat (with_reducible first | exact HB.out | apply Zc | apply Za | apply Zd | refine Zh ?_ GE187.out))) : w.heap.size ≤ gb188)); have n4_ := Zb.mk ((by rw [hg]; exact (Zi (by repeat (with_reducible first | exact HB.out | apply Zc | apply Za | apply Zd | refine Zh ?_ GE187.out))) : w.heap.size ≤ gb188)); have n5_ := Zb.mk ((by rw [hg]; exact Nat.ne_of_lt (Zw (g := gb187) (o := .cells #[.bool a0_0, .slice A0_1 l0_1.length c0_1, .int .i64 a0_2] 48 (0, 0)) (by (with_reducible repeat first | refine Ze ?_ _ | refine Zg ?_ | refine Zf ?_ _); exact BK187.out)) : gb187 ≠ gb188)); have n6_ := Zb.mk ((by rw [hg]; exact Nat.ne_of_gt (Zw (g := gb187) (o := .cells #[.bool a0_0, .slice A0_1 l0_1.length c0_1, .int .i64 a0_2] 48 (0, 0)) (by (with_reducible repeat first | refine Ze ?_ _ | refine Zg ?_ | refine Zf ?_ _); exact BK187.out)) : gb188 ≠ gb187)); clear BK187; clear HB; have BK187 := n0_; have HB := n1_; have BK188 := n2_; have GW188 := n3_; have GE188 := n4_; have NB187_188 := n5_; have NB188_187 := n6_; clear n0_ n1_ n2_ n3_ n4_ n5_ n6_; clear hb hbox hg; have hnb14 := NB187_188.out; have hnc14 := NB188_187.out; have hcz15_0 : w13.cell? ⟨gb187, 0, none⟩ = some (.bool a0_0) := (Zk BK187.out 0).trans rfl; have hcz15_1 : w13.cell? ⟨gb187, 1, none⟩ = some (.slice A0_1 l0_1.length c0_1) := (Zk BK187.out 1).trans rfl; have hcz15_2 : w13.cell? ⟨gb187, 2, none⟩ = some (.int .i64 a0_2) := (Zk BK187.out 2).trans rfl; have hfz15_0 := Zj BK187.out 0; have hfz15_1 := Zj BK187.out 1; have hfz15_2 := Zj BK187.out 2) | ((with_reducible refine Zp (f := 54) rfl ?_); refine ZB (some 5) rfl rfl Try.func54 (by kernel_rfl) rfl #[.agg #[.bool a0_0, .slice A0_1 l0_1.length c0_1, .int .i64 a0_2]] rfl (by (try simp only [List.map_toArray, List.map_cons, List.map_nil]); first | done | rfl | (simp only [List.length_drop, List.length_take]; rfl)) ?_; (with_reducible refine (r00Num_Zero.calls k a0_0 _ _ l0_1 a0_2 false _ ?side1 ?side2 A2.out).mono ?_); (case side1 => repeat (first | exact (Kd.C_below HR0_1.out HB.out) | (with_reducible refine Kd.ZC ?_ _) | (with_reducible refine Kd.ZF ?_ _) | (with_reducible refine Kd.ZN ?_))); (case side2 => exact HC0_1.out); rintro e w16 ⟨rfl, hb⟩; refine ⟨_, rfl, ?_⟩; have n0_ := Zb.mk (Zn (g := gb187) (o := .cells #[.bool a0_0, .slice A0_1 l0_1.length c0_1, .int .i64 a0_2] 48 (0, 0)) (by (with_reducible repeat first | refine Ze ?_ _ | refine Zg ?_ | refine Zf ?_ _); exact BK187.out) hb); have n1_ := Zb.mk (Zn (g := gb188) (o := .cells #[.bool false, .slice none 0 0] 24 (0, 0)) (by (with_reducible repeat first | refine Ze ?_ _ | refine Zg ?_ | refine Zf ?_ _); exact BK188.out) hb); have n2_ := Zb.mk (Zl (by repeat (with_reducible first | exact HB.out | apply Zc | apply Za | apply Zd | refine Zh ?_ GE187.out | refine Zh ?_ GE188.out)) hb); clear BK187; clear BK188; clear HB; have BK187 := n0_; have BK188 := n1_; have HB := n2_; clear n0_ n1_ n2_; (try clear hb); (try clear hb2); (try clear hk); (try clear hi); have hcz17_0 : w16.cell? ⟨gb187, 0, none⟩ = some (.bool a0_0) := (Zk BK187.out 0).trans rfl; have hcz17_1 : w16.cell? ⟨gb187, 1, none⟩ = some (.slice A0_1 l0_1.length c0_1) := (Zk BK187.out 1).trans rfl; have hcz17_2 : w16.cell? ⟨gb187, 2, none⟩ = some (.int .i64 a0_2) := (Zk BK187.out 2).trans rfl; have hfz17_0 := Zj BK187.out 0; have hfz17_1 := Zj BK187.out 1; have hfz17_2 := Zj BK187.out 2) | ((with_reducible refine Zp (f := 61) rfl ?_); refine ZB (some 8) rfl rfl Try.func61 (by kernel_rfl) rfl #[.agg #[.bool a0_0, .slice A0_1 l0_1.length c0_1, .int .i64 a0_2]] rfl (by (try simp only [List.map_toArray, List.map_cons, List.map_nil]); first | done | rfl | (simp only [List.length_drop, List.length_take]; rfl)) ?_; (with_reducible refine (r00Num_Top.calls k a0_0 _ _ l0_1 a0_2 t190 _ ?side1 ?side2 A10.out).mono ?_); (case side1 => repeat (first | exact (Kd.C_below HR0_1.out HB.out) | (with_reducible refine Kd.ZC ?_ _) | (with_reducible refine Kd.ZF ?_ _) | (with_reducible refine Kd.ZN ?_))); (case side2 => exact HC0_1.out); rintro e w18 ⟨rfl, hb⟩; refine ⟨_, rfl, ?_⟩; have n0_ := Zb.mk (Zn (g := gb187) (o := .cells #[.bool a0_0, .slice A0_1 l0_1.length c0_1, .int .i64 a0_2] 48 (0, 0)) (by (with_reducible repeat first | refine Ze ?_ _ | refine Zg ?_ | refine Zf ?_ _); exact BK187.out) hb); have n1_ := Zb.mk (Zn (g := gb188) (o := .cells #[.bool false, .slice none 0 0] 24 (0, 0)) (by (with_reducible repeat first | refine Ze ?_ _ | refine Zg ?_ | refine Zf ?_ _); exact BK188.out) hb); have n2_ := Zb.mk (Zl (by repeat (with_reducible first | exact HB.out | apply Zc | apply Za | apply Zd | refine Zh ?_ GE187.out | refine Zh ?_ GE188.out)) hb); clear BK187; clear BK188; clear HB; have BK187 := n0_; have BK188 := n1_; have HB := n2_; clear n0_ n1_ n2_; (try clear hb); (try clear hb2); (try clear hk); (try clear hi); have hcz19_0 : w18.cell? ⟨gb188, 0, none⟩ = some (.bool false) := (Zk BK188.out 0).trans rfl; have hcz19_1 : w18.cell? ⟨gb188, 1, none⟩ = some (.slice none 0 0) := (Zk BK188.out 1).trans rfl; have hfz19_0 := Zj BK188.out 0; have hfz19_1 := Zj BK188.out 1))
   refine bodyPost_ret (results_ct rfl _ _ gb188 24 #[.bool false, .slice none 0 0] (0, 0) _ rfl (by (with_reducible repeat first | refine Ze ?_ _ | refine Zg ?_ | refine Zf ?_ _); refine Zu (cs := #[.bool false, .slice none 0 0]) ?_ 1 _ rfl; (with_reducible repeat first | refine Ze ?_ _ | refine Zg ?_ | refine Zf ?_ _); refine Zu (cs := #[.bool false, .slice none 0 0]) ?_ 0 _ rfl; (with_reducible repeat first | refine Ze ?_ _ | refine Zg ?_ | refine Zf ?_ _); exact BK188.out) Try.underlying24 rfl (by kernel_rfl)) rfl ?_
   exact ⟨_, by first | rfl | (simp [errW_none, errW_some] <;> rfl) | (simp [*, errW_none, errW_some] <;> rfl), by first | exact Kd.R_nil _ _ _ _ _ | exact Kd.V_nil _ _ _ _ _ | exact Kd.S_nil _ _ _ _ _, by repeat (with_reducible first | exact HB.out | apply Zc | apply Za | apply Zd | refine Zh ?_ GE187.out | refine Zh ?_ GE188.out)⟩
  ·rw [if_neg c11] at H
   have c11b0 : decide (262144 < t190) = false := decide_eq_false c11
   clear c11
   replace H := Option.bind_eq_some_iff.mp H
   obtain ⟨t191, A200, H⟩ := H
   replace H : (some (a0_0, t191, true)) = some (r1, r2, r3) := H
   have A20 := Zb.mk A200
   clear A200
   simp only [Option.some.injEq, Prod.mk.injEq] at H
   obtain ⟨rfl, rfl, rfl⟩ := H
   go_enter Try.func73, Try.ntmps73
   try go_wp2_with (first | ((with_reducible refine Zt (N := 1) rfl ?_); refine Zs ?hg (N := 1) ?hd (cs := #[.bool a0_0, .slice A0_1 l0_1.length c0_1, .int .i64 a0_2]) (t := 48) ?hr ?_; (case hd => rfl); (case hg => rfl); (case hr => first | (go_simp; done) | (go_simp; rfl)); intro gb187 hg w21 hbox hb; have n0_ := Zb.mk (Zl (by repeat (with_reducible first | exact HB.out | apply Zc | apply Za | apply Zd)) hb); have n1_ := Zb.mk (hbox); have n2_ := Zb.mk ((by rw [hg]; exact (Zi (by repeat (with_reducible first | exact HB.out | apply Zc | apply Za | apply Zd))) : w.heap.size ≤ gb187)); have n3_ := Zb.mk ((by rw [hg]; exact (Zi (by repeat (with_reducible first | exact HB.out | apply Zc | apply Za | apply Zd))) : w.heap.size ≤ gb187)); clear HB; have HB := n0_; have BK187 := n1_; have GW187 := n2_; have GE187 := n3_; clear n0_ n1_ n2_ n3_; clear hb hbox hg) | ((with_reducible refine Zt (N := 2) rfl ?_); refine Zs ?hg (N := 2) ?hd (cs := #[.bool false, .slice none 0 0]) (t := 24) ?hr ?_; (case hd => rfl); (case hg => rfl); (case hr => first | (go_simp; done) | (go_simp; rfl)); intro gb188 hg w22 hbox hb; have n0_ := Zb.mk (Zn (g := gb187) (o := .cells #[.bool a0_0, .slice A0_1 l0_1.length c0_1, .int .i64 a0_2] 48 (0, 0)) (by (with_reducible repeat first | refine Ze ?_ _ | refine Zg ?_ | refine Zf ?_ _); exact BK187.out) hb); have n1_ := Zb.mk (Zl (by repeat (with_reducible first | exact HB.out | apply Zc | apply Za | apply Zd | refine Zh ?_ GE187.out)) hb); have n2_ := Zb.mk (hbox); have n3_ := Zb.mk ((by rw [hg]; exact (Zi (by repeat (with_reducible first | exact HB.out | apply Zc | apply Za | apply Zd | refine Zh ?_ GE187.out))) : w.heap.size ≤ gb188)); have n4_ := Zb.mk ((by rw [hg]; exact (Zi (by repeat (with_reducible first | exact HB.out | apply Zc | apply Za | apply Zd | refine Zh ?_ GE187.out))) : w.heap.size ≤ gb188)); have n5_ := Zb.mk ((by rw [hg]; exact Nat.ne_of_lt (Zw (g := gb187) (o := .cells #[.bool a0_0, .slice A0_1 l0_1.length c0_1, .int .i64 a0_2] 48 (0, 0)) (by (with_reducible repeat first | refine Ze ?_ _ | refine Zg ?_ | refine Zf ?_ _); exact BK187.out)) : gb187 ≠ gb188)); have n6_ := Zb.mk ((by rw [hg]; exact Nat.ne_of_gt (Zw (g := gb187) (o := .cells #[.bool a0_0, .slice A0_1 l0_1.length c0_1, .int .i64 a0_2] 48 (0, 0)) (by (with_reducible repeat first | refine Ze ?_ _ | refine Zg ?_ | refine Zf ?_ _); exact BK187.out)) : gb188 ≠ gb187)); clear BK187; clear HB; have BK187 := n0_; have HB := n1_; have BK188 := n2_; have GW188 := n3_; have GE188 := n4_; have NB187_188 := n5_; have NB188_187 := n6_; clear n0_ n1_ n2_ n3_ n4_ n5_ n6_; clear hb hbox hg; have hnb23 := NB187_188.out; have hnc23 := NB188_187.out; have hcz24_0 : w22.cell? ⟨gb187, 0, none⟩ = some (.bool a0_0) := (Zk BK187.out 0).trans rfl; have hcz24_1 : w22.cell? ⟨gb187, 1, none⟩ = some (.slice A0_1 l0_1.length c0_1) := (Zk BK187.out 1).trans rfl; have hcz24_2 : w22.cell? ⟨gb187, 2, none⟩ = some (.int .i64 a0_2) := (Zk BK187.out 2).trans rfl; have hfz24_0 := Zj BK187.out 0; have hfz24_1 := Zj BK187.out 1; have hfz24_2 := Zj BK187.out 2) | ((with_reducible refine Zp (f := 54) rfl ?_); refine ZB (some 5) rfl rfl Try.func54 (by kernel_rfl) rfl #[.agg #[.bool a0_0, .slice A0_1 l0_1.length c0_1, .int .i64 a0_2]] rfl (by (try simp only [List.map_toArray, List.map_cons, List.map_nil]); first | done | rfl | (simp only [List.length_drop, List.length_take]; rfl)) ?_; (with_reducible refine (r00Num_Zero.calls k a0_0 _ _ l0_1 a0_2 false _ ?side1 ?side2 A2.out).mono ?_); (case side1 => repeat (first | exact (Kd.C_below HR0_1.out HB.out) | (with_reducible refine Kd.ZC ?_ _) | (with_reducible refine Kd.ZF ?_ _) | (with_reducible refine Kd.ZN ?_))); (case side2 => exact HC0_1.out); rintro e w25 ⟨rfl, hb⟩; refine ⟨_, rfl, ?_⟩; have n0_ := Zb.mk (Zn (g := gb187) (o := .cells #[.bool a0_0, .slice A0_1 l0_1.length c0_1, .int .i64 a0_2] 48 (0, 0)) (by (with_reducible repeat first | refine Ze ?_ _ | refine Zg ?_ | refine Zf ?_ _); exact BK187.out) hb); have n1_ := Zb.mk (Zn (g := gb188) (o := .cells #[.bool false, .slice none 0 0] 24 (0, 0)) (by (with_reducible repeat first | refine Ze ?_ _ | refine Zg ?_ | refine Zf ?_ _); exact BK188.out) hb); have n2_ := Zb.mk (Zl (by repeat (with_reducible first | exact HB.out | apply Zc | apply Za | apply Zd | refine Zh ?_ GE187.out | refine Zh ?_ GE188.out)) hb); clear BK187; clear BK188; clear HB; have BK187 := n0_; have BK188 := n1_; have HB := n2_; clear n0_ n1_ n2_; (try clear hb); (try clear hb2); (try clear hk); (try clear hi); have hcz26_0 : w25.cell? ⟨gb187, 0, none⟩ = some (.bool a0_0) := (Zk BK187.out 0).trans rfl; have hcz26_1 : w25.cell? ⟨gb187, 1, none⟩ = some (.slice A0_1 l0_1.length c0_1) := (Zk BK187.out 1).trans rfl; have hcz26_2 : w25.cell? ⟨gb187, 2, none⟩ = some (.int .i64 a0_2) := (Zk BK187.out 2).trans rfl; have hfz26_0 := Zj BK187.out 0; have hfz26_1 := Zj BK187.out 1; have hfz26_2 := Zj BK187.out 2) | ((with_reducible refine Zp (f := 61) rfl ?_); refine ZB (some 8) rfl rfl Try.func61 (by kernel_rfl) rfl #[.agg #[.bool a0_0, .slice A0_1 l0_1.length c0_1, .int .i64 a0_2]] rfl (by (try simp only [List.map_toArray, List.map_cons, List.map_nil]); first | done | rfl | (simp only [List.length_drop, List.length_take]; rfl)) ?_; (with_reducible refine (r00Num_Top.calls k a0_0 _ _ l0_1 a0_2 t190 _ ?side1 ?side2 A10.out).mono ?_); (case side1 => repeat (first | exact (Kd.C_below HR0_1.out HB.out) | (with_reducible refine Kd.ZC ?_ _) | (with_reducible refine Kd.ZF ?_ _) | (with_reducible refine Kd.ZN ?_))); (case side2 => exact HC0_1.out); rintro e w27 ⟨rfl, hb⟩; refine ⟨_, rfl, ?_⟩; have n0_ := Zb.mk (Zn (g := gb187) (o := .cells #[.bool a0_0, .slice A0_1 l0_1.length c0_1, .int .i64 a0_2] 48 (0, 0)) (by (with_reducible repeat first | refine Ze ?_ _ | refine Zg ?_ | refine Zf ?_ _); exact BK187.out) hb); have n1_ := Zb.mk (Zn (g := gb188) (o := .cells #[.bool false, .slice none 0 0] 24 (0, 0)) (by (with_reducible repeat first | refine Ze ?_ _ | refine Zg ?_ | refine Zf ?_ _); exact BK188.out) hb); have n2_ := Zb.mk (Zl (by repeat (with_reducible first | exact HB.out | apply Zc | apply Za | apply Zd | refine Zh ?_ GE187.out | refine Zh ?_ GE188.out)) hb); clear BK187; clear BK188; clear HB; have BK187 := n0_; have BK188 := n1_; have HB := n2_; clear n0_ n1_ n2_; (try clear hb); (try clear hb2); (try clear hk); (try clear hi)))
   have n0_ := Zb.mk (Zg BK187.out)
   have n1_ := Zb.mk (Zg BK188.out)
   have n2_ := Zb.mk (Zd HB.out)
   clear BK187
   clear BK188
   clear HB
   have BK187 := n0_
   have BK188 := n1_
   have HB := n2_
   clear n0_ n1_ n2_
   refine start_ (n := 10) (S := fun w' => w'.cell? ⟨gb187, 0, none⟩ = some (.bool a0_0) ∧ w'.cell? ⟨gb187, 1, none⟩ = some (.slice A0_1 l0_1.length c0_1) ∧ w'.cell? ⟨gb187, 2, none⟩ = some (.int .i64 a0_2)) (ds := []) #[false, false, false, false, false, false, false, false, false, false] (by kernel_rfl) rfl rfl ⟨(Zk BK187.out 0).trans rfl, (Zk BK187.out 1).trans rfl, (Zk BK187.out 2).trans rfl⟩ (fun hHeld => ?_); refine with_tabW r00TellInt.tab5 r00TellInt.bits5 (fun HT_ HW_ => ?_)
   generalize w27.drew = w28 at BK187 BK188 HB hHeld ⊢
   refine ZM (i := 0) (N := some 11) (v := ?_) (a' := ?_) #[true, false, false, false, false, false, false, false, false, false] rfl rfl (ZD HT_.out (by kernel_rfl)) (fun _ _ _ h => h) (Or.inl ⟨by rfl, ?_⟩) ?_ ?_
   rotate_left
   ·intro w'
    go_simp
    with_reducible rfl
   rotate_left
   ·simp only [Act.put, List.setIfInBounds_toArray, List.set_cons_zero, List.set_cons_succ, Zx, ZA]
    rfl
   refine ZM (i := 2) (N := some 13) (v := ?_) (a' := ?_) #[true, false, true, false, false, false, false, false, false, false] rfl rfl (ZD HT_.out (by kernel_rfl)) (fun _ _ _ h => h) (Or.inl ⟨by rfl, ?_⟩) ?_ ?_
   rotate_left
   ·intro w'
    go_simp
    with_reducible rfl
   rotate_left
   ·simp only [Act.put, List.setIfInBounds_toArray, List.set_cons_zero, List.set_cons_succ, Zx, ZA]
    rfl
   refine ZM (i := 4) (N := some 15) (v := ?_) (a' := ?_) #[true, false, true, false, true, false, false, false, false, false] rfl rfl (ZD HT_.out (by kernel_rfl)) (fun _ _ _ h => h) (Or.inl ⟨by rfl, ?_⟩) ?_ ?_
   rotate_left
   ·intro w'
    go_simp
    with_reducible rfl
   rotate_left
   ·simp only [Act.put, List.setIfInBounds_toArray, List.set_cons_zero, List.set_cons_succ, Zx, ZA]
    rfl
   refine take_ (i := 1) (N := some 12) (v := ?_) (a' := ?_) #[true, true, true, false, true, false, false, false, false, false] rfl rfl (take_ofW HT_.out HW_.out (by kernel_rfl)) (fun _ _ _ h => h) (Or.inl ⟨by rfl, ?_⟩) hHeld ?_ ?_
   rotate_left
   ·rintro w' ⟨s0, s1, s2⟩
    go_simp
    with_reducible rfl
   rotate_left
   ·simp only [Act.put, List.setIfInBounds_toArray, List.set_cons_zero, List.set_cons_succ, Zx, ZA]
    rfl
   refine take_ (i := 3) (N := some 14) (v := ?_) (a' := ?_) #[true, true, true, true, true, false, false, false, false, false] rfl rfl (take_ofW HT_.out HW_.out (by kernel_rfl)) (fun _ _ _ h => h) (Or.inl ⟨by rfl, ?_⟩) hHeld ?_ ?_
   rotate_left
   ·rintro w' ⟨s0, s1, s2⟩
    go_simp
    with_reducible rfl
   rotate_left
   ·simp only [Act.put, List.setIfInBounds_toArray, List.set_cons_zero, List.set_cons_succ, Zx, ZA]
    rfl
   refine take_ (i := 5) (N := some 16) (v := ?_) (a' := ?_) #[true, true, true, true, true, true, false, false, false, false] rfl rfl (take_ofW HT_.out HW_.out (by kernel_rfl)) (fun _ _ _ h => h) (Or.inl ⟨by rfl, ?_⟩) hHeld ?_ ?_
   rotate_left
   ·rintro w' ⟨s0, s1, s2⟩
    go_simp
    with_reducible rfl
   rotate_left
   ·simp only [Act.put, List.setIfInBounds_toArray, List.set_cons_zero, List.set_cons_succ, Zx, ZA]
    rfl
   refine one_ (i := 6) (N := some 17) #[true, true, true, true, true, true, true, false, false, false] rfl rfl (one_of HT_.out (by kernel_rfl)) (by decide) (fun K hK => ?_)
   refine goes_ Try.func55 (by kernel_rfl) rfl #[.slice A0_1 l0_1.length c0_1, .int .i64 a0_2] (by rfl) rfl rfl (by (try simp only [List.map_toArray, List.map_cons, List.map_nil]); first | done | rfl | (simp only [List.length_drop, List.length_take]; rfl)) ?_
   with_reducible refine (r00NatUp.calls k _ _ l0_1 a0_2 t191 _ ?side1 ?side2 A20.out).mono ?_
   (case side1 => repeat (first | exact (Kd.C_below HR0_1.out HB.out) | (with_reducible refine Kd.ZC ?_ _) | (with_reducible refine Kd.ZF ?_ _) | (with_reducible refine Kd.ZN ?_)))
   (case side2 => exact HC0_1.out)
   rintro e w29 ⟨v192, rfl, ho0, hb⟩
   refine ⟨_, rfl, ?_⟩
   have n0_ := Zb.mk (Kd.ZG ho0 (Zi (by repeat (with_reducible first | exact HB.out | apply Zc | apply Za | apply Zd | refine Zh ?_ GE187.out | refine Zh ?_ GE188.out))))
   have n1_ := Zb.mk (Zn (g := gb187) (o := .cells #[.bool a0_0, .slice A0_1 l0_1.length c0_1, .int .i64 a0_2] 48 (0, 0)) (by (with_reducible repeat first | refine Ze ?_ _ | refine Zg ?_ | refine Zf ?_ _); exact BK187.out) hb)
   have n2_ := Zb.mk (Zn (g := gb188) (o := .cells #[.bool false, .slice none 0 0] 24 (0, 0)) (by (with_reducible repeat first | refine Ze ?_ _ | refine Zg ?_ | refine Zf ?_ _); exact BK188.out) hb)
   have n3_ := Zb.mk (Zl (by repeat (with_reducible first | exact HB.out | apply Zc | apply Za | apply Zd | refine Zh ?_ GE187.out | refine Zh ?_ GE188.out)) hb)
   clear BK187
   clear BK188
   clear HB
   have HO193 := n0_
   have BK187 := n1_
   have BK188 := n2_
   have HB := n3_
   clear n0_ n1_ n2_ n3_
   (try clear hb)
   (try clear hb2)
   (try clear hk)
   (try clear hi)
   (try clear ho0)
   obtain ⟨Ao30, co30, eo30⟩ := Kd.Zy HO193.out
   (first | subst eo30 | (injection eo30 with f1_ f2_ f3_; have f4_ := f1_.symm; have f5_ := f3_.symm; clear f1_ f2_ f3_; subst f4_; subst f5_))
   refine hK.out _ _ ⟨(Zk BK187.out 0).trans rfl, (Zk BK187.out 1).trans rfl, (Zk BK187.out 2).trans rfl⟩ (fun hHeld => ?_)
   clear hK K
   refine norm_ (a' := ?_) ?_ ?_
   rotate_left
   ·show Act.put _ (some 17) _ = _
    simp only [Act.put, List.setIfInBounds_toArray, List.set_cons_zero, List.set_cons_succ, Zx, ZA]
    rfl
   refine ZM (i := 7) (N := some 18) (v := ?_) (a' := ?_) #[true, true, true, true, true, true, true, true, false, false] rfl rfl (ZD HT_.out (by kernel_rfl)) (fun _ _ _ h => h) (Or.inl ⟨by rfl, ?_⟩) ?_ ?_
   rotate_left
   ·intro w'
    go_simp
    with_reducible rfl
   rotate_left
   ·simp only [Act.put, List.setIfInBounds_toArray, List.set_cons_zero, List.set_cons_succ, Zx, ZA]
    rfl
   refine one_ (i := 8) (N := none) #[true, true, true, true, true, true, true, true, true, false] rfl rfl (one_of HT_.out (by kernel_rfl)) (by decide) (fun K hK => ?_)
   have hs31 : w29.cell? ⟨gb188, 0, none⟩ = some (.bool false) := (Zk BK188.out 0).trans rfl
   have hfs31 := Zj BK188.out 0
   have hns31_0 := NB187_188.out
   have hms31_0 := NB188_187.out
   have hs32 : w29.cell? ⟨gb188, 1, none⟩ = some (.slice none 0 0) := (Zk BK188.out 1).trans rfl
   have hfs32 := Zj BK188.out 1
   have hns32_0 := NB187_188.out
   have hms32_0 := NB188_187.out
   refine skip_ (w1 := ?_) (by rfl) rfl ?_ ?_
   rotate_left
   ·go_simp
    rfl
   refine hK.out _ _ ⟨((cell_far (p := ⟨gb188, _, none⟩) NB187_188.out _).trans (((cell_far (p := ⟨gb188, _, none⟩) NB187_188.out _).trans (hHeld.1)))), ((cell_far (p := ⟨gb188, _, none⟩) NB187_188.out _).trans (((cell_far (p := ⟨gb188, _, none⟩) NB187_188.out _).trans (hHeld.2.1)))), ((cell_far (p := ⟨gb188, _, none⟩) NB187_188.out _).trans (((cell_far (p := ⟨gb188, _, none⟩) NB187_188.out _).trans (hHeld.2.2))))⟩ (fun hHeld => ?_)
   clear hK K
   refine ZM (i := 9) (N := some 3) (v := ?_) (a' := ?_) #[true, true, true, true, true, true, true, true, true, true] rfl rfl (ZD HT_.out (by kernel_rfl)) (fun _ _ _ h => h) (Or.inl ⟨by rfl, ?_⟩) ?_ ?_
   rotate_left
   ·intro w'
    go_simp
    with_reducible rfl
   rotate_left
   ·simp only [Act.put, List.setIfInBounds_toArray, List.set_cons_zero, List.set_cons_succ, Zx, ZA]
    rfl
   refine done_ (done_of HT_.out (by kernel_rfl)) ?_
   try go_wp2
   refine bodyPost_ret (results_ct rfl _ _ gb188 24 #[.bool a0_0, .slice Ao30 t191.length co30] (0, 0) _ rfl (by (with_reducible repeat first | refine Ze ?_ _ | refine Zg ?_ | refine Zf ?_ _); refine Zu (cs := #[.bool a0_0, .slice none 0 0]) ?_ 1 _ rfl; (with_reducible repeat first | refine Ze ?_ _ | refine Zg ?_ | refine Zf ?_ _); refine Zu (cs := #[.bool false, .slice none 0 0]) ?_ 0 _ rfl; (with_reducible repeat first | refine Ze ?_ _ | refine Zg ?_ | refine Zf ?_ _); exact BK188.out) Try.underlying24 rfl (by kernel_rfl)) rfl ?_
   exact ⟨_, by first | rfl | (simp [errW_none, errW_some] <;> rfl) | (simp [*, errW_none, errW_some] <;> rfl), by (with_reducible repeat first | apply Kd.Zm | apply Kd.Zo); exact Kd.ZE (Kd.ZH (p := ⟨gb188, 1, none⟩) (Kd.ZH (p := ⟨gb188, 0, none⟩) (Kd.ZI HO193.out BK188.out (by decide)) (fun _ hk => hk.2) (.bool a0_0)) (fun _ hk => hk.2) (.slice Ao30 t191.length co30)) (fun _ hk => trivial), by repeat (with_reducible first | exact HB.out | apply Zc | apply Za | apply Zd | refine Zh ?_ GE187.out | refine Zh ?_ GE188.out)⟩
def rmSmall.f (k : Nat) (a0 : Int) : Option (Bool × List Int) := (r00Whole.f k a0).bind fun bt195 => ((r00TellInt.f k bt195.1 bt195.2.1 bt195.2.2).bind fun bt200 => (some (bt200.1, bt200.2.1)))
theorem rmSmall.mono : ∀ a0 k, LeO (rmSmall.f k a0) (rmSmall.f (k + 1) a0) := by
 intro a0 k
 unfold rmSmall.f
 repeat' first
   | (with_reducible exact r00TellInt.mono _ _ _ _)
   | (with_reducible exact r00Whole.mono _ _)
   | (with_reducible exact LeO.refl _)
   | (with_reducible exact LeO.none _)
   | (with_reducible refine LeO.ite ?_ ?_)
   | (with_reducible refine LeO.bind ?_ (fun _ => ?_))
   | exact r00TellInt.mono _ _ _ _
   | exact r00Whole.mono _ _
   | exact LeO.none _
   | refine LeO.ite ?_ ?_
   | refine LeO.bind ?_ (fun _ => ?_)
set_option maxHeartbeats 8000000 in
set_option maxRecDepth 100000 in
theorem rmSmall.calls (k : Nat) (a0 : Int) (r1 : Bool) (r2 : List Int) (w : World) (h : rmSmall.f k a0 = some (r1, r2)) :
  Calls Try.prog 35 #[.int .i64 a0] w fun e w' => ∃ v1_ : Value, e = .returned (.agg #[.bool r1, v1_]) ∧ Kd.R (Kd.int .u64) 46 w' w.heap.size (fun _ => True) v1_ r2 ∧ Below w.heap.size w w' := by
 have hu24 := Try.underlying24
 have HB := Zb.mk (Below.refl w.heap.size w)
 have H : ((r00Whole.f k a0).bind fun bt195 => ((r00TellInt.f k bt195.1 bt195.2.1 bt195.2.2).bind fun bt200 => (some (bt200.1, bt200.2.1)))) = some (r1, r2) := h
 clear h
 replace H := Option.bind_eq_some_iff.mp H
 obtain ⟨⟨t195, t196, t199⟩, A20, H⟩ := H
 replace H : ((r00TellInt.f k t195 t196 t199).bind fun bt200 => (some (bt200.1, bt200.2.1))) = some (r1, r2) := H
 have A2 := Zb.mk A20
 clear A20
 replace H := Option.bind_eq_some_iff.mp H
 obtain ⟨⟨t200, t201, t204⟩, A30, H⟩ := H
 replace H : (some (t200, t201)) = some (r1, r2) := H
 have A3 := Zb.mk A30
 clear A30
 simp only [Option.some.injEq, Prod.mk.injEq] at H
 obtain ⟨rfl, rfl⟩ := H
 go_enter Try.func35, Try.ntmps35
 go_wp2_with (first | ((with_reducible refine Zt (N := 2) rfl ?_); refine Zs ?hg (N := 2) ?hd (cs := #[.bool false, .slice none 0 0]) (t := 24) ?hr ?_; (case hd => rfl); (case hg => rfl); (case hr => first | (go_simp; done) | (go_simp; rfl)); intro gb194 hg w4 hbox hb; have n0_ := Zb.mk (Zl (by repeat (with_reducible first | exact HB.out | apply Zc | apply Za | apply Zd)) hb); have n1_ := Zb.mk (hbox); have n2_ := Zb.mk ((by rw [hg]; exact (Zi (by repeat (with_reducible first | exact HB.out | apply Zc | apply Za | apply Zd))) : w.heap.size ≤ gb194)); have n3_ := Zb.mk ((by rw [hg]; exact (Zi (by repeat (with_reducible first | exact HB.out | apply Zc | apply Za | apply Zd))) : w.heap.size ≤ gb194)); clear HB; have HB := n0_; have BK194 := n1_; have GW194 := n2_; have GE194 := n3_; clear n0_ n1_ n2_ n3_; clear hb hbox hg) | ((with_reducible refine Zp (f := 27) rfl ?_); refine ZB (some 7) rfl rfl Try.func27 (by kernel_rfl) rfl #[.int .i64 a0] rfl (by (try simp only [List.map_toArray, List.map_cons, List.map_nil]); first | done | rfl | (simp only [List.length_drop, List.length_take]; rfl)) ?_; (with_reducible refine (r00Whole.calls k a0 t195 t196 t199 _ A2.out).mono ?_); rintro e w5 ⟨v197, rfl, ho0, hb⟩; refine ⟨_, rfl, ?_⟩; have n0_ := Zb.mk (Kd.ZG ho0 (Zi (by repeat (with_reducible first | exact HB.out | apply Zc | apply Za | apply Zd | refine Zh ?_ GE194.out)))); have n1_ := Zb.mk (Zn (g := gb194) (o := .cells #[.bool false, .slice none 0 0] 24 (0, 0)) (by (with_reducible repeat first | refine Ze ?_ _ | refine Zg ?_ | refine Zf ?_ _); exact BK194.out) hb); have n2_ := Zb.mk (Zl (by repeat (with_reducible first | exact HB.out | apply Zc | apply Za | apply Zd | refine Zh ?_ GE194.out)) hb); clear BK194; clear HB; have HO198 := n0_; have BK194 := n1_; have HB := n2_; clear n0_ n1_ n2_; (try clear hb); (try clear hb2); (try clear hk); (try clear hi); (try clear ho0); obtain ⟨Ao6, co6, eo6⟩ := Kd.Zy HO198.out; subst eo6) | ((with_reducible refine Zp (f := 73) rfl ?_); refine ZB (some 8) rfl rfl Try.func73 (by kernel_rfl) rfl #[.agg #[.bool t195, .slice Ao6 t196.length co6, .int .i64 t199]] rfl (by (try simp only [List.map_toArray, List.map_cons, List.map_nil]); first | done | rfl | (simp only [List.length_drop, List.length_take]; rfl)) ?_; (with_reducible refine (r00TellInt.calls k t195 _ _ t196 t199 t200 t201 t204 _ ?side1 ?side2 A3.out).mono ?_); (case side1 => repeat (first | exact (Kd.Zv HO198.out).2.2 | (with_reducible refine Kd.ZC ?_ _) | (with_reducible refine Kd.ZF ?_ _) | (with_reducible refine Kd.ZN ?_))); (case side2 => exact (Kd.Zv HO198.out).2.1); rintro e w7 ⟨v202, rfl, ho0, hb⟩; refine ⟨_, rfl, ?_⟩; have n0_ := Zb.mk (Kd.ZJ (by (with_reducible repeat first | apply Kd.Zm | apply Kd.Zo); exact HO198.out) (Kd.ZV ho0) hb); have n1_ := Zb.mk (Kd.ZG (Kd.R_new' ho0 (Kd.R_lt (by (with_reducible repeat first | apply Kd.Zm | apply Kd.Zo); exact HO198.out))) (Zi (by repeat (with_reducible first | exact HB.out | apply Zc | apply Za | apply Zd | refine Zh ?_ GE194.out)))); have n2_ := Zb.mk (Zn (g := gb194) (o := .cells #[.bool false, .slice none 0 0] 24 (0, 0)) (by (with_reducible repeat first | refine Ze ?_ _ | refine Zg ?_ | refine Zf ?_ _); exact BK194.out) hb); have n3_ := Zb.mk (Zl (by repeat (with_reducible first | exact HB.out | apply Zc | apply Za | apply Zd | refine Zh ?_ GE194.out)) hb); clear HO198; clear BK194; clear HB; have HO198 := n0_; have HO203 := n1_; have BK194 := n2_; have HB := n3_; clear n0_ n1_ n2_ n3_; (try clear hb); (try clear hb2); (try clear hk); (try clear hi); (try clear ho0)) | ((with_reducible refine Zt (N := 3) rfl ?_); refine Zs ?hg (N := 3) ?hd (cs := #[.bool false, .slice none 0 0]) (t := 24) ?hr ?_; (case hd => rfl); (case hg => rfl); (case hr => first | (go_simp; done) | (go_simp; rfl)); intro gb205 hg w8 hbox hb; have n0_ := Zb.mk (Kd.Zz (by (with_reducible repeat first | apply Kd.Zm | apply Kd.Zo); exact HO198.out) hb); have n1_ := Zb.mk (Kd.Zz (by (with_reducible repeat first | apply Kd.Zm | apply Kd.Zo); exact HO203.out) hb); have n2_ := Zb.mk (Zn (g := gb194) (o := .cells #[.bool false, .slice none 0 0] 24 (0, 0)) (by (with_reducible repeat first | refine Ze ?_ _ | refine Zg ?_ | refine Zf ?_ _); exact BK194.out) hb); have n3_ := Zb.mk (Zl (by repeat (with_reducible first | exact HB.out | apply Zc | apply Za | apply Zd | refine Zh ?_ GE194.out)) hb); have n4_ := Zb.mk (hbox); have n5_ := Zb.mk ((by rw [hg]; exact (Zi (by repeat (with_reducible first | exact HB.out | apply Zc | apply Za | apply Zd | refine Zh ?_ GE194.out))) : w.heap.size ≤ gb205)); have n6_ := Zb.mk ((by rw [hg]; exact (Zi (by repeat (with_reducible first | exact HB.out | apply Zc | apply Za | apply Zd | refine Zh ?_ GE194.out))) : w.heap.size ≤ gb205)); have n7_ := Zb.mk ((by rw [hg]; exact Nat.ne_of_lt (Zw (g := gb194) (o := .cells #[.bool false, .slice none 0 0] 24 (0, 0)) (by (with_reducible repeat first | refine Ze ?_ _ | refine Zg ?_ | refine Zf ?_ _); exact BK194.out)) : gb194 ≠ gb205)); have n8_ := Zb.mk ((by rw [hg]; exact Nat.ne_of_gt (Zw (g := gb194) (o := .cells #[.bool false, .slice none 0 0] 24 (0, 0)) (by (with_reducible repeat first | refine Ze ?_ _ | refine Zg ?_ | refine Zf ?_ _); exact BK194.out)) : gb205 ≠ gb194)); clear HO198; clear HO203; clear BK194; clear HB; have HO198 := n0_; have HO203 := n1_; have BK194 := n2_; have HB := n3_; have BK205 := n4_; have GW205 := n5_; have GE205 := n6_; have NB194_205 := n7_; have NB205_194 := n8_; clear n0_ n1_ n2_ n3_ n4_ n5_ n6_ n7_ n8_; clear hb hbox hg; have hnb9 := NB205_194.out; have hnc9 := NB194_205.out; have hcz10_0 : w8.cell? ⟨gb205, 0, none⟩ = some (.bool false) := (Zk BK205.out 0).trans rfl; have hcz10_1 : w8.cell? ⟨gb205, 1, none⟩ = some (.slice none 0 0) := (Zk BK205.out 1).trans rfl; have hfz10_0 := Zj BK205.out 0; have hfz10_1 := Zj BK205.out 1; obtain ⟨Ao11, co11, eo11⟩ := Kd.Zy HO203.out; subst eo11; have hcz12_0 : w8.cell? ⟨gb194, 0, none⟩ = some (.bool false) := (Zk BK194.out 0).trans rfl; have hcz12_1 : w8.cell? ⟨gb194, 1, none⟩ = some (.slice none 0 0) := (Zk BK194.out 1).trans rfl; have hfz12_0 := Zj BK194.out 0; have hfz12_1 := Zj BK194.out 1))
 refine bodyPost_ret (results_cell_row rfl _ _ gb194 24 #[.bool t200, .slice Ao11 t201.length co11] (0, 0) _ rfl (by (with_reducible repeat first | refine Ze ?_ _ | refine Zg ?_ | refine Zf ?_ _); refine Zu (cs := #[.bool t200, .slice none 0 0]) ?_ 1 _ rfl; (with_reducible repeat first | refine Ze ?_ _ | refine Zg ?_ | refine Zf ?_ _); refine Zu (cs := #[.bool false, .slice none 0 0]) ?_ 0 _ rfl; (with_reducible repeat first | refine Ze ?_ _ | refine Zg ?_ | refine Zf ?_ _); refine Zr ?_ NB194_205.out _; (with_reducible repeat first | refine Ze ?_ _ | refine Zg ?_ | refine Zf ?_ _); refine Zr ?_ NB194_205.out _; (with_reducible repeat first | refine Ze ?_ _ | refine Zg ?_ | refine Zf ?_ _); exact BK194.out) Try.underlying24 rfl (by kernel_rfl)) rfl ?_
 exact ⟨_, by first | rfl | (simp [errW_none, errW_some] <;> rfl) | (simp [*, errW_none, errW_some] <;> rfl), by (with_reducible repeat first | apply Kd.Zm | apply Kd.Zo); exact Kd.ZE (Kd.ZH (p := ⟨gb194, 1, none⟩) (Kd.ZH (p := ⟨gb194, 0, none⟩) (Kd.ZH (p := ⟨gb205, 1, none⟩) (Kd.ZH (p := ⟨gb205, 0, none⟩) (Kd.ZI (Kd.ZI HO203.out BK205.out (by decide)) BK194.out (by decide)) (fun _ hk => hk.1.2) (.bool t200)) (fun _ hk => hk.1.2) (.slice Ao11 t201.length co11)) (fun _ hk => hk.2) (.bool t200)) (fun _ hk => hk.2) (.slice Ao11 t201.length co11)) (fun _ hk => trivial), by repeat (with_reducible first | exact HB.out | apply Zc | apply Za | apply Zd | refine Zh ?_ GE194.out | refine Zh ?_ GE205.out)⟩
def w19awake.f (k : Nat)  : Option (Bool) := (rmSmall.f k (-255)).bind fun bt206 => ((base_Print.f k bt206.1 bt206.2 16).bind fun bt210 => ((base_Parse.f k (⟨#[122]⟩ : ByteArray) 36).bind fun bt212 => ((rmSmall.f k (-255)).bind fun bt220 => ((base_Count.f k bt220.1 bt220.2 16).bind fun bt224 => (if bt210.1.toList = ([45, 102, 102] : List UInt8) then (if bt210.2 = 0 then (if (bt212.2.2.1 == 0 && (bt212.2.2.2 == 0)) = true then ((rmSmall.f k 35).bind fun bt226 => ((rkSameInt.f k bt212.1 bt212.2.1 bt226.1 bt226.2).bind fun t230 => (if t230 = true then (if bt224.1 = 2 then (some (bt224.2 == 0)) else (none)) else (none)))) else (none)) else (none)) else (none))))))
theorem w19awake.mono : ∀ k, LeO (w19awake.f k ) (w19awake.f (k + 1) ) := by
 intro  k
 unfold w19awake.f
 repeat' first
   | (with_reducible exact base_Count.mono _ _ _ _)
   | (with_reducible exact base_Parse.mono _ _ _)
   | (with_reducible exact base_Print.mono _ _ _ _)
   | (with_reducible exact rkSameInt.mono _ _ _ _ _)
   | (with_reducible exact rmSmall.mono _ _)
   | (with_reducible exact LeO.refl _)
   | (with_reducible exact LeO.none _)
   | (with_reducible refine LeO.ite ?_ ?_)
   | (with_reducible refine LeO.bind ?_ (fun _ => ?_))
   | exact base_Count.mono _ _ _ _
   | exact base_Parse.mono _ _ _
   | exact base_Print.mono _ _ _ _
   | exact rkSameInt.mono _ _ _ _ _
   | exact rmSmall.mono _ _
   | exact LeO.none _
   | refine LeO.ite ?_ ?_
   | refine LeO.bind ?_ (fun _ => ?_)
def w19awake.T4 : Bool × List (List Nat × List Nat) := (true, [([], []), ([0], [0]), ([1], [1]), ([2], [2]), ([3, 2], [2, 3]), ([2, 4], [2, 4]), ([5, 2], [5]), ([6], [6]), ([6], [6]), ([7, 8, 6], [6, 7, 8]), ([6, 9], [6, 9]), ([10, 6], [10]), ([11], [11]), ([11, 11], [11]), ([12, 13, 13, 11], [11, 12, 13]), ([11, 14], [11, 14]), ([15, 14], [15]), ([16], [16]), ([17, 16], [16, 17]), ([16, 18], [16, 18]), ([19, 16], [19]), ([20], [20]), ([21, 20], [20, 21]), ([20, 22], [20, 22]), ([23, 20, 0, 1, 2, 3, 4, 5, 6, 7, 8, 9, 10, 11, 12, 13, 14, 15, 16, 17, 18, 19, 20, 21, 22, 23], [23])])
def w19awake.B4 : List Nat := [0, 1, 3, 7, 15, 31, 63, 127, 127, 511, 1023, 2047, 4095, 4095, 16383, 32767, 65535, 131071, 262143, 524287, 1048575, 2097151, 4194303, 8388607, 16777215]
theorem w19awake.tab4 : rtab .any (opsOf Try.f10 4) = w19awake.T4 := by kernel_rfl
theorem w19awake.bits4 : waitsOk w19awake.T4.2 w19awake.B4 = true := by kernel_rfl
set_option maxHeartbeats 8000000 in
set_option maxRecDepth 100000 in
theorem w19awake.calls (k : Nat)  (r : Bool) (w : World) (h : w19awake.f k  = some r) :
  Calls Try.prog 10 #[] w fun e w' => e = .returned (.bool r) ∧ Below w.heap.size w w' := by
 have hu24 := Try.underlying24
 have hu35 := Try.underlying35
 have HB := Zb.mk (Below.refl w.heap.size w)
 have H : ((rmSmall.f k (-255)).bind fun bt206 => ((base_Print.f k bt206.1 bt206.2 16).bind fun bt210 => ((base_Parse.f k (⟨#[122]⟩ : ByteArray) 36).bind fun bt212 => ((rmSmall.f k (-255)).bind fun bt220 => ((base_Count.f k bt220.1 bt220.2 16).bind fun bt224 => (if bt210.1.toList = ([45, 102, 102] : List UInt8) then (if bt210.2 = 0 then (if (bt212.2.2.1 == 0 && (bt212.2.2.2 == 0)) = true then ((rmSmall.f k 35).bind fun bt226 => ((rkSameInt.f k bt212.1 bt212.2.1 bt226.1 bt226.2).bind fun t230 => (if t230 = true then (if bt224.1 = 2 then (some (bt224.2 == 0)) else (none)) else (none)))) else (none)) else (none)) else (none))))))) = some r := h
 clear h
 replace H := Option.bind_eq_some_iff.mp H
 obtain ⟨⟨t206, t207⟩, A10, H⟩ := H
 replace H : ((base_Print.f k t206 t207 16).bind fun bt210 => ((base_Parse.f k (⟨#[122]⟩ : ByteArray) 36).bind fun bt212 => ((rmSmall.f k (-255)).bind fun bt220 => ((base_Count.f k bt220.1 bt220.2 16).bind fun bt224 => (if bt210.1.toList = ([45, 102, 102] : List UInt8) then (if bt210.2 = 0 then (if (bt212.2.2.1 == 0 && (bt212.2.2.2 == 0)) = true then ((rmSmall.f k 35).bind fun bt226 => ((rkSameInt.f k bt212.1 bt212.2.1 bt226.1 bt226.2).bind fun t230 => (if t230 = true then (if bt224.1 = 2 then (some (bt224.2 == 0)) else (none)) else (none)))) else (none)) else (none)) else (none)))))) = some r := H
 have A1 := Zb.mk A10
 clear A10
 replace H := Option.bind_eq_some_iff.mp H
 obtain ⟨⟨t210, t211⟩, A20, H⟩ := H
 replace H : ((base_Parse.f k (⟨#[122]⟩ : ByteArray) 36).bind fun bt212 => ((rmSmall.f k (-255)).bind fun bt220 => ((base_Count.f k bt220.1 bt220.2 16).bind fun bt224 => (if t210.toList = ([45, 102, 102] : List UInt8) then (if t211 = 0 then (if (bt212.2.2.1 == 0 && (bt212.2.2.2 == 0)) = true then ((rmSmall.f k 35).bind fun bt226 => ((rkSameInt.f k bt212.1 bt212.2.1 bt226.1 bt226.2).bind fun t230 => (if t230 = true then (if bt224.1 = 2 then (some (bt224.2 == 0)) else (none)) else (none)))) else (none)) else (none)) else (none))))) = some r := H
 have A2 := Zb.mk A20
 clear A20
 replace H := Option.bind_eq_some_iff.mp H
 obtain ⟨⟨t212, t213, t216, t217⟩, A30, H⟩ := H
 replace H : ((rmSmall.f k (-255)).bind fun bt220 => ((base_Count.f k bt220.1 bt220.2 16).bind fun bt224 => (if t210.toList = ([45, 102, 102] : List UInt8) then (if t211 = 0 then (if (t216 == 0 && (t217 == 0)) = true then ((rmSmall.f k 35).bind fun bt226 => ((rkSameInt.f k t212 t213 bt226.1 bt226.2).bind fun t230 => (if t230 = true then (if bt224.1 = 2 then (some (bt224.2 == 0)) else (none)) else (none)))) else (none)) else (none)) else (none)))) = some r := H
 have A3 := Zb.mk A30
 clear A30
 replace H := Option.bind_eq_some_iff.mp H
 obtain ⟨⟨t220, t221⟩, A40, H⟩ := H
 replace H : ((base_Count.f k t220 t221 16).bind fun bt224 => (if t210.toList = ([45, 102, 102] : List UInt8) then (if t211 = 0 then (if (t216 == 0 && (t217 == 0)) = true then ((rmSmall.f k 35).bind fun bt226 => ((rkSameInt.f k t212 t213 bt226.1 bt226.2).bind fun t230 => (if t230 = true then (if bt224.1 = 2 then (some (bt224.2 == 0)) else (none)) else (none)))) else (none)) else (none)) else (none))) = some r := H
 have A4 := Zb.mk A40
 clear A40
 replace H := Option.bind_eq_some_iff.mp H
 obtain ⟨⟨t224, t225⟩, A50, H⟩ := H
 replace H : (if t210.toList = ([45, 102, 102] : List UInt8) then (if t211 = 0 then (if (t216 == 0 && (t217 == 0)) = true then ((rmSmall.f k 35).bind fun bt226 => ((rkSameInt.f k t212 t213 bt226.1 bt226.2).bind fun t230 => (if t230 = true then (if t224 = 2 then (some (t225 == 0)) else (none)) else (none)))) else (none)) else (none)) else (none)) = some r := H
 have A5 := Zb.mk A50
 clear A50
 by_cases c6 : t210.toList = ([45, 102, 102] : List UInt8)
 ·rw [if_pos c6] at H
  have c6b0 : (t210.toList == ([45, 102, 102] : List UInt8)) = true := beq_iff_eq.mpr c6
  have c6b1 : (t210.toList != ([45, 102, 102] : List UInt8)) = false := bne_eq_false_iff_eq.mpr c6
  clear c6
  by_cases c7 : t211 = 0
  ·rw [if_pos c7] at H
   have c7b0 : (t211 == 0) = true := beq_iff_eq.mpr c7
   have c7b1 : (t211 != 0) = false := bne_eq_false_iff_eq.mpr c7
   clear c7
   by_cases c8 : (t216 == 0 && (t217 == 0)) = true
   ·rw [if_pos c8] at H
    have c8b0 : (t216 == 0 && (t217 == 0)) = true := c8
    (try (have c8b1 : decide (t216 = 0 && (t217 == 0)) = true := by simpa using c8))
    (try (have c8b2 : (t216 == 0 && (t217 == 0)) = true := by simpa using c8))
    clear c8
    replace H := Option.bind_eq_some_iff.mp H
    obtain ⟨⟨t226, t227⟩, A90, H⟩ := H
    replace H : ((rkSameInt.f k t212 t213 t226 t227).bind fun t230 => (if t230 = true then (if t224 = 2 then (some (t225 == 0)) else (none)) else (none))) = some r := H
    have A9 := Zb.mk A90
    clear A90
    replace H := Option.bind_eq_some_iff.mp H
    obtain ⟨t230, A100, H⟩ := H
    replace H : (if t230 = true then (if t224 = 2 then (some (t225 == 0)) else (none)) else (none)) = some r := H
    have A10 := Zb.mk A100
    clear A100
    by_cases c11 : t230 = true
    ·subst c11
     have H1 : (if t224 = 2 then (some (t225 == 0)) else (none)) = some r := by rw [if_pos rfl] at H; exact H
     clear H
     have H := H1
     clear H1
     by_cases c12 : t224 = 2
     ·rw [if_pos c12] at H
      have c12b0 : (t224 == 2) = true := beq_iff_eq.mpr c12
      have c12b1 : (t224 != 2) = false := bne_eq_false_iff_eq.mpr c12
      clear c12
      obtain rfl := Option.some.inj H
      go_enter Try.func10, Try.ntmps10
      try go_wp2_with (first | ((with_reducible refine Zp (f := 35) rfl ?_); refine ZB (some 8) rfl rfl Try.func35 (by kernel_rfl) rfl #[.int .i64 (-255)] rfl (by (try simp only [List.map_toArray, List.map_cons, List.map_nil]); first | done | rfl | (simp only [List.length_drop, List.length_take]; rfl)) ?_; (with_reducible refine (rmSmall.calls k (-255) t206 t207 _ A1.out).mono ?_); rintro e w13 ⟨v208, rfl, ho0, hb⟩; refine ⟨_, rfl, ?_⟩; have n0_ := Zb.mk (Kd.ZG ho0 (Zi (by repeat (with_reducible first | exact HB.out | apply Zc | apply Za | apply Zd)))); have n1_ := Zb.mk (Zl (by repeat (with_reducible first | exact HB.out | apply Zc | apply Za | apply Zd)) hb); clear HB; have HO209 := n0_; have HB := n1_; clear n0_ n1_; (try clear hb); (try clear hb2); (try clear hk); (try clear hi); (try clear ho0); obtain ⟨Ao14, co14, eo14⟩ := Kd.Zy HO209.out; subst eo14) | ((with_reducible refine Zp (f := 12) rfl ?_); refine ZB (some 9) rfl rfl Try.func12 (by kernel_rfl) rfl #[.agg #[.bool t206, .slice Ao14 t207.length co14], .int .i64 16] rfl (by (try simp only [List.map_toArray, List.map_cons, List.map_nil]); first | done | rfl | (simp only [List.length_drop, List.length_take]; rfl)) ?_; (with_reducible refine (base_Print.calls k t206 _ _ t207 16 t210 t211 _ ?side1 ?side2 A2.out).mono ?_); (case side1 => repeat (first | exact (Kd.Zv HO209.out).2.2 | (with_reducible refine Kd.ZC ?_ _) | (with_reducible refine Kd.ZF ?_ _) | (with_reducible refine Kd.ZN ?_))); (case side2 => exact (Kd.Zv HO209.out).2.1); rintro e w15 ⟨rfl, hb⟩; refine ⟨_, rfl, ?_⟩; have n0_ := Zb.mk (Kd.Zz (by (with_reducible repeat first | apply Kd.Zm | apply Kd.Zo); exact HO209.out) hb); have n1_ := Zb.mk (Zl (by repeat (with_reducible first | exact HB.out | apply Zc | apply Za | apply Zd)) hb); clear HO209; clear HB; have HO209 := n0_; have HB := n1_; clear n0_ n1_; (try clear hb); (try clear hb2); (try clear hk); (try clear hi)) | ((with_reducible refine Zp (f := 17) rfl ?_); refine ZB (some 13) rfl rfl Try.func17 (by kernel_rfl) rfl #[.string (⟨#[122]⟩ : ByteArray), .int .i64 36] rfl (by (try simp only [List.map_toArray, List.map_cons, List.map_nil]); first | done | rfl | (simp only [List.length_drop, List.length_take]; rfl)) ?_; (with_reducible refine (base_Parse.calls k (⟨#[122]⟩ : ByteArray) 36 t212 t213 t216 t217 _ A3.out).mono ?_); rintro e w16 ⟨v214, rfl, ho0, hb⟩; refine ⟨_, rfl, ?_⟩; have n0_ := Zb.mk (Kd.ZJ (by (with_reducible repeat first | apply Kd.Zm | apply Kd.Zo); exact HO209.out) (Kd.ZV ho0) hb); have n1_ := Zb.mk (Kd.ZG (Kd.R_new' ho0 (Kd.R_lt (by (with_reducible repeat first | apply Kd.Zm | apply Kd.Zo); exact HO209.out))) (Zi (by repeat (with_reducible first | exact HB.out | apply Zc | apply Za | apply Zd)))); have n2_ := Zb.mk (Zl (by repeat (with_reducible first | exact HB.out | apply Zc | apply Za | apply Zd)) hb); clear HO209; clear HB; have HO209 := n0_; have HO215 := n1_; have HB := n2_; clear n0_ n1_ n2_; (try clear hb); (try clear hb2); (try clear hk); (try clear hi); (try clear ho0)) | ((with_reducible refine Zt (N := 3) rfl ?_); refine Zs ?hg (N := 3) ?hd (cs := #[.bool false, .slice none 0 0]) (t := 24) ?hr ?_; (case hd => rfl); (case hg => rfl); (case hr => first | (go_simp; done) | (go_simp; rfl)); intro gb218 hg w17 hbox hb; have n0_ := Zb.mk (Kd.Zz (by (with_reducible repeat first | apply Kd.Zm | apply Kd.Zo); exact HO209.out) hb); have n1_ := Zb.mk (Kd.Zz (by (with_reducible repeat first | apply Kd.Zm | apply Kd.Zo); exact HO215.out) hb); have n2_ := Zb.mk (Zl (by repeat (with_reducible first | exact HB.out | apply Zc | apply Za | apply Zd)) hb); have n3_ := Zb.mk (hbox); have n4_ := Zb.mk ((by rw [hg]; exact (Zi (by repeat (with_reducible first | exact HB.out | apply Zc | apply Za | apply Zd))) : w.heap.size ≤ gb218)); have n5_ := Zb.mk ((by rw [hg]; exact (Zi (by repeat (with_reducible first | exact HB.out | apply Zc | apply Za | apply Zd))) : w.heap.size ≤ gb218)); clear HO209; clear HO215; clear HB; have HO209 := n0_; have HO215 := n1_; have HB := n2_; have BK218 := n3_; have GW218 := n4_; have GE218 := n5_; clear n0_ n1_ n2_ n3_ n4_ n5_; clear hb hbox hg) | ((with_reducible refine Zt (N := 4) rfl ?_); refine Zs ?hg (N := 4) ?hd (cs := #[.int .i64 0, .int .i64 0]) (t := 35) ?hr ?_; (case hd => rfl); (case hg => rfl); (case hr => first | (go_simp; done) | (go_simp; rfl)); intro gb219 hg w18 hbox hb; have n0_ := Zb.mk (Kd.Zz (by (with_reducible repeat first | apply Kd.Zm | apply Kd.Zo); exact HO209.out) hb); have n1_ := Zb.mk (Kd.Zz (by (with_reducible repeat first | apply Kd.Zm | apply Kd.Zo); exact HO215.out) hb); have n2_ := Zb.mk (Zn (g := gb218) (o := .cells #[.bool false, .slice none 0 0] 24 (0, 0)) (by (with_reducible repeat first | refine Ze ?_ _ | refine Zg ?_ | refine Zf ?_ _); exact BK218.out) hb); have n3_ := Zb.mk (Zl (by repeat (with_reducible first | exact HB.out | apply Zc | apply Za | apply Zd | refine Zh ?_ GE218.out)) hb); have n4_ := Zb.mk (hbox); have n5_ := Zb.mk ((by rw [hg]; exact (Zi (by repeat (with_reducible first | exact HB.out | apply Zc | apply Za | apply Zd | refine Zh ?_ GE218.out))) : w.heap.size ≤ gb219)); have n6_ := Zb.mk ((by rw [hg]; exact (Zi (by repeat (with_reducible first | exact HB.out | apply Zc | apply Za | apply Zd | refine Zh ?_ GE218.out))) : w.heap.size ≤ gb219)); have n7_ := Zb.mk ((by rw [hg]; exact Nat.ne_of_lt (Zw (g := gb218) (o := .cells #[.bool false, .slice none 0 0] 24 (0, 0)) (by (with_reducible repeat first | refine Ze ?_ _ | refine Zg ?_ | refine Zf ?_ _); exact BK218.out)) : gb218 ≠ gb219)); have n8_ := Zb.mk ((by rw [hg]; exact Nat.ne_of_gt (Zw (g := gb218) (o := .cells #[.bool false, .slice none 0 0] 24 (0, 0)) (by (with_reducible repeat first | refine Ze ?_ _ | refine Zg ?_ | refine Zf ?_ _); exact BK218.out)) : gb219 ≠ gb218)); clear HO209; clear HO215; clear BK218; clear HB; have HO209 := n0_; have HO215 := n1_; have BK218 := n2_; have HB := n3_; have BK219 := n4_; have GW219 := n5_; have GE219 := n6_; have NB218_219 := n7_; have NB219_218 := n8_; clear n0_ n1_ n2_ n3_ n4_ n5_ n6_ n7_ n8_; clear hb hbox hg; have hnb19 := NB218_219.out; have hnc19 := NB219_218.out; have hcz20_0 : w18.cell? ⟨gb218, 0, none⟩ = some (.bool false) := (Zk BK218.out 0).trans rfl; have hcz20_1 : w18.cell? ⟨gb218, 1, none⟩ = some (.slice none 0 0) := (Zk BK218.out 1).trans rfl; have hfz20_0 := Zj BK218.out 0; have hfz20_1 := Zj BK218.out 1; obtain ⟨Ao21, co21, eo21⟩ := Kd.Zy HO215.out; subst eo21; have hcz22_0 : w18.cell? ⟨gb219, 0, none⟩ = some (.int .i64 0) := (Zk BK219.out 0).trans rfl; have hcz22_1 : w18.cell? ⟨gb219, 1, none⟩ = some (.int .i64 0) := (Zk BK219.out 1).trans rfl; have hfz22_0 := Zj BK219.out 0; have hfz22_1 := Zj BK219.out 1) | ((with_reducible refine Zp (f := 35) rfl ?_); refine ZB (some 17) rfl rfl Try.func35 (by kernel_rfl) rfl #[.int .i64 (-255)] rfl (by (try simp only [List.map_toArray, List.map_cons, List.map_nil]); first | done | rfl | (simp only [List.length_drop, List.length_take]; rfl)) ?_; (with_reducible refine (rmSmall.calls k (-255) t220 t221 _ A4.out).mono ?_); rintro e w23 ⟨v222, rfl, ho0, hb⟩; refine ⟨_, rfl, ?_⟩; have n0_ := Zb.mk (Kd.ZJ (by (with_reducible repeat first | apply Kd.Zm | apply Kd.Zo); exact (Kd.ZE (Kd.ZE (Kd.ZH (p := ⟨gb219, 1, none⟩) (Kd.ZH (p := ⟨gb219, 0, none⟩) (Kd.ZH (p := ⟨gb218, 1, none⟩) (Kd.ZH (p := ⟨gb218, 0, none⟩) (Kd.ZI (Kd.ZI HO209.out BK218.out (by decide)) BK219.out (by decide)) (fun _ hk => hk.1.2) (.bool t212)) (fun _ hk => hk.1.2) (.slice Ao21 t213.length co21)) (fun _ hk => hk.2) (.int .i64 t216)) (fun _ hk => hk.2) (.int .i64 t217)) (fun _ h_ => h_.1)) (fun _ h_ => h_.1))) (Kd.ZV ho0) hb); have n1_ := Zb.mk (Kd.ZJ (by (with_reducible repeat first | apply Kd.Zm | apply Kd.Zo); exact (Kd.ZE (Kd.ZE (Kd.ZH (p := ⟨gb219, 1, none⟩) (Kd.ZH (p := ⟨gb219, 0, none⟩) (Kd.ZH (p := ⟨gb218, 1, none⟩) (Kd.ZH (p := ⟨gb218, 0, none⟩) (Kd.ZI (Kd.ZI HO215.out BK218.out (by decide)) BK219.out (by decide)) (fun _ hk => hk.1.2) (.bool t212)) (fun _ hk => hk.1.2) (.slice Ao21 t213.length co21)) (fun _ hk => hk.2) (.int .i64 t216)) (fun _ hk => hk.2) (.int .i64 t217)) (fun _ h_ => h_.1)) (fun _ h_ => h_.1))) (Kd.ZV ho0) hb); have n2_ := Zb.mk (Kd.ZG (Kd.R_new' (Kd.R_new' ho0 (Kd.R_lt (by (with_reducible repeat first | apply Kd.Zm | apply Kd.Zo); exact (Kd.ZE (Kd.ZE (Kd.ZH (p := ⟨gb219, 1, none⟩) (Kd.ZH (p := ⟨gb219, 0, none⟩) (Kd.ZH (p := ⟨gb218, 1, none⟩) (Kd.ZH (p := ⟨gb218, 0, none⟩) (Kd.ZI (Kd.ZI HO209.out BK218.out (by decide)) BK219.out (by decide)) (fun _ hk => hk.1.2) (.bool t212)) (fun _ hk => hk.1.2) (.slice Ao21 t213.length co21)) (fun _ hk => hk.2) (.int .i64 t216)) (fun _ hk => hk.2) (.int .i64 t217)) (fun _ h_ => h_.1)) (fun _ h_ => h_.1))))) (Kd.R_lt (by (with_reducible repeat first | apply Kd.Zm | apply Kd.Zo); exact (Kd.ZE (Kd.ZE (Kd.ZH (p := ⟨gb219, 1, none⟩) (Kd.ZH (p := ⟨gb219, 0, none⟩) (Kd.ZH (p := ⟨gb218, 1, none⟩) (Kd.ZH (p := ⟨gb218, 0, none⟩) (Kd.ZI (Kd.ZI HO215.out BK218.out (by decide)) BK219.out (by decide)) (fun _ hk => hk.1.2) (.bool t212)) (fun _ hk => hk.1.2) (.slice Ao21 t213.length co21)) (fun _ hk => hk.2) (.int .i64 t216)) (fun _ hk => hk.2) (.int .i64 t217)) (fun _ h_ => h_.1)) (fun _ h_ => h_.1))))) (Zi (by repeat (with_reducible first | exact HB.out | apply Zc | apply Za | apply Zd | refine Zh ?_ GE218.out | refine Zh ?_ GE219.out)))); have n3_ := Zb.mk (Zn (g := gb218) (o := .cells #[.bool t212, .slice Ao21 t213.length co21] 24 (0, 0)) (by (with_reducible repeat first | refine Ze ?_ _ | refine Zg ?_ | refine Zf ?_ _); refine Zr ?_ NB218_219.out _; (with_reducible repeat first | refine Ze ?_ _ | refine Zg ?_ | refine Zf ?_ _); refine Zr ?_ NB218_219.out _; (with_reducible repeat first | refine Ze ?_ _ | refine Zg ?_ | refine Zf ?_ _); refine Zu (cs := #[.bool t212, .slice none 0 0]) ?_ 1 _ rfl; (with_reducible repeat first | refine Ze ?_ _ | refine Zg ?_ | refine Zf ?_ _); refine Zu (cs := #[.bool false, .slice none 0 0]) ?_ 0 _ rfl; (with_reducible repeat first | refine Ze ?_ _ | refine Zg ?_ | refine Zf ?_ _); exact BK218.out) hb); have n4_ := Zb.mk (Zn (g := gb219) (o := .cells #[.int .i64 t216, .int .i64 t217] 35 (0, 0)) (by (with_reducible repeat first | refine Ze ?_ _ | refine Zg ?_ | refine Zf ?_ _); refine Zu (cs := #[.int .i64 t216, .int .i64 0]) ?_ 1 _ rfl; (with_reducible repeat first | refine Ze ?_ _ | refine Zg ?_ | refine Zf ?_ _); refine Zu (cs := #[.int .i64 0, .int .i64 0]) ?_ 0 _ rfl; (with_reducible repeat first | refine Ze ?_ _ | refine Zg ?_ | refine Zf ?_ _); refine Zr ?_ NB219_218.out _; (with_reducible repeat first | refine Ze ?_ _ | refine Zg ?_ | refine Zf ?_ _); refine Zr ?_ NB219_218.out _; (with_reducible repeat first | refine Ze ?_ _ | refine Zg ?_ | refine Zf ?_ _); exact BK219.out) hb); have n5_ := Zb.mk (Zl (by repeat (with_reducible first | exact HB.out | apply Zc | apply Za | apply Zd | refine Zh ?_ GE218.out | refine Zh ?_ GE219.out)) hb); clear HO209; clear HO215; clear BK218; clear BK219; clear HB; have HO209 := n0_; have HO215 := n1_; have HO223 := n2_; have BK218 := n3_; have BK219 := n4_; have HB := n5_; clear n0_ n1_ n2_ n3_ n4_ n5_; (try clear hb); (try clear hb2); (try clear hk); (try clear hi); (try clear ho0); obtain ⟨Ao24, co24, eo24⟩ := Kd.Zy HO223.out; subst eo24) | ((with_reducible refine Zp (f := 14) rfl ?_); refine ZB (some 18) rfl rfl Try.func14 (by kernel_rfl) rfl #[.agg #[.bool t220, .slice Ao24 t221.length co24], .int .i64 16] rfl (by (try simp only [List.map_toArray, List.map_cons, List.map_nil]); first | done | rfl | (simp only [List.length_drop, List.length_take]; rfl)) ?_; (with_reducible refine (base_Count.calls k t220 _ _ t221 16 t224 t225 _ ?side1 ?side2 A5.out).mono ?_); (case side1 => repeat (first | exact (Kd.Zv HO223.out).2.2 | (with_reducible refine Kd.ZC ?_ _) | (with_reducible refine Kd.ZF ?_ _) | (with_reducible refine Kd.ZN ?_))); (case side2 => exact (Kd.Zv HO223.out).2.1); rintro e w25 ⟨rfl, hb⟩; refine ⟨_, rfl, ?_⟩; have n0_ := Zb.mk (Kd.Zz (by (with_reducible repeat first | apply Kd.Zm | apply Kd.Zo); exact HO209.out) hb); have n1_ := Zb.mk (Kd.Zz (by (with_reducible repeat first | apply Kd.Zm | apply Kd.Zo); exact HO215.out) hb); have n2_ := Zb.mk (Kd.Zz (by (with_reducible repeat first | apply Kd.Zm | apply Kd.Zo); exact HO223.out) hb); have n3_ := Zb.mk (Zn (g := gb218) (o := .cells #[.bool t212, .slice Ao21 t213.length co21] 24 (0, 0)) (by (with_reducible repeat first | refine Ze ?_ _ | refine Zg ?_ | refine Zf ?_ _); exact BK218.out) hb); have n4_ := Zb.mk (Zn (g := gb219) (o := .cells #[.int .i64 t216, .int .i64 t217] 35 (0, 0)) (by (with_reducible repeat first | refine Ze ?_ _ | refine Zg ?_ | refine Zf ?_ _); exact BK219.out) hb); have n5_ := Zb.mk (Zl (by repeat (with_reducible first | exact HB.out | apply Zc | apply Za | apply Zd | refine Zh ?_ GE218.out | refine Zh ?_ GE219.out)) hb); clear HO209; clear HO215; clear HO223; clear BK218; clear BK219; clear HB; have HO209 := n0_; have HO215 := n1_; have HO223 := n2_; have BK218 := n3_; have BK219 := n4_; have HB := n5_; clear n0_ n1_ n2_ n3_ n4_ n5_; (try clear hb); (try clear hb2); (try clear hk); (try clear hi)))
      have n0_ := Zb.mk (Kd.Zo HO209.out)
      have n1_ := Zb.mk (Kd.Zo HO215.out)
      have n2_ := Zb.mk (Kd.Zo HO223.out)
      have n3_ := Zb.mk (Zg BK218.out)
      have n4_ := Zb.mk (Zg BK219.out)
      have n5_ := Zb.mk (Zd HB.out)
      clear HO209
      clear HO215
      clear HO223
      clear BK218
      clear BK219
      clear HB
      have HO209 := n0_
      have HO215 := n1_
      have HO223 := n2_
      have BK218 := n3_
      have BK219 := n4_
      have HB := n5_
      clear n0_ n1_ n2_ n3_ n4_ n5_
      refine start_ (n := 25) (S := fun w' => w'.cell? ⟨gb219, 0, none⟩ = some (.int .i64 t216) ∧ w'.cell? ⟨gb219, 1, none⟩ = some (.int .i64 t217) ∧ w'.cell? ⟨gb218, 0, none⟩ = some (.bool t212) ∧ w'.cell? ⟨gb218, 1, none⟩ = some (.slice Ao21 t213.length co21)) (ds := []) #[false, false, false, false, false, false, false, false, false, false, false, false, false, false, false, false, false, false, false, false, false, false, false, false, false] (by kernel_rfl) rfl rfl ⟨(Zk BK219.out 0).trans rfl, (Zk BK219.out 1).trans rfl, (Zk BK218.out 0).trans rfl, (Zk BK218.out 1).trans rfl⟩ (fun hHeld => ?_); refine with_tabW w19awake.tab4 w19awake.bits4 (fun HT_ HW_ => ?_)
      generalize w25.drew = w26 at HO209 HO215 HO223 BK218 BK219 HB hHeld ⊢
      refine ZM (i := 0) (N := some 21) (v := ?_) (a' := ?_) #[true, false, false, false, false, false, false, false, false, false, false, false, false, false, false, false, false, false, false, false, false, false, false, false, false] rfl rfl (ZD HT_.out (by kernel_rfl)) (fun _ _ _ h => h) (Or.inl ⟨by rfl, ?_⟩) ?_ ?_
      rotate_left
      ·intro w'
       go_simp
       with_reducible rfl
      rotate_left
      ·simp only [Act.put, List.setIfInBounds_toArray, List.set_cons_zero, List.set_cons_succ, Zx, ZA]
       rfl
      refine ZM (i := 1) (N := some 22) (v := ?_) (a' := ?_) #[true, true, false, false, false, false, false, false, false, false, false, false, false, false, false, false, false, false, false, false, false, false, false, false, false] rfl rfl (ZD HT_.out (by kernel_rfl)) (fun _ _ _ h => h) (Or.inl ⟨by rfl, ?_⟩) ?_ ?_
      rotate_left
      ·intro w'
       go_simp
       with_reducible rfl
      rotate_left
      ·simp only [Act.put, List.setIfInBounds_toArray, List.set_cons_zero, List.set_cons_succ, Zx, ZA]
       rfl
      refine ZM (i := 2) (N := some 23) (v := ?_) (a' := ?_) #[true, true, true, false, false, false, false, false, false, false, false, false, false, false, false, false, false, false, false, false, false, false, false, false, false] rfl rfl (ZD HT_.out (by kernel_rfl)) (fun _ _ _ h => h) (Or.inl ⟨by rfl, ?_⟩) ?_ ?_
      rotate_left
      ·intro w'
       go_simp
       with_reducible rfl
      rotate_left
      ·simp only [Act.put, List.setIfInBounds_toArray, List.set_cons_zero, List.set_cons_succ, Zx, ZA]
       rfl
      refine ZM (i := 3) (N := some 24) (v := ?_) (a' := ?_) #[true, true, true, true, false, false, false, false, false, false, false, false, false, false, false, false, false, false, false, false, false, false, false, false, false] rfl rfl (ZD HT_.out (by kernel_rfl)) (fun _ _ _ h => h) (Or.inl ⟨by rfl, ?_⟩) ?_ ?_
      rotate_left
      ·intro w'
       go_simp
       with_reducible rfl
      rotate_left
      ·simp only [Act.put, List.setIfInBounds_toArray, List.set_cons_zero, List.set_cons_succ, Zx, ZA]
       rfl
      refine ZM (i := 4) (N := some 25) (v := ?_) (a' := ?_) #[true, true, true, true, true, false, false, false, false, false, false, false, false, false, false, false, false, false, false, false, false, false, false, false, false] rfl rfl (ZD HT_.out (by kernel_rfl)) (fun _ _ _ h => h) (Or.inl ⟨by rfl, ?_⟩) ?_ ?_
      rotate_left
      ·intro w'
       go_simp
       with_reducible rfl
      rotate_left
      ·simp only [Act.put, List.setIfInBounds_toArray, List.set_cons_zero, List.set_cons_succ, Zx, ZA]
       rfl
      refine ZM (i := 5) (N := some 26) (v := ?_) (a' := ?_) #[true, true, true, true, true, true, false, false, false, false, false, false, false, false, false, false, false, false, false, false, false, false, false, false, false] rfl rfl (ZD HT_.out (by kernel_rfl)) (fun _ _ _ h => h) (Or.inl ⟨by rfl, ?_⟩) ?_ ?_
      rotate_left
      ·intro w'
       go_simp
       with_reducible rfl
      rotate_left
      ·simp only [Act.put, List.setIfInBounds_toArray, List.set_cons_zero, List.set_cons_succ, Zx, ZA]
       rfl
      refine ZM (i := 6) (N := some 27) (v := ?_) (a' := ?_) #[true, true, true, true, true, true, true, false, false, false, false, false, false, false, false, false, false, false, false, false, false, false, false, false, false] rfl rfl (ZD HT_.out (by kernel_rfl)) (fun _ _ _ h => h) (Or.inl ⟨by rfl, ?_⟩) ?_ ?_
      rotate_left
      ·intro w'
       go_simp
       with_reducible rfl
      rotate_left
      ·simp only [Act.put, List.setIfInBounds_toArray, List.set_cons_zero, List.set_cons_succ, Zx, ZA]
       rfl
      refine ZM (i := 8) (N := some 29) (v := ?_) (a' := ?_) #[true, true, true, true, true, true, true, false, true, false, false, false, false, false, false, false, false, false, false, false, false, false, false, false, false] rfl rfl (ZD HT_.out (by kernel_rfl)) (fun _ _ _ h => h) (Or.inl ⟨by rfl, ?_⟩) ?_ ?_
      rotate_left
      ·intro w'
       go_simp
       with_reducible rfl
      rotate_left
      ·simp only [Act.put, List.setIfInBounds_toArray, List.set_cons_zero, List.set_cons_succ, Zx, ZA]
       rfl
      refine take_ (i := 7) (N := some 28) (v := ?_) (a' := ?_) #[true, true, true, true, true, true, true, true, true, false, false, false, false, false, false, false, false, false, false, false, false, false, false, false, false] rfl rfl (take_ofW HT_.out HW_.out (by kernel_rfl)) (fun _ _ _ h => h) (Or.inl ⟨by rfl, ?_⟩) hHeld ?_ ?_
      rotate_left
      ·rintro w' ⟨s0, s1, s2, s3⟩
       go_simp
       with_reducible rfl
      rotate_left
      ·simp only [Act.put, List.setIfInBounds_toArray, List.set_cons_zero, List.set_cons_succ, Zx, ZA]
       rfl
      refine ZM (i := 9) (N := some 30) (v := ?_) (a' := ?_) #[true, true, true, true, true, true, true, true, true, true, false, false, false, false, false, false, false, false, false, false, false, false, false, false, false] rfl rfl (ZD HT_.out (by kernel_rfl)) (fun _ _ _ h => h) (Or.inl ⟨by rfl, ?_⟩) ?_ ?_
      rotate_left
      ·intro w'
       go_simp
       with_reducible rfl
      rotate_left
      ·simp only [Act.put, List.setIfInBounds_toArray, List.set_cons_zero, List.set_cons_succ, Zx, ZA]
       rfl
      refine ZM (i := 10) (N := some 31) (v := ?_) (a' := ?_) #[true, true, true, true, true, true, true, true, true, true, true, false, false, false, false, false, false, false, false, false, false, false, false, false, false] rfl rfl (ZD HT_.out (by kernel_rfl)) (fun _ _ _ h => h) (Or.inl ⟨by rfl, ?_⟩) ?_ ?_
      rotate_left
      ·intro w'
       go_simp
       with_reducible rfl
      rotate_left
      ·simp only [Act.put, List.setIfInBounds_toArray, List.set_cons_zero, List.set_cons_succ, Zx, ZA]
       rfl
      refine ZM (i := 11) (N := some 32) (v := ?_) (a' := ?_) #[true, true, true, true, true, true, true, true, true, true, true, true, false, false, false, false, false, false, false, false, false, false, false, false, false] rfl rfl (ZD HT_.out (by kernel_rfl)) (fun _ _ _ h => h) (Or.inl ⟨by rfl, ?_⟩) ?_ ?_
      rotate_left
      ·intro w'
       go_simp
       with_reducible rfl
      rotate_left
      ·simp only [Act.put, List.setIfInBounds_toArray, List.set_cons_zero, List.set_cons_succ, Zx, ZA]
       rfl
      refine take_ (i := 12) (N := some 33) (v := ?_) (a' := ?_) #[true, true, true, true, true, true, true, true, true, true, true, true, true, false, false, false, false, false, false, false, false, false, false, false, false] rfl rfl (take_ofW HT_.out HW_.out (by kernel_rfl)) (fun _ _ _ h => h) (Or.inl ⟨by rfl, ?_⟩) hHeld ?_ ?_
      rotate_left
      ·rintro w' ⟨s0, s1, s2, s3⟩
       go_simp
       with_reducible rfl
      rotate_left
      ·simp only [Act.put, List.setIfInBounds_toArray, List.set_cons_zero, List.set_cons_succ, Zx, ZA]
       rfl
      refine one_ (i := 13) (N := some 34) #[true, true, true, true, true, true, true, true, true, true, true, true, true, true, false, false, false, false, false, false, false, false, false, false, false] rfl rfl (one_of HT_.out (by kernel_rfl)) (by decide) (fun K hK => ?_)
      refine goes_ Try.func35 (by kernel_rfl) rfl #[.int .i64 35] (by rfl) rfl rfl (by (try simp only [List.map_toArray, List.map_cons, List.map_nil]); first | done | rfl | (simp only [List.length_drop, List.length_take]; rfl)) ?_
      with_reducible refine (rmSmall.calls k 35 t226 t227 _ A9.out).mono ?_
      rintro e w27 ⟨v228, rfl, ho0, hb⟩
      refine ⟨_, rfl, ?_⟩
      have n0_ := Zb.mk (Kd.ZJ (by (with_reducible repeat first | apply Kd.Zm | apply Kd.Zo); exact HO209.out) (Kd.ZV ho0) hb)
      have n1_ := Zb.mk (Kd.ZJ (by (with_reducible repeat first | apply Kd.Zm | apply Kd.Zo); exact HO215.out) (Kd.ZV ho0) hb)
      have n2_ := Zb.mk (Kd.ZJ (by (with_reducible repeat first | apply Kd.Zm | apply Kd.Zo); exact HO223.out) (Kd.ZV ho0) hb)
      have n3_ := Zb.mk (Kd.ZG (Kd.R_new' (Kd.R_new' (Kd.R_new' ho0 (Kd.R_lt (by (with_reducible repeat first | apply Kd.Zm | apply Kd.Zo); exact HO209.out))) (Kd.R_lt (by (with_reducible repeat first | apply Kd.Zm | apply Kd.Zo); exact HO215.out))) (Kd.R_lt (by (with_reducible repeat first | apply Kd.Zm | apply Kd.Zo); exact HO223.out))) (Zi (by repeat (with_reducible first | exact HB.out | apply Zc | apply Za | apply Zd | refine Zh ?_ GE218.out | refine Zh ?_ GE219.out))))
      have n4_ := Zb.mk (Zn (g := gb218) (o := .cells #[.bool t212, .slice Ao21 t213.length co21] 24 (0, 0)) (by (with_reducible repeat first | refine Ze ?_ _ | refine Zg ?_ | refine Zf ?_ _); exact BK218.out) hb)
      have n5_ := Zb.mk (Zn (g := gb219) (o := .cells #[.int .i64 t216, .int .i64 t217] 35 (0, 0)) (by (with_reducible repeat first | refine Ze ?_ _ | refine Zg ?_ | refine Zf ?_ _); exact BK219.out) hb)
      have n6_ := Zb.mk (Zl (by repeat (with_reducible first | exact HB.out | apply Zc | apply Za | apply Zd | refine Zh ?_ GE218.out | refine Zh ?_ GE219.out)) hb)
      clear HO209
      clear HO215
      clear HO223
      clear BK218
      clear BK219
      clear HB
      have HO209 := n0_
      have HO215 := n1_
      have HO223 := n2_
      have HO229 := n3_
      have BK218 := n4_
      have BK219 := n5_
      have HB := n6_
      clear n0_ n1_ n2_ n3_ n4_ n5_ n6_
      (try clear hb)
      (try clear hb2)
      (try clear hk)
      (try clear hi)
      (try clear ho0)
      obtain ⟨Ao28, co28, eo28⟩ := Kd.Zy HO229.out
      (first | subst eo28 | (injection eo28 with f1_ f2_ f3_; have f4_ := f1_.symm; have f5_ := f3_.symm; clear f1_ f2_ f3_; subst f4_; subst f5_))
      refine hK.out _ _ ⟨(Zk BK219.out 0).trans rfl, (Zk BK219.out 1).trans rfl, (Zk BK218.out 0).trans rfl, (Zk BK218.out 1).trans rfl⟩ (fun hHeld => ?_)
      clear hK K
      refine norm_ (a' := ?_) ?_ ?_
      rotate_left
      ·show Act.put _ (some 34) _ = _
       simp only [Act.put, List.setIfInBounds_toArray, List.set_cons_zero, List.set_cons_succ, Zx, ZA]
       rfl
      refine one_ (i := 14) (N := some 35) #[true, true, true, true, true, true, true, true, true, true, true, true, true, true, true, false, false, false, false, false, false, false, false, false, false] rfl rfl (one_of HT_.out (by kernel_rfl)) (by decide) (fun K hK => ?_)
      refine goes_ Try.func19 (by kernel_rfl) rfl #[.agg #[.bool t212, .slice Ao21 t213.length co21], .agg #[.bool t226, .slice Ao28 t227.length co28]] (by rfl) rfl rfl (by (try simp only [List.map_toArray, List.map_cons, List.map_nil]); first | done | rfl | (simp only [List.length_drop, List.length_take]; rfl)) ?_
      with_reducible refine (rkSameInt.calls k t212 _ _ t213 t226 _ _ t227 true _ ?side1 ?side2 ?side3 ?side4 A10.out).mono ?_
      (case side1 => repeat (first | exact (Kd.Zv HO215.out).2.2 | (with_reducible refine Kd.ZC ?_ _) | (with_reducible refine Kd.ZF ?_ _) | (with_reducible refine Kd.ZN ?_)))
      (case side2 => exact (Kd.Zv HO215.out).2.1)
      (case side3 => repeat (first | exact (Kd.Zv HO229.out).2.2 | (with_reducible refine Kd.ZC ?_ _) | (with_reducible refine Kd.ZF ?_ _) | (with_reducible refine Kd.ZN ?_)))
      (case side4 => exact (Kd.Zv HO229.out).2.1)
      rintro e w29 ⟨rfl, hb⟩
      refine ⟨_, rfl, ?_⟩
      have n0_ := Zb.mk (Kd.Zz (by (with_reducible repeat first | apply Kd.Zm | apply Kd.Zo); exact HO209.out) hb)
      have n1_ := Zb.mk (Kd.Zz (by (with_reducible repeat first | apply Kd.Zm | apply Kd.Zo); exact HO215.out) hb)
      have n2_ := Zb.mk (Kd.Zz (by (with_reducible repeat first | apply Kd.Zm | apply Kd.Zo); exact HO223.out) hb)
      have n3_ := Zb.mk (Kd.Zz (by (with_reducible repeat first | apply Kd.Zm | apply Kd.Zo); exact HO229.out) hb)
      have n4_ := Zb.mk (Zn (g := gb218) (o := .cells #[.bool t212, .slice Ao21 t213.length co21] 24 (0, 0)) (by (with_reducible repeat first | refine Ze ?_ _ | refine Zg ?_ | refine Zf ?_ _); exact BK218.out) hb)
      have n5_ := Zb.mk (Zn (g := gb219) (o := .cells #[.int .i64 t216, .int .i64 t217] 35 (0, 0)) (by (with_reducible repeat first | refine Ze ?_ _ | refine Zg ?_ | refine Zf ?_ _); exact BK219.out) hb)
      have n6_ := Zb.mk (Zl (by repeat (with_reducible first | exact HB.out | apply Zc | apply Za | apply Zd | refine Zh ?_ GE218.out | refine Zh ?_ GE219.out)) hb)
      clear HO209
      clear HO215
      clear HO223
      clear HO229
      clear BK218
      clear BK219
      clear HB
      have HO209 := n0_
      have HO215 := n1_
      have HO223 := n2_
      have HO229 := n3_
      have BK218 := n4_
      have BK219 := n5_
      have HB := n6_
      clear n0_ n1_ n2_ n3_ n4_ n5_ n6_
      (try clear hb)
      (try clear hb2)
      (try clear hk)
      (try clear hi)
      refine hK.out _ _ ⟨(Zk BK219.out 0).trans rfl, (Zk BK219.out 1).trans rfl, (Zk BK218.out 0).trans rfl, (Zk BK218.out 1).trans rfl⟩ (fun hHeld => ?_)
      clear hK K
      refine norm_ (a' := ?_) ?_ ?_
      rotate_left
      ·show Act.put _ (some 35) _ = _
       simp only [Act.put, List.setIfInBounds_toArray, List.set_cons_zero, List.set_cons_succ, Zx, ZA]
       rfl
      refine ZM (i := 15) (N := some 36) (v := ?_) (a' := ?_) #[true, true, true, true, true, true, true, true, true, true, true, true, true, true, true, true, false, false, false, false, false, false, false, false, false] rfl rfl (ZD HT_.out (by kernel_rfl)) (fun _ _ _ h => h) (Or.inl ⟨by rfl, ?_⟩) ?_ ?_
      rotate_left
      ·intro w'
       go_simp
       with_reducible rfl
      rotate_left
      ·simp only [Act.put, List.setIfInBounds_toArray, List.set_cons_zero, List.set_cons_succ, Zx, ZA]
       rfl
      refine ZM (i := 16) (N := some 37) (v := ?_) (a' := ?_) #[true, true, true, true, true, true, true, true, true, true, true, true, true, true, true, true, true, false, false, false, false, false, false, false, false] rfl rfl (ZD HT_.out (by kernel_rfl)) (fun _ _ _ h => h) (Or.inl ⟨by rfl, ?_⟩) ?_ ?_
      rotate_left
      ·intro w'
       go_simp
       with_reducible rfl
      rotate_left
      ·simp only [Act.put, List.setIfInBounds_toArray, List.set_cons_zero, List.set_cons_succ, Zx, ZA]
       rfl
      refine ZM (i := 17) (N := some 38) (v := ?_) (a' := ?_) #[true, true, true, true, true, true, true, true, true, true, true, true, true, true, true, true, true, true, false, false, false, false, false, false, false] rfl rfl (ZD HT_.out (by kernel_rfl)) (fun _ _ _ h => h) (Or.inl ⟨by rfl, ?_⟩) ?_ ?_
      rotate_left
      ·intro w'
       go_simp
       with_reducible rfl
      rotate_left
      ·simp only [Act.put, List.setIfInBounds_toArray, List.set_cons_zero, List.set_cons_succ, Zx, ZA]
       rfl
      refine ZM (i := 18) (N := some 39) (v := ?_) (a' := ?_) #[true, true, true, true, true, true, true, true, true, true, true, true, true, true, true, true, true, true, true, false, false, false, false, false, false] rfl rfl (ZD HT_.out (by kernel_rfl)) (fun _ _ _ h => h) (Or.inl ⟨by rfl, ?_⟩) ?_ ?_
      rotate_left
      ·intro w'
       go_simp
       with_reducible rfl
      rotate_left
      ·simp only [Act.put, List.setIfInBounds_toArray, List.set_cons_zero, List.set_cons_succ, Zx, ZA]
       rfl
      refine ZM (i := 19) (N := some 40) (v := ?_) (a' := ?_) #[true, true, true, true, true, true, true, true, true, true, true, true, true, true, true, true, true, true, true, true, false, false, false, false, false] rfl rfl (ZD HT_.out (by kernel_rfl)) (fun _ _ _ h => h) (Or.inl ⟨by rfl, ?_⟩) ?_ ?_
      rotate_left
      ·intro w'
       go_simp
       with_reducible rfl
      rotate_left
      ·simp only [Act.put, List.setIfInBounds_toArray, List.set_cons_zero, List.set_cons_succ, Zx, ZA]
       rfl
      refine ZM (i := 20) (N := some 41) (v := ?_) (a' := ?_) #[true, true, true, true, true, true, true, true, true, true, true, true, true, true, true, true, true, true, true, true, true, false, false, false, false] rfl rfl (ZD HT_.out (by kernel_rfl)) (fun _ _ _ h => h) (Or.inl ⟨by rfl, ?_⟩) ?_ ?_
      rotate_left
      ·intro w'
       go_simp
       with_reducible rfl
      rotate_left
      ·simp only [Act.put, List.setIfInBounds_toArray, List.set_cons_zero, List.set_cons_succ, Zx, ZA]
       rfl
      refine ZM (i := 21) (N := some 42) (v := ?_) (a' := ?_) #[true, true, true, true, true, true, true, true, true, true, true, true, true, true, true, true, true, true, true, true, true, true, false, false, false] rfl rfl (ZD HT_.out (by kernel_rfl)) (fun _ _ _ h => h) (Or.inl ⟨by rfl, ?_⟩) ?_ ?_
      rotate_left
      ·intro w'
       go_simp
       with_reducible rfl
      rotate_left
      ·simp only [Act.put, List.setIfInBounds_toArray, List.set_cons_zero, List.set_cons_succ, Zx, ZA]
       rfl
      refine ZM (i := 22) (N := some 43) (v := ?_) (a' := ?_) #[true, true, true, true, true, true, true, true, true, true, true, true, true, true, true, true, true, true, true, true, true, true, true, false, false] rfl rfl (ZD HT_.out (by kernel_rfl)) (fun _ _ _ h => h) (Or.inl ⟨by rfl, ?_⟩) ?_ ?_
      rotate_left
      ·intro w'
       go_simp
       with_reducible rfl
      rotate_left
      ·simp only [Act.put, List.setIfInBounds_toArray, List.set_cons_zero, List.set_cons_succ, Zx, ZA]
       rfl
      refine ZM (i := 23) (N := some 44) (v := ?_) (a' := ?_) #[true, true, true, true, true, true, true, true, true, true, true, true, true, true, true, true, true, true, true, true, true, true, true, true, false] rfl rfl (ZD HT_.out (by kernel_rfl)) (fun _ _ _ h => h) (Or.inl ⟨by rfl, ?_⟩) ?_ ?_
      rotate_left
      ·intro w'
       go_simp
       with_reducible rfl
      rotate_left
      ·simp only [Act.put, List.setIfInBounds_toArray, List.set_cons_zero, List.set_cons_succ, Zx, ZA]
       rfl
      refine ZM (i := 24) (N := some 0) (v := ?_) (a' := ?_) #[true, true, true, true, true, true, true, true, true, true, true, true, true, true, true, true, true, true, true, true, true, true, true, true, true] rfl rfl (ZD HT_.out (by kernel_rfl)) (fun _ _ _ h => h) (Or.inl ⟨by rfl, ?_⟩) ?_ ?_
      rotate_left
      ·intro w'
       go_simp
       with_reducible rfl
      rotate_left
      ·simp only [Act.put, List.setIfInBounds_toArray, List.set_cons_zero, List.set_cons_succ, Zx, ZA]
       rfl
      refine done_ (done_of HT_.out (by kernel_rfl)) ?_
      try go_wp2
      go_ret
      exact ⟨by first | rfl | (simp [errW_none, errW_some] <;> rfl) | (simp [*, errW_none, errW_some] <;> rfl), by repeat (with_reducible first | exact HB.out | apply Zc | apply Za | apply Zd | refine Zh ?_ GE218.out | refine Zh ?_ GE219.out)⟩
     ·rw [if_neg c12] at H
      exact absurd H (by simp)
    ·replace c11 := Bool.eq_false_iff.mpr c11
     subst c11
     have H1 : (none) = some r := by rw [if_neg (show ¬ (false = true) by decide)] at H; exact H
     clear H
     have H := H1
     clear H1
     exact absurd H (by simp)
   ·rw [if_neg c8] at H
    exact absurd H (by simp)
  ·rw [if_neg c7] at H
   exact absurd H (by simp)
 ·rw [if_neg c6] at H
  exact absurd H (by simp)
end Go.Proofs.Ytbmddlldadbfnaa.BB
end
section
namespace Go.Proofs.Ytbmddlldadbfnaa.BB
open Go.RowKit Go.Proofs.Ytbmddlldadbfnaa.BA Go.Proofs.YtbmddlldadbfnaaW.PrintWords Go.Proofs.YtbmddlldadbfnaaW.PrintLast Go.Proofs.YtbmddlldadbfnaaW.PrintMore
attribute [local go_sem] ZU ZS max_two min_two ZP ZO ZT ZR
set_option linter.unusedVariables false
set_option linter.unusedSimpArgs false
def r19may.f (a0 : Int) : Option (Bool) := if a0 ≥ 2 then (some (decide (a0 ≤ 36))) else (some false)
end Go.Proofs.Ytbmddlldadbfnaa.BB
end
section
namespace Go.Proofs.Ytbmddlldadbfnaa.BP
open Go.RowKit Go.Proofs.Ytbmddlldadbfnaa.BA Go.Proofs.Ytbmddlldadbfnaa.BB Go.Proofs.YtbmddlldadbfnaaW.PrintWords Go.Proofs.YtbmddlldadbfnaaW.PrintLast Go.Proofs.YtbmddlldadbfnaaW.PrintMore
attribute [local go_sem] ZU ZS max_two min_two ZP ZO ZT ZR
set_option linter.unusedVariables false
set_option linter.unusedSimpArgs false
def errW : Option Int → Value
 | none => .nilIface
 | some c => .iface 0 (.int .i64 c)
theorem errW_none : errW none = .nilIface := rfl
theorem errW_some (c : Int) : errW (some c) = .iface 0 (.int .i64 c) := rfl
theorem info5 : (Try.prog.info? 5).map (fun i => (i.zero, i.size, i.bytes)) = some (some (.int .u8 0), 1, 1) := by kernel_rfl
theorem info46 : (Try.prog.info? 46).map (fun i => (i.zero, i.size, i.bytes)) = some (some (.int .u64 0), 1, 8) := by kernel_rfl
end Go.Proofs.Ytbmddlldadbfnaa.BP
end
section
namespace Go.Proofs.Ytbmddlldadbfnaa.BP
open Go.RowKit Go.Proofs.Ytbmddlldadbfnaa.BA Go.Proofs.Ytbmddlldadbfnaa.BB Go.Proofs.YtbmddlldadbfnaaW.PrintWords Go.Proofs.YtbmddlldadbfnaaW.PrintLast Go.Proofs.YtbmddlldadbfnaaW.PrintMore
attribute [local go_sem] ZU ZS max_two min_two ZP ZO ZT ZR
set_option linter.unusedVariables false
set_option linter.unusedSimpArgs false
def rkmark.f (a0 : Int) (a1 : Int) : Option (Int) := some (wrap64 ((wrap64 (1000003 * (wrap64 (a0 + 7)))) + a1))
set_option maxHeartbeats 8000000 in
set_option maxRecDepth 100000 in
theorem rkmark.calls (a0 : Int) (a1 : Int) (r : Int) (w : World) (h : rkmark.f a0 a1 = some r) :
  Calls Try.prog 74 #[.int .i64 a0, .int .i64 a1] w fun e w' => e = .returned (.int .i64 r) ∧ Zq w w' := by
 have H : (some (wrap64 ((wrap64 (1000003 * (wrap64 (a0 + 7)))) + a1))) = some r := h
 clear h
 obtain rfl := Option.some.inj H
 go_enter Try.func74, Try.ntmps74
 go_wp2
 go_ret
 exact ⟨by first | rfl | (simp; done) | (simp [*]; done), by repeat (first | exact Zq.refl _ | apply Zq.step)⟩
end Go.Proofs.Ytbmddlldadbfnaa.BP
end
section
namespace Go.Proofs.Ytbmddlldadbfnaa.BM
open Go.RowKit Go.Proofs.YtbmddlldadbfnaaW.PrintWords Go.Proofs.YtbmddlldadbfnaaW.PrintLast Go.Proofs.YtbmddlldadbfnaaW.PrintMore
def Ev {α : Type} (f : Nat → Option α) (r : α) : Prop := ∃ K, ∀ k, K ≤ k → f k = some r
namespace Ev
variable {α β : Type}
theorem pure (r : α) : Ev (fun _ => some r) r := ⟨0, fun _ _ => rfl⟩
theorem succ {f : Nat → Option α} {r : α} (h : Ev (fun k => f (k + 1)) r) : Ev f r := by
 obtain ⟨K, hK⟩ := h
 refine ⟨K + 1, fun k hk => ?_⟩
 have h : f (k - 1 + 1) = some r := hK (k - 1) (by omega)
 rwa [show k - 1 + 1 = k by omega] at h
theorem bind {f : Nat → Option α} {g : Nat → α → Option β} {a : α} {r : β} (hf : Ev f a) (hg : Ev (fun k => g k a) r) : Ev (fun k => (f k).bind (g k)) r := by
 obtain ⟨K, hK⟩ := hf
 obtain ⟨L, hL⟩ := hg
 refine ⟨max K L, fun k hk => ?_⟩
 show (f k).bind (g k) = some r
 rw [hK k (by omega)]
 exact hL k (by omega)
theorem bind1 {f : Option α} {g : Nat → α → Option β} {a : α} {r : β} (hf : f = some a) (hg : Ev (fun k => g k a) r) : Ev (fun k => f.bind (g k)) r := by
 subst hf; exact hg
theorem congr {f g : Nat → Option α} {r : α} (h : Ev g r) (e : ∀ k, f k = g k) : Ev f r := by
 obtain ⟨K, hK⟩ := h
 exact ⟨K, fun k hk => (e k).trans (hK k hk)⟩
theorem const {f : Option α} {r : α} (h : f = some r) : Ev (fun _ => f) r := ⟨0, fun _ _ => h⟩
end Ev
theorem w64 {n : Int} (h0 : -9223372036854775808 ≤ n) (h1 : n < 9223372036854775808) : wrap64 n = n := by unfold wrap64; omega
theorem u64 {n : Int} (h0 : 0 ≤ n) (h1 : n < 18446744073709551616) : IntKind.u64.wrap n = n := by rw [IntKind.wrap_u64]; omega
theorem u64m (n : Int) : IntKind.u64.wrap n = n % 18446744073709551616 := IntKind.wrap_u64 n
def V (B : Int) : List Int → Int
 | [] => 0
 | a :: l => a + B * V B l
def Dig (B : Int) (l : List Int) : Prop := ∀ a ∈ l, 0 ≤ a ∧ a < B
def Num (B : Int) (l : List Int) (n : Int) : Prop := Dig B l ∧ V B l = n
def Top (l : List Int) : Prop := ∀ h : l ≠ [], l.getLast h ≠ 0
def Can (B : Int) (l : List Int) (n : Int) : Prop := Num B l n ∧ Top l
theorem V_append (B : Int) (p q : List Int) : V B (p ++ q) = V B p + B ^ p.length * V B q := by
 induction p with
 | nil => simp [V]
 | cons a p ih => simp only [List.cons_append, V, ih, List.length_cons, Int.pow_succ]; grind
theorem V_snoc (B : Int) (p : List Int) (d : Int) : V B (p ++ [d]) = V B p + B ^ p.length * d := by
 rw [V_append]; simp [V]
theorem V_nonneg {B : Int} (hB : 0 < B) {l : List Int} (h : Dig B l) : 0 ≤ V B l := by
 induction l with
 | nil => simp [V]
 | cons a l ih =>
  have h1 := h a (by simp)
  have h2 := ih (fun x hx => h x (by simp [hx]))
  have := Int.mul_nonneg (Int.le_of_lt hB) h2
  simp only [V]; omega
theorem V_lt {B : Int} (hB : 0 < B) {l : List Int} (h : Dig B l) : V B l < B ^ l.length := by
 induction l with
 | nil => simp [V]
 | cons a l ih =>
  have h1 := h a (by simp)
  have h2 := ih (fun x hx => h x (by simp [hx]))
  have := Int.mul_le_mul_of_nonneg_left (show V B l + 1 ≤ B ^ l.length by omega) (Int.le_of_lt hB)
  simp only [V, List.length_cons, Int.pow_succ]
  grind
theorem Dig_append {B : Int} {p q : List Int} (hp : Dig B p) (hq : Dig B q) : Dig B (p ++ q) := by
 intro a ha
 rcases List.mem_append.1 ha with h | h
 ·exact hp a h
 ·exact hq a h
theorem Dig_one {B d : Int} (h0 : 0 ≤ d) (h1 : d < B) : Dig B [d] := by
 intro a ha; simp only [List.mem_singleton] at ha; subst ha; exact ⟨h0, h1⟩
theorem Dig_snoc {B d : Int} {p : List Int} (hp : Dig B p) (h0 : 0 ≤ d) (h1 : d < B) : Dig B (p ++ [d]) := Dig_append hp (Dig_one h0 h1)
theorem Dig_nil (B : Int) : Dig B [] := by intro a ha; simp at ha
theorem Dig_take {B : Int} {l : List Int} (h : Dig B l) (i : Nat) : Dig B (l.take i) := fun a ha => h a (List.mem_of_mem_take ha)
theorem Dig_tail {B a : Int} {l : List Int} (h : Dig B (a :: l)) : Dig B l := fun x hx => h x (by simp [hx])
theorem pow_pos' {B : Int} (hB : 0 < B) (n : Nat) : 0 < B ^ n := by
 induction n with
 | zero => simp
 | succ n ih => rw [Int.pow_succ]; exact Int.mul_pos ih hB
theorem pow_le' {B : Int} (hB : 1 ≤ B) {m n : Nat} (h : m ≤ n) : B ^ m ≤ B ^ n := by
 induction n with
 | zero => rw [show m = 0 by omega]; simp
 | succ n ih =>
  rcases Nat.lt_or_ge m (n + 1) with hlt | hge
  ·have h1 := ih (by omega)
   have h2 := pow_pos' (show 0 < B by omega) n
   have h3 := Int.mul_le_mul_of_nonneg_left hB (Int.le_of_lt h2)
   rw [Int.pow_succ]; omega
  ·rw [show m = n + 1 by omega]; exact Int.le_refl _
theorem pow_mono {a b : Int} (ha : 0 ≤ a) (h : a ≤ b) (n : Nat) : a ^ n ≤ b ^ n := by
 induction n with
 | zero => simp
 | succ n ih =>
  rw [Int.pow_succ, Int.pow_succ]
  exact Int.mul_le_mul ih h ha (Int.pow_nonneg (by omega))
theorem rd_nat (l : List Int) {i : Nat} (h : i < l.length) : rd l (i : Int) = l[i] := by
 unfold rd; simp [List.getD_eq_getElem?_getD, h]
theorem rd_int (l : List Int) {i : Int} (h0 : 0 ≤ i) (h : i < l.length) : rd l i = l[i.toNat]'(by omega) := by
 unfold rd; simp [List.getD_eq_getElem?_getD, show i.toNat < l.length by omega]
theorem rd_dig {B : Int} {l : List Int} (hl : Dig B l) {i : Int} (h0 : 0 ≤ i) (h : i < l.length) : 0 ≤ rd l i ∧ rd l i < B := by
 rw [rd_int l h0 h]; exact hl _ (List.getElem_mem _)
theorem take_rd (l : List Int) {i : Nat} (h : i < l.length) : l.take (i + 1) = l.take i ++ [rd l (i : Int)] := by
 rw [rd_nat l h, List.take_append_getElem h]
theorem V_take (B : Int) (l : List Int) {i : Nat} (h : i < l.length) : V B (l.take (i + 1)) = V B (l.take i) + B ^ i * rd l (i : Int) := by
 rw [take_rd l h, V_snoc, List.length_take, Nat.min_eq_left (by omega)]
theorem set_pad (p : List Int) (d : Int) (j : Nat) : (p ++ List.replicate (j + 1) 0).set p.length d = (p ++ [d]) ++ List.replicate j 0 := by
 rw [List.set_append_right _ _ (Nat.le_refl _)]; simp [List.replicate_succ]
theorem getLast_rd (l : List Int) (h : l ≠ []) : l.getLast h = rd l ((l.length : Int) - 1) := by
 have : 0 < l.length := List.length_pos_iff.2 h
 rw [rd_int l (by omega) (by omega), List.getLast_eq_getElem]
 congr 1; omega
theorem Can_unique {B : Int} (hB : 1 < B) : ∀ {l m : List Int} {n : Int}, Can B l n → Can B m n → l = m
 | [], [], _, _, _ => rfl
 | [], b :: m, n, h, h' => by
  exfalso
  have e : V B (b :: m) = 0 := by rw [h'.1.2, ← h.1.2]; rfl
  have hd := h'.1.1
  have b0 := hd b (by simp)
  have v0 := V_nonneg (by omega : 0 < B) (Dig_tail hd)
  have p0 := Int.mul_nonneg (show 0 ≤ B by omega) v0
  simp only [V] at e
  have hb : b = 0 := by omega
  have hv : B * V B m = 0 := by omega
  have hv' : V B m = 0 := by rcases Int.mul_eq_zero.1 hv with h | h <;> omega
  cases m with
  | nil => exact h'.2 (by simp) (by simpa using hb)
  | cons c m =>
   have : Can B (c :: m) 0 := ⟨⟨Dig_tail hd, hv'⟩, fun hne => by have := h'.2 (by simp); simpa using this⟩
   exact absurd (Can_unique hB (l := []) (m := c :: m) ⟨⟨Dig_nil B, rfl⟩, fun h => absurd rfl h⟩ this) (by simp)
 | a :: l, [], n, h, h' => by
  exfalso
  have e : V B (a :: l) = 0 := by rw [h.1.2, ← h'.1.2]; rfl
  have hd := h.1.1
  have b0 := hd a (by simp)
  have v0 := V_nonneg (by omega : 0 < B) (Dig_tail hd)
  have p0 := Int.mul_nonneg (show 0 ≤ B by omega) v0
  simp only [V] at e
  have hb : a = 0 := by omega
  have hv : B * V B l = 0 := by omega
  have hv' : V B l = 0 := by rcases Int.mul_eq_zero.1 hv with h | h <;> omega
  cases l with
  | nil => exact h.2 (by simp) (by simpa using hb)
  | cons c m =>
   have : Can B (c :: m) 0 := ⟨⟨Dig_tail hd, hv'⟩, fun hne => by have := h.2 (by simp); simpa using this⟩
   exact absurd (Can_unique hB (l := c :: m) (m := []) this ⟨⟨Dig_nil B, rfl⟩, fun h => absurd rfl h⟩) (by simp)
 | a :: l, b :: m, n, h, h' => by
  have e : a + B * V B l = b + B * V B m := by
   have h1 := h.1.2; have h2 := h'.1.2; simp only [V] at h1 h2; omega
  have a0 := h.1.1 a (by simp)
  have b0 := h'.1.1 b (by simp)
  have hab : a = b := by
   have h1 : (a + B * V B l) % B = a := by rw [Int.add_mul_emod_self_left]; exact Int.emod_eq_of_lt a0.1 a0.2
   have h2 : (b + B * V B m) % B = b := by rw [Int.add_mul_emod_self_left]; exact Int.emod_eq_of_lt b0.1 b0.2
   rw [← h1, e, h2]
  have hv : V B l = V B m := by
   have : B * V B l = B * V B m := by omega
   exact Int.eq_of_mul_eq_mul_left (by omega) this
  have tl : Top l := fun hne => by have := h.2 (by simp); rwa [List.getLast_cons hne] at this
  have tm : Top m := fun hne => by have := h'.2 (by simp); rwa [List.getLast_cons hne] at this
  rw [hab, Can_unique hB (l := l) (m := m) (n := V B l) ⟨⟨Dig_tail h.1.1, rfl⟩, tl⟩ ⟨⟨Dig_tail h'.1.1, hv.symm⟩, tm⟩]
 termination_by l m => l.length + m.length
theorem Can_nil (B : Int) : Can B [] 0 := ⟨⟨Dig_nil B, rfl⟩, fun h => absurd rfl h⟩
theorem Can_zero {B : Int} (hB : 1 < B) {l : List Int} (h : Can B l 0) : l = [] := Can_unique hB h (Can_nil B)
theorem Can_low {B : Int} (hB : 1 < B) {l : List Int} {n : Int} (h : Can B l n) (hne : l ≠ []) : B ^ (l.length - 1) ≤ n := by
 have hl : 0 < l.length := List.length_pos_iff.2 hne
 have e : l = l.take (l.length - 1) ++ [l.getLast hne] := by
  rw [List.getLast_eq_getElem]
  conv => lhs; rw [← List.take_length (l := l), show l.length = l.length - 1 + 1 by omega, List.take_add_one]
  simp [show l.length - 1 < l.length by omega]
 have hv := h.1.2
 rw [e, V_snoc, List.length_take, Nat.min_eq_left (by omega)] at hv
 have v0 := V_nonneg (by omega : 0 < B) (Dig_take h.1.1 (l.length - 1))
 have t0 := h.2 hne
 have d0 := h.1.1 (l.getLast hne) (List.getLast_mem hne)
 have := Int.mul_le_mul_of_nonneg_left (show (1 : Int) ≤ l.getLast hne by omega) (Int.le_of_lt (pow_pos' (by omega : 0 < B) (l.length - 1)))
 omega
theorem Can_len {B : Int} (hB : 1 < B) {l : List Int} {n : Int} (h : Can B l n) {c : Nat} (hn : n < B ^ c) : l.length ≤ c := by
 rcases Nat.lt_or_ge c l.length with hlt | hge
 ·exfalso
  have hne : l ≠ [] := by intro h0; subst h0; simp at hlt
  have h1 := Can_low hB h hne
  have h2 := pow_le' (show 1 ≤ B by omega) (show c ≤ l.length - 1 by omega)
  omega
 ·exact hge
theorem Can_pos {B : Int} (hB : 1 < B) {l : List Int} {n : Int} (h : Can B l n) (hne : l ≠ []) : 0 < n := by
 have h1 := Can_low hB h hne
 have h2 := pow_pos' (show 0 < B by omega) (l.length - 1)
 omega
theorem Can_nonneg {B : Int} (hB : 0 < B) {l : List Int} {n : Int} (h : Can B l n) : 0 ≤ n := by
 have := V_nonneg hB h.1.1; rw [h.1.2] at this; exact this
theorem V_take_zero (B : Int) (l : List Int) {i : Nat} (h : i < l.length) (h0 : rd l (i : Int) = 0) : V B (l.take i) = V B (l.take (i + 1)) := by
 rw [V_take B l h, h0]; simp
theorem Top_take {l : List Int} {i : Nat} (h : i < l.length) (h0 : rd l (i : Int) ≠ 0) : Top (l.take (i + 1)) := by
 intro hne
 simp only [take_rd l h, List.getLast_append, List.getLast_singleton]
 simpa using h0
theorem bt_range (s : ByteArray) (i : Int) : 0 ≤ bt s i ∧ bt s i < 256 := by
 unfold bt; split
 ·rename_i h
  have := (s[i.toNat]'h).toNat_lt
  omega
 ·omega
end Go.Proofs.Ytbmddlldadbfnaa.BM
end
section
namespace Go.Proofs.Ytbmddlldadbfnaa.BP
open Go.Proofs.Ytbmddlldadbfnaa.BM (w64 u64)
open Go.RowKit Go.Proofs.Ytbmddlldadbfnaa.BA Go.Proofs.Ytbmddlldadbfnaa.BB Go.Proofs.YtbmddlldadbfnaaW.PrintWords Go.Proofs.YtbmddlldadbfnaaW.PrintLast Go.Proofs.YtbmddlldadbfnaaW.PrintMore
attribute [local go_sem] ZU ZS max_two min_two ZP ZO ZT ZR
set_option linter.unusedVariables false
set_option linter.unusedSimpArgs false
def nums (l : List Int) : List Value := l.map (fun x => .int .u64 x)
theorem own_C {w : World} {base g n cap : Nat} {xs : List Int} (h : w.ownsRow base 46 1 (.slice (some ⟨g, 0, none⟩) n cap) n (nums xs)) (hn : xs.length = n) (hm : n ≤ 9223372036854775807) : Kd.C (Kd.int .u64) w (some ⟨g, 0, none⟩) n xs := by
 refine Kd.C_of_reads (d := (0 : Int)) (h1 := fun _ => rfl) ⟨hn, hm, fun _ => ⟨_, rfl, fun j hj => ?_⟩⟩
 refine h.cells rfl j _ ?_
 simp [nums, List.getD_eq_getElem?_getD, show j < xs.length by omega]
theorem C_set {w : World} {ad : Addr} {n : Nat} {xs : List Int} (h : Kd.C (Kd.int .u64) w (some ad) n xs) {p : Addr} (hp : ad.block ≠ p.block) (u : Value) : Kd.C (Kd.int .u64) (w.setCell p u) (some ad) n xs := by
 obtain ⟨h1, h2, h3⟩ := Kd.reads_of_C (d := (0 : Int)) h
 refine Kd.C_of_reads (d := (0 : Int)) (h1 := fun _ => rfl) ⟨h1, h2, fun hn => ?_⟩
 obtain ⟨a2, e2, hd⟩ := h3 hn
 cases e2
 exact ⟨_, rfl, fun j hj => (cell_far (a := ad.add j) (p := p) (by have e : (ad.add j).block = ad.block := (by unfold Addr.add; split <;> rfl); rw [e]; exact hp) _).trans (hd j hj)⟩
end Go.Proofs.Ytbmddlldadbfnaa.BP
end

/- Part of the proof that package base reads any text of at most 3000 bytes, or longer than 1048576, in any base, as the reference does: the same number, the same fault, the same place. -/
import Derived.Test.YtokmpejgfkfmbaaCA3
section
namespace Go.Proofs.Ytokmpejgfkfmbaa.BB
open Go.RowKit Go.Proofs.Ytokmpejgfkfmbaa.BA Go.Proofs.YtokmpejgfkfmbaaW.PrintWords Go.Proofs.YtokmpejgfkfmbaaW.PrintLast Go.Proofs.YtokmpejgfkfmbaaW.PrintMore
attribute [local go_sem] ZU ZS max_two min_two ZP ZO ZT ZR
set_option linter.unusedVariables false
set_option linter.unusedSimpArgs false
mutual
def r00NatAdd.l0 : Nat → List Int → List Int → List Int → Int → Int → Option (List Int)
 | 0, _, _, _, _, _ => none
 | k + 1, x5, x6, x7, x8, x9 => if x9 < (x5.length : Int) then (r00NatAdd.j1 k x5 x6 x7 x8 x9 true) else (if x9 < (x6.length : Int) then (r00NatAdd.j1 k x5 x6 x7 x8 x9 true) else (r00NatAdd.j1 k x5 x6 x7 x8 x9 (decide (x8 > 0))))
def r00NatAdd.j1 : Nat → List Int → List Int → List Int → Int → Int → Bool → Option (List Int)
 | 0, _, _, _, _, _, _ => none
 | k + 1, x5, x6, x7, x8, x9, x28 => if x28 = true then ((r00digit.f x5 x9).bind fun t238 => ((r00digit.f x6 x9).bind fun t239 => (if x7.length < 17592186044416 then (r00NatAdd.l0 k x5 x6 (x7 ++ [Int.tmod (IntKind.u64.wrap ((IntKind.u64.wrap (t238 + t239)) + x8)) 4294967296]) (IntKind.u64.wrap (Int.tdiv (IntKind.u64.wrap ((IntKind.u64.wrap (t238 + t239)) + x8)) 4294967296)) (wrap64 (x9 + 1))) else (none)))) else ((r00limbs.f k x7).bind fun t243 => (some t243))
end
def r00NatAdd.f (k : Nat) (l0 : List Int) (l1 : List Int) : Option (List Int) := (r00halves.f k l0).bind fun t232 => ((r00halves.f k l1).bind fun t235 => (r00NatAdd.l0 k t232 t235 ([] : List Int) 0 0))
set_option maxHeartbeats 8000000 in
set_option maxRecDepth 100000 in
theorem r00NatAdd.calls (k : Nat) (A0 : Option Addr) (c0 : Nat) (l0 : List Int) (A1 : Option Addr) (c1 : Nat) (l1 : List Int) (r : List Int) (w : World) (hr0 : Kd.C (Kd.int .u64) w A0 l0.length l0) (hc0 : l0.length ≤ c0) (hr1 : Kd.C (Kd.int .u64) w A1 l1.length l1) (hc1 : l1.length ≤ c1) (h : r00NatAdd.f k l0 l1 = some r) :
  Calls Try.prog 56 #[.slice A0 l0.length c0, .slice A1 l1.length c1] w fun e w' => ∃ v0_ : Value, e = .returned (v0_) ∧ Kd.R (Kd.int .u64) 46 w' w.heap.size (fun _ => True) v0_ r ∧ Below w.heap.size w w' := by
 have HR0 := Zb.mk hr0
 have HC0 := Zb.mk hc0
 clear hr0 hc0
 have HR1 := Zb.mk hr1
 have HC1 := Zb.mk hc1
 clear hr1 hc1
 have HB := Zb.mk (Below.refl w.heap.size w)
 have H : ((r00halves.f k l0).bind fun t232 => ((r00halves.f k l1).bind fun t235 => (r00NatAdd.l0 k t232 t235 ([] : List Int) 0 0))) = some r := h
 clear h
 replace H := Option.bind_eq_some_iff.mp H
 obtain ⟨t232, A30, H⟩ := H
 replace H : ((r00halves.f k l1).bind fun t235 => (r00NatAdd.l0 k t232 t235 ([] : List Int) 0 0)) = some r := H
 have A3 := Zb.mk A30
 clear A30
 replace H := Option.bind_eq_some_iff.mp H
 obtain ⟨t235, A40, H⟩ := H
 replace H : (r00NatAdd.l0 k t232 t235 ([] : List Int) 0 0) = some r := H
 have A4 := Zb.mk A40
 clear A40
 have H' := Zb.mk H
 clear H
 go_enter Try.func56, Try.ntmps56
 go_wp2_with (first | ((with_reducible refine Zp (f := 91) rfl ?_); refine ZB (some 12) rfl rfl Try.func91 (by kernel_rfl) rfl #[.slice A0 l0.length c0] rfl (by (try simp only [List.map_toArray, List.map_cons, List.map_nil]); first | done | rfl | (simp only [List.length_drop, List.length_take]; rfl)) ?_; (with_reducible refine (r00halves.calls k _ _ l0 t232 _ ?side1 ?side2 A3.out).mono ?_); (case side1 => repeat (first | exact HR0.out | (with_reducible refine Kd.ZC ?_ _) | (with_reducible refine Kd.ZF ?_ _) | (with_reducible refine Kd.ZN ?_))); (case side2 => exact HC0.out); rintro e w5 ⟨v233, rfl, ho0, hb⟩; refine ⟨_, rfl, ?_⟩; have n0_ := Zb.mk (Kd.ZG ho0 (Zi (by repeat (first | (with_reducible first | exact HB.out | apply Zc | apply Za | apply Zd) | exact HB.out)))); have n1_ := Zb.mk (Zl (by repeat (first | (with_reducible first | exact HB.out | apply Zc | apply Za | apply Zd) | exact HB.out)) hb); clear HB; have HO234 := n0_; have HB := n1_; clear n0_ n1_; (try clear hb); (try clear hb2); (try clear hk); (try clear hi); (try clear ho0)) | ((with_reducible refine Zp (f := 91) rfl ?_); refine ZB (some 14) rfl rfl Try.func91 (by kernel_rfl) rfl #[.slice A1 l1.length c1] rfl (by (try simp only [List.map_toArray, List.map_cons, List.map_nil]); first | done | rfl | (simp only [List.length_drop, List.length_take]; rfl)) ?_; (with_reducible refine (r00halves.calls k _ _ l1 t235 _ ?side1 ?side2 A4.out).mono ?_); (case side1 => repeat (first | exact (Kd.C_below HR1.out HB.out) | (with_reducible refine Kd.ZC ?_ _) | (with_reducible refine Kd.ZF ?_ _) | (with_reducible refine Kd.ZN ?_))); (case side2 => exact HC1.out); rintro e w6 ⟨v236, rfl, ho0, hb⟩; refine ⟨_, rfl, ?_⟩; have n0_ := Zb.mk (Kd.ZJ (by (with_reducible repeat (first | apply Kd.Zm | apply Kd.Zo)); exact HO234.out) (Kd.ZV ho0) hb); have n1_ := Zb.mk (Kd.ZG (Kd.R_new' ho0 (Kd.R_lt (by (with_reducible repeat (first | apply Kd.Zm | apply Kd.Zo)); exact HO234.out))) (Zi (by repeat (first | (with_reducible first | exact HB.out | apply Zc | apply Za | apply Zd) | exact HB.out)))); have n2_ := Zb.mk (Zl (by repeat (first | (with_reducible first | exact HB.out | apply Zc | apply Za | apply Zd) | exact HB.out)) hb); clear HO234; clear HB; have HO234 := n0_; have HO237 := n1_; have HB := n2_; clear n0_ n1_ n2_; (try clear hb); (try clear hb2); (try clear hk); (try clear hi); (try clear ho0)))
 go_loopg [7, 8, 9] k (fun kq v7 v8 v9 w' => ∃ (x7_1 : List Int) (x8_1 : Int) (x9_1 : Int), v8 = .int .u64 x8_1 ∧ v9 = .int .i64 x9_1 ∧ Zb (r00NatAdd.l0 kq t232 t235 x7_1 x8_1 x9_1 = some r) ∧ Zb (kq ≤ k) ∧ Zb (Kd.R (Kd.int .u64) 46 w' w.heap.size (fun k_ => some k_ ≠ (v236 : Value).ownBlock ∧ some k_ ≠ (v7 : Value).ownBlock) v233 t232) ∧ Zb (Kd.R (Kd.int .u64) 46 w' w.heap.size (fun k_ => some k_ ≠ (v233 : Value).ownBlock ∧ some k_ ≠ (v7 : Value).ownBlock) v236 t235) ∧ Zb (Kd.R (Kd.int .u64) 46 w' w.heap.size (fun k_ => some k_ ≠ (v233 : Value).ownBlock ∧ some k_ ≠ (v236 : Value).ownBlock) v7 x7_1) ∧ Zb (Below w.heap.size w w'))
 case atStart => exact ⟨(([] : List Int)), (0), (0), (by first | rfl | (simp; done) | (simp [*]; done)), (by first | rfl | (simp; done) | (simp [*]; done)), H', ⟨Nat.le_refl _⟩, ⟨by (with_reducible repeat (first | apply Kd.Zm | apply Kd.Zo)); exact Kd.ZE HO234.out (fun _ hk => ⟨hk.2, (by simp [Value.ownBlock])⟩)⟩, ⟨by (with_reducible repeat (first | apply Kd.Zm | apply Kd.Zo)); exact Kd.ZE HO237.out (fun _ hk => ⟨hk.2, (by simp [Value.ownBlock])⟩)⟩, ⟨by first | exact Kd.R_nil _ _ _ _ _ | exact Kd.V_nil _ _ _ _ _ | exact Kd.S_nil _ _ _ _ _⟩, ⟨by repeat (first | (with_reducible first | exact HB.out | apply Zc | apply Za | apply Zd) | exact HB.out)⟩⟩
 case round =>
  clear H'
  try clear c1
  try clear p2
  try clear c5
  obtain ⟨x7_1, x8_1, x9_1, rfl, rfl, HA, HK1, HO_5, HO_6, HO_7, HB⟩ := hrel
  cases gk with
  | zero => exact absurd HA.out (by simp [r00NatAdd.l0])
  | succ k1 =>
   have H := HA.out
   clear HA
   simp only [r00NatAdd.l0] at H
   have HC7 := Zb.mk H
   clear H
   go_upto_region 5 with (fail)
   go_cut [28] (fun v28 wc => ∃ (kq : Nat) (x28_6 : Bool), v28 = .bool x28_6 ∧ Zb (r00NatAdd.j1 kq t232 t235 x7_1 x8_1 x9_1 x28_6 = some r) ∧ Zb (kq ≤ k1) ∧ Zb (Kd.R (Kd.int .u64) 46 wc w.heap.size (fun k_ => some k_ ≠ (v236 : Value).ownBlock ∧ some k_ ≠ (u7 : Value).ownBlock) v233 t232) ∧ Zb (Kd.R (Kd.int .u64) 46 wc w.heap.size (fun k_ => some k_ ≠ (v233 : Value).ownBlock ∧ some k_ ≠ (u7 : Value).ownBlock) v236 t235) ∧ Zb (Kd.R (Kd.int .u64) 46 wc w.heap.size (fun k_ => some k_ ≠ (v233 : Value).ownBlock ∧ some k_ ≠ (v236 : Value).ownBlock) u7 x7_1) ∧ Zb (Below w.heap.size w wc))
   case first =>
    have H := HC7.out
    clear HC7
    by_cases c8 : x9_1 < (t232.length : Int)
    ·rw [if_pos c8] at H
     have c8b0 : decide (x9_1 < (t232.length : Int)) = true := decide_eq_true c8
     clear c8
     (first | rw [c8b0] | (simp only [Zx, ZA]; rw [c8b0]) | skip)
     have H' := Zb.mk H
     clear H
     obtain ⟨Ao9, co9, eo9⟩ := Kd.Zy HO_5.out
     subst eo9
     go_wp2
     go_meet
     case rel => exact ⟨_, (true), (by first | rfl | (simp; done) | (simp [*]; done)), H', ⟨by have := HK1.out; first | omega | exact Nat.le_refl _⟩, ⟨by (with_reducible repeat (first | apply Kd.Zm | apply Kd.Zo)); exact HO_5.out⟩, ⟨by (with_reducible repeat (first | apply Kd.Zm | apply Kd.Zo)); exact HO_6.out⟩, ⟨by (with_reducible repeat (first | apply Kd.Zm | apply Kd.Zo)); exact HO_7.out⟩, ⟨by repeat (first | (with_reducible first | exact HB.out | apply Zc | apply Za | apply Zd) | exact HB.out)⟩⟩
    ·rw [if_neg c8] at H
     have c8b0 : decide (x9_1 < (t232.length : Int)) = false := decide_eq_false c8
     clear c8
     (first | rw [c8b0] | (simp only [Zx, ZA]; rw [c8b0]) | skip)
     by_cases c10 : x9_1 < (t235.length : Int)
     ·rw [if_pos c10] at H
      have c10b0 : decide (x9_1 < (t235.length : Int)) = true := decide_eq_true c10
      clear c10
      have H' := Zb.mk H
      clear H
      obtain ⟨Ao11, co11, eo11⟩ := Kd.Zy HO_5.out
      subst eo11
      obtain ⟨Ao12, co12, eo12⟩ := Kd.Zy HO_6.out
      subst eo12
      go_wp2
      go_meet
      case rel => exact ⟨_, (true), (by first | rfl | (simp; done) | (simp [*]; done)), H', ⟨by have := HK1.out; first | omega | exact Nat.le_refl _⟩, ⟨by (with_reducible repeat (first | apply Kd.Zm | apply Kd.Zo)); exact HO_5.out⟩, ⟨by (with_reducible repeat (first | apply Kd.Zm | apply Kd.Zo)); exact HO_6.out⟩, ⟨by (with_reducible repeat (first | apply Kd.Zm | apply Kd.Zo)); exact HO_7.out⟩, ⟨by repeat (first | (with_reducible first | exact HB.out | apply Zc | apply Za | apply Zd) | exact HB.out)⟩⟩
     ·rw [if_neg c10] at H
      have c10b0 : decide (x9_1 < (t235.length : Int)) = false := decide_eq_false c10
      clear c10
      have H' := Zb.mk H
      clear H
      obtain ⟨Ao13, co13, eo13⟩ := Kd.Zy HO_5.out
      subst eo13
      obtain ⟨Ao14, co14, eo14⟩ := Kd.Zy HO_6.out
      subst eo14
      go_wp2
      go_meet
      case rel => exact ⟨_, (decide (x8_1 > 0)), (by first | rfl | (simp; done) | (simp [*]; done)), H', ⟨by have := HK1.out; first | omega | exact Nat.le_refl _⟩, ⟨by (with_reducible repeat (first | apply Kd.Zm | apply Kd.Zo)); exact HO_5.out⟩, ⟨by (with_reducible repeat (first | apply Kd.Zm | apply Kd.Zo)); exact HO_6.out⟩, ⟨by (with_reducible repeat (first | apply Kd.Zm | apply Kd.Zo)); exact HO_7.out⟩, ⟨by repeat (first | (with_reducible first | exact HB.out | apply Zc | apply Za | apply Zd) | exact HB.out)⟩⟩
   case rest =>
    clear HC7
    try clear c1
    try clear p2
    try clear c5
    try clear c8
    try clear c8b0
    try clear c9
    try clear c10
    try clear c10b0
    try clear p2
    obtain ⟨kq, x28_6, rfl, HA, HJ6, HO_5, HO_6, HO_7, HB⟩ := hcut
    cases kq with
    | zero => exact absurd HA.out (by simp [r00NatAdd.j1])
    | succ kj6 =>
     have H := HA.out
     clear HA
     simp only [r00NatAdd.j1] at H
     by_cases c15 : x28_6 = true
     ·subst c15
      have H1 : ((r00digit.f t232 x9_1).bind fun t238 => ((r00digit.f t235 x9_1).bind fun t239 => (if x7_1.length < 17592186044416 then (r00NatAdd.l0 kj6 t232 t235 (x7_1 ++ [Int.tmod (IntKind.u64.wrap ((IntKind.u64.wrap (t238 + t239)) + x8_1)) 4294967296]) (IntKind.u64.wrap (Int.tdiv (IntKind.u64.wrap ((IntKind.u64.wrap (t238 + t239)) + x8_1)) 4294967296)) (wrap64 (x9_1 + 1))) else (none)))) = some r := by rw [if_pos rfl] at H; exact H
      clear H
      have H := H1
      clear H1
      replace H := Option.bind_eq_some_iff.mp H
      obtain ⟨t238, A160, H⟩ := H
      replace H : ((r00digit.f t235 x9_1).bind fun t239 => (if x7_1.length < 17592186044416 then (r00NatAdd.l0 kj6 t232 t235 (x7_1 ++ [Int.tmod (IntKind.u64.wrap ((IntKind.u64.wrap (t238 + t239)) + x8_1)) 4294967296]) (IntKind.u64.wrap (Int.tdiv (IntKind.u64.wrap ((IntKind.u64.wrap (t238 + t239)) + x8_1)) 4294967296)) (wrap64 (x9_1 + 1))) else (none))) = some r := H
      have A16 := Zb.mk A160
      clear A160
      replace H := Option.bind_eq_some_iff.mp H
      obtain ⟨t239, A170, H⟩ := H
      replace H : (if x7_1.length < 17592186044416 then (r00NatAdd.l0 kj6 t232 t235 (x7_1 ++ [Int.tmod (IntKind.u64.wrap ((IntKind.u64.wrap (t238 + t239)) + x8_1)) 4294967296]) (IntKind.u64.wrap (Int.tdiv (IntKind.u64.wrap ((IntKind.u64.wrap (t238 + t239)) + x8_1)) 4294967296)) (wrap64 (x9_1 + 1))) else (none)) = some r := H
      have A17 := Zb.mk A170
      clear A170
      by_cases c18 : x7_1.length < 17592186044416
      ·rw [if_pos c18] at H
       have LMc18 := Zb.mk c18
       clear c18
       obtain ⟨y240, hy240⟩ : ∃ y_ : List Int, y_ = (x7_1 ++ [Int.tmod (IntKind.u64.wrap ((IntKind.u64.wrap (t238 + t239)) + x8_1)) 4294967296]) := ⟨_, rfl⟩
       replace H : (r00NatAdd.l0 kj6 t232 t235 y240 (IntKind.u64.wrap (Int.tdiv (IntKind.u64.wrap ((IntKind.u64.wrap (t238 + t239)) + x8_1)) 4294967296)) (wrap64 (x9_1 + 1))) = some r := by first | (rw [hy240]; with_reducible exact H) | (have H2_ := (Option.bind_some _ _).symm.trans H; rw [hy240]; with_reducible exact H2_) | (have H2_ := (Option.bind_some _ _).symm.trans H; with_reducible exact H2_) | with_reducible exact H | (rw [hy240]; exact H) | exact H
       have Ny240 := Zb.mk hy240
       clear hy240
       have H' := Zb.mk H
       clear H
       obtain ⟨Ao19, co19, eo19⟩ := Kd.Zy HO_5.out
       subst eo19
       go_wp2_with (first | ((with_reducible refine Zp (f := 93) rfl ?_); refine ZB (some 33) rfl rfl Try.func93 (by kernel_rfl) rfl #[.slice Ao19 t232.length co19, .int .i64 x9_1] rfl (by (try simp only [List.map_toArray, List.map_cons, List.map_nil]); first | done | rfl | (simp only [List.length_drop, List.length_take]; rfl)) ?_; (with_reducible refine (r00digit.calls _ _ t232 x9_1 t238 _ ?side1 ?side2 A16.out).mono ?_); (case side1 => repeat (first | exact (Kd.Zv HO_5.out).2.2 | (with_reducible refine Kd.ZC ?_ _) | (with_reducible refine Kd.ZF ?_ _) | (with_reducible refine Kd.ZN ?_))); (case side2 => exact (Kd.Zv HO_5.out).2.1); rintro e w' ⟨rfl, ⟨nd, rfl⟩⟩; refine ⟨_, rfl, ?_⟩; obtain ⟨Ao20, co20, eo20⟩ := Kd.Zy HO_6.out; subst eo20) | ((with_reducible refine Zp (f := 93) rfl ?_); refine ZB (some 36) rfl rfl Try.func93 (by kernel_rfl) rfl #[.slice Ao20 t235.length co20, .int .i64 x9_1] rfl (by (try simp only [List.map_toArray, List.map_cons, List.map_nil]); first | done | rfl | (simp only [List.length_drop, List.length_take]; rfl)) ?_; (with_reducible refine (r00digit.calls _ _ t235 x9_1 t239 _ ?side1 ?side2 A17.out).mono ?_); (case side1 => repeat (first | exact (Kd.Zv HO_6.out).2.2 | (with_reducible refine Kd.ZC ?_ _) | (with_reducible refine Kd.ZF ?_ _) | (with_reducible refine Kd.ZN ?_))); (case side2 => exact (Kd.Zv HO_6.out).2.1); rintro e w' ⟨rfl, ⟨nd, rfl⟩⟩; refine ⟨_, rfl, ?_⟩) | ((with_reducible refine gate_builtin (b := .append) (xs := #[.tmp 40, .tmp 43]) rfl ?_); (try (refine gate_guard (by rfl) ?_; dsimp only)); at_builtin; refine Kd.R_append (Kd.int .u64) (w0 := w) w.heap.size rfl (.tmp 40) (.tmp 43) 22 46 (.int .u64 0) 8 rfl Try.underlying22 info46 rfl (by decide) (by omega) u7 x7_1 (Int.tmod (IntKind.u64.wrap ((IntKind.u64.wrap (t238 + t239)) + x8_1)) 4294967296) [.int .u64 (Int.tmod (IntKind.u64.wrap ((IntKind.u64.wrap (t238 + t239)) + x8_1)) 4294967296)] (fun k_ => some k_ ≠ (.slice Ao19 t232.length co19 : Value).ownBlock ∧ some k_ ≠ (.slice Ao20 t235.length co20 : Value).ownBlock) (fun _ => False) rfl rfl ?aP (fun _ hk => hk.elim) ?aF ?aO ?aB ?aS ?aL ?_; (case aP => exact rfl); (case aB => exact (by repeat (first | (with_reducible first | exact HB.out | apply Zc | apply Za | apply Zd) | exact HB.out))); (case aF => exact (fun k_ hk => ⟨Kd.fresh' (Kd.R_lt (by (with_reducible repeat (first | apply Kd.Zm | apply Kd.Zo)); exact HO_5.out)) k_ hk, Kd.fresh' (Kd.R_lt (by (with_reducible repeat (first | apply Kd.Zm | apply Kd.Zo)); exact HO_6.out)) k_ hk⟩)); (case aO => exact (by (with_reducible repeat (first | apply Kd.Zm | apply Kd.Zo)); exact HO_7.out)); (case aS => exact (Zi (by repeat (first | (with_reducible first | exact HB.out | apply Zc | apply Za | apply Zd) | exact HB.out)))); (case aL => have := LMc18.out; omega); intro v241 w21 ho hb hg hat; rw [← Ny240.out] at ho; have n0_ := Zb.mk (Kd.R_after (ok := (fun k_ => some k_ ≠ (.slice Ao20 t235.length co20 : Value).ownBlock)) (by (with_reducible repeat (first | apply Kd.Zm | apply Kd.Zo)); exact HO_5.out) hg hat); have n1_ := Zb.mk (Kd.R_after (ok := (fun k_ => some k_ ≠ (.slice Ao19 t232.length co19 : Value).ownBlock)) (by (with_reducible repeat (first | apply Kd.Zm | apply Kd.Zo)); exact HO_6.out) hg hat); have n2_ := Zb.mk (hb); have n3_ := Zb.mk (ho); clear HO_5; clear HO_6; clear HB; clear HO_7; have HO_5 := n0_; have HO_6 := n1_; have HB := n2_; have HO242 := n3_; clear n0_ n1_ n2_ n3_; clear ho hb hg hat))
       go_roundg kj6
       case measure => have := HK1.out; have := HJ6.out; omega
       case rel => exact ⟨(y240), (IntKind.u64.wrap (Int.tdiv (IntKind.u64.wrap ((IntKind.u64.wrap (t238 + t239)) + x8_1)) 4294967296)), (wrap64 (x9_1 + 1)), (by first | rfl | (simp; done) | (simp [*]; done)), (by first | rfl | (simp; done) | (simp [*]; done)), H', ⟨by have := HK1.out; have := HJ6.out; omega⟩, ⟨by (with_reducible repeat (first | apply Kd.Zm | apply Kd.Zo)); exact HO_5.out⟩, ⟨by (with_reducible repeat (first | apply Kd.Zm | apply Kd.Zo)); exact HO_6.out⟩, ⟨by (with_reducible repeat (first | apply Kd.Zm | apply Kd.Zo)); exact HO242.out⟩, ⟨by repeat (first | (with_reducible first | exact HB.out | apply Zc | apply Za | apply Zd) | exact HB.out)⟩⟩
      ·rw [if_neg c18] at H
       exact absurd H (by simp)
     ·replace c15 := Bool.eq_false_iff.mpr c15
      subst c15
      have H1 : ((r00limbs.f kj6 x7_1).bind fun t243 => (some t243)) = some r := by rw [if_neg (show ¬ (false = true) by decide)] at H; exact H
      clear H
      have H := H1
      clear H1
      replace H := Option.bind_eq_some_iff.mp H
      obtain ⟨t243, A220, H⟩ := H
      replace H : (some t243) = some r := H
      have A22 := Zb.mk A220
      clear A220
      obtain rfl := Option.some.inj H
      obtain ⟨Ao23, co23, eo23⟩ := Kd.Zy HO_7.out
      subst eo23
      go_wp2_with (first | ((with_reducible refine Zp (f := 92) rfl ?_); refine ZB (some 48) rfl rfl Try.func92 (by kernel_rfl) rfl #[.slice Ao23 x7_1.length co23] rfl (by (try simp only [List.map_toArray, List.map_cons, List.map_nil]); first | done | rfl | (simp only [List.length_drop, List.length_take]; rfl)) ?_; (with_reducible refine (r00limbs.calls kj6 _ _ x7_1 t243 _ ?side1 ?side2 A22.out).mono ?_); (case side1 => repeat (first | exact (Kd.Zv HO_7.out).2.2 | (with_reducible refine Kd.ZC ?_ _) | (with_reducible refine Kd.ZF ?_ _) | (with_reducible refine Kd.ZN ?_))); (case side2 => exact (Kd.Zv HO_7.out).2.1); rintro e w24 ⟨v244, rfl, ho0, hb⟩; refine ⟨_, rfl, ?_⟩; have n0_ := Zb.mk (Kd.ZJ (by (with_reducible repeat (first | apply Kd.Zm | apply Kd.Zo)); exact HO_5.out) (Kd.ZV ho0) hb); have n1_ := Zb.mk (Kd.ZJ (by (with_reducible repeat (first | apply Kd.Zm | apply Kd.Zo)); exact HO_6.out) (Kd.ZV ho0) hb); have n2_ := Zb.mk (Kd.ZJ (by (with_reducible repeat (first | apply Kd.Zm | apply Kd.Zo)); exact HO_7.out) (Kd.ZV ho0) hb); have n3_ := Zb.mk (Kd.ZG (Kd.R_new' (Kd.R_new' (Kd.R_new' ho0 (Kd.R_lt (by (with_reducible repeat (first | apply Kd.Zm | apply Kd.Zo)); exact HO_5.out))) (Kd.R_lt (by (with_reducible repeat (first | apply Kd.Zm | apply Kd.Zo)); exact HO_6.out))) (Kd.R_lt (by (with_reducible repeat (first | apply Kd.Zm | apply Kd.Zo)); exact HO_7.out))) (Zi (by repeat (first | (with_reducible first | exact HB.out | apply Zc | apply Za | apply Zd) | exact HB.out)))); have n4_ := Zb.mk (Zl (by repeat (first | (with_reducible first | exact HB.out | apply Zc | apply Za | apply Zd) | exact HB.out)) hb); clear HO_5; clear HO_6; clear HO_7; clear HB; have HO_5 := n0_; have HO_6 := n1_; have HO_7 := n2_; have HO245 := n3_; have HB := n4_; clear n0_ n1_ n2_ n3_ n4_; (try clear hb); (try clear hb2); (try clear hk); (try clear hi); (try clear ho0)))
      go_ret
      exact ⟨_, by first | rfl | (simp [errW_none, errW_some] <;> rfl) | (simp [*, errW_none, errW_some] <;> rfl), by (with_reducible repeat (first | apply Kd.Zm | apply Kd.Zo)); exact Kd.ZE HO245.out (fun _ hk => trivial), by repeat (first | (with_reducible first | exact HB.out | apply Zc | apply Za | apply Zd) | exact HB.out)⟩
def r00Plus.f : Nat → Bool → List Int → Int → Bool → List Int → Int → Option (Bool × List Int × Int)
 | 0, _, _, _, _, _, _ => none
 | k + 1, a0_0, l0_1, a0_2, a1_0, l1_1, a1_2 => (r00Num_Zero.f k a0_0 l0_1 a0_2).bind fun t249 => (if t249 = true then (some (a1_0, l1_1, a1_2)) else ((r00Num_Zero.f k a1_0 l1_1 a1_2).bind fun t250 => (if t250 = true then (some (a0_0, l0_1, a0_2)) else (if a0_2 > a1_2 then (none) else ((r00NatUp.f k l1_1 (wrap64 (a1_2 - a0_2))).bind fun t251 => (if (a0_0 == a1_0) = true then ((r00NatAdd.f k l0_1 t251).bind fun t254 => (some (a0_0, t254, a0_2))) else (none)))))))
def r00Plus.T7 : Bool × List (List Nat × List Nat) := (true, [([], []), ([0], [0]), ([], []), ([2], [2]), ([], []), ([4], [4]), ([], []), ([6], [6]), ([5, 7], [5, 7]), ([3, 8], [3, 8]), ([1, 9, 0, 1], [1]), ([9, 10, 0, 1, 2, 3, 4, 5, 6, 7, 8, 9, 10], [9])])
def r00Plus.B7 : List Nat := [0, 1, 0, 4, 0, 16, 0, 64, 240, 508, 1023, 2047]
theorem r00Plus.tab7 : rtab .any (opsOf Try.f24 7) = r00Plus.T7 := by kernel_rfl
theorem r00Plus.bits7 : waitsOk r00Plus.T7.2 r00Plus.B7 = true := by kernel_rfl
def r00Plus.T9 : Bool × List (List Nat × List Nat) := (true, [([], []), ([0], [0]), ([], []), ([], []), ([2, 3], [2, 3]), ([], []), ([5], [5]), ([1, 4, 6], [1, 4, 6]), ([7, 4, 0, 1, 2, 3, 4, 5, 6, 7], [7])])
def r00Plus.B9 : List Nat := [0, 1, 0, 0, 12, 0, 32, 127, 255]
theorem r00Plus.tab9 : rtab .any (opsOf Try.f24 9) = r00Plus.T9 := by kernel_rfl
theorem r00Plus.bits9 : waitsOk r00Plus.T9.2 r00Plus.B9 = true := by kernel_rfl
set_option maxHeartbeats 8000000 in
set_option maxRecDepth 100000 in
theorem r00Plus.calls (k : Nat) : ∀ (a0_0 : Bool) (P0_1_ : Nat → Prop) (u9000_ : Value) (l0_1 : List Int) (a0_2 : Int) (a1_0 : Bool) (P1_1_ : Nat → Prop) (u9001_ : Value) (l1_1 : List Int) (a1_2 : Int) (r1 : Bool) (r2 : List Int) (r3 : Int) (w0 w : World) (hB : Below w0.heap.size w0 w) (ho0_1 : Kd.R (Kd.int .u64) 46 w w0.heap.size P0_1_ u9000_ l0_1) (hp0_1_1_1 : ∀ k_, P0_1_ k_ → ¬ P1_1_ k_) (ho1_1 : Kd.R (Kd.int .u64) 46 w w0.heap.size P1_1_ u9001_ l1_1) (hp1_1_0_1 : ∀ k_, P1_1_ k_ → ¬ P0_1_ k_) (h : r00Plus.f k a0_0 l0_1 a0_2 a1_0 l1_1 a1_2 = some (r1, r2, r3)),
  Calls Try.prog 24 #[.agg #[.bool a0_0, u9000_, .int .i64 a0_2], .agg #[.bool a1_0, u9001_, .int .i64 a1_2]] w fun e w' => ∃ v1_ : Value, e = .returned (.agg #[.bool r1, v1_, .int .i64 r3]) ∧ Kd.R (Kd.int .u64) 46 w' w0.heap.size (fun k_ => ((P0_1_ k_ ∨ P1_1_ k_) ∨ w.heap.size ≤ k_)) v1_ r2 ∧ Below w0.heap.size w0 w' ∧ Kept w w' (fun k_ => P0_1_ k_ ∨ P1_1_ k_) := by
 induction k using Nat.strongRecOn with
 | _ k ih =>
 intro a0_0 P0_1_ u9000_ l0_1 a0_2 a1_0 P1_1_ u9001_ l1_1 a1_2 r1 r2 r3 w0 w hB ho0_1 hp0_1_1_1 ho1_1 hp1_1_0_1 h
 cases k with
 | zero => exact absurd h (by simp [r00Plus.f])
 | succ k =>
 simp only [r00Plus.f] at h
 have hu48 := Try.underlying48
 have HO0_1 := Zb.mk (show Kd.R (Kd.int .u64) 46 w w0.heap.size (fun k_ => ((P0_1_ k_ ∨ P1_1_ k_) ∨ w.heap.size ≤ k_) ∧ some k_ ≠ (u9001_ : Value).ownBlock) u9000_ l0_1 from Kd.ZE ho0_1 (fun k_ hk => ⟨(.inl (.inl hk)), fun e_ => hp0_1_1_1 k_ hk (ho1_1.1 k_ e_.symm)⟩))
 have HO1_1 := Zb.mk (show Kd.R (Kd.int .u64) 46 w w0.heap.size (fun k_ => ((P0_1_ k_ ∨ P1_1_ k_) ∨ w.heap.size ≤ k_) ∧ some k_ ≠ (u9000_ : Value).ownBlock) u9001_ l1_1 from Kd.ZE ho1_1 (fun k_ hk => ⟨(.inl (.inr hk)), fun e_ => hp1_1_0_1 k_ hk (ho0_1.1 k_ e_.symm)⟩))
 have HK := Zb.mk (Kept.refl w (fun k_ => P0_1_ k_ ∨ P1_1_ k_))
 have HW0 := Zb.mk hB.size
 have HB := Zb.mk hB
 clear hB
 have H : ((r00Num_Zero.f k a0_0 l0_1 a0_2).bind fun t249 => (if t249 = true then (some (a1_0, l1_1, a1_2)) else ((r00Num_Zero.f k a1_0 l1_1 a1_2).bind fun t250 => (if t250 = true then (some (a0_0, l0_1, a0_2)) else (if a0_2 > a1_2 then (none) else ((r00NatUp.f k l1_1 (wrap64 (a1_2 - a0_2))).bind fun t251 => (if (a0_0 == a1_0) = true then ((r00NatAdd.f k l0_1 t251).bind fun t254 => (some (a0_0, t254, a0_2))) else (none)))))))) = some (r1, r2, r3) := h
 clear h
 replace H := Option.bind_eq_some_iff.mp H
 obtain ⟨t249, A30, H⟩ := H
 replace H : (if t249 = true then (some (a1_0, l1_1, a1_2)) else ((r00Num_Zero.f k a1_0 l1_1 a1_2).bind fun t250 => (if t250 = true then (some (a0_0, l0_1, a0_2)) else (if a0_2 > a1_2 then (none) else ((r00NatUp.f k l1_1 (wrap64 (a1_2 - a0_2))).bind fun t251 => (if (a0_0 == a1_0) = true then ((r00NatAdd.f k l0_1 t251).bind fun t254 => (some (a0_0, t254, a0_2))) else (none))))))) = some (r1, r2, r3) := H
 have A3 := Zb.mk A30
 clear A30
 by_cases c4 : t249 = true
 ·subst c4
  have H1 : (some (a1_0, l1_1, a1_2)) = some (r1, r2, r3) := by rw [if_pos rfl] at H; exact H
  clear H
  have H := H1
  clear H1
  simp only [Option.some.injEq, Prod.mk.injEq] at H
  obtain ⟨rfl, rfl, rfl⟩ := H
  obtain ⟨Ao5, co5, eo5⟩ := Kd.Zy HO0_1.out
  subst eo5
  go_enter Try.func24, Try.ntmps24
  go_wp2_with (first | ((with_reducible refine Zt (N := 2) rfl ?_); refine Zs ?hg (N := 2) ?hd (cs := #[.bool a0_0, .slice Ao5 l0_1.length co5, .int .i64 a0_2]) (t := 48) ?hr ?_; (case hd => rfl); (case hg => rfl); (case hr => first | (go_simp; done) | (go_simp; rfl)); intro gb246 hg w6 hbox hb; have n0_ := Zb.mk (Kd.Zz (by (with_reducible repeat (first | apply Kd.Zm | apply Kd.Zo)); exact HO0_1.out) hb); have n1_ := Zb.mk (Kd.Zz (by (with_reducible repeat (first | apply Kd.Zm | apply Kd.Zo)); exact HO1_1.out) hb); have n2_ := Zb.mk (Kept.below (S := (fun k_ => P0_1_ k_ ∨ P1_1_ k_)) (by repeat (first | (with_reducible first | exact HK.out | apply Kept.alloc | apply Kept.drewN | apply Kept.drew) | exact HK.out)) hb); have n3_ := Zb.mk (Zl (by repeat (first | (with_reducible first | exact HB.out | apply Zc | apply Za | apply Zd) | exact HB.out)) hb); have n4_ := Zb.mk (hbox); have n5_ := Zb.mk ((by rw [hg]; exact (by first | exact HK.out.1 | exact (show Kept w _ (fun k_ => P0_1_ k_ ∨ P1_1_ k_) from by repeat (first | (with_reducible first | exact HK.out | apply Kept.alloc | apply Kept.drewN | apply Kept.drew) | exact HK.out)).1) : w.heap.size ≤ gb246)); have n6_ := Zb.mk ((by rw [hg]; exact (Zi (by repeat (first | (with_reducible first | exact HB.out | apply Zc | apply Za | apply Zd) | exact HB.out))) : w0.heap.size ≤ gb246)); clear HO0_1; clear HO1_1; clear HK; clear HB; have HO0_1 := n0_; have HO1_1 := n1_; have HK := n2_; have HB := n3_; have BK246 := n4_; have GW246 := n5_; have GE246 := n6_; clear n0_ n1_ n2_ n3_ n4_ n5_ n6_; clear hb hbox hg; obtain ⟨Ao7, co7, eo7⟩ := Kd.Zy HO1_1.out; subst eo7) | ((with_reducible refine Zt (N := 3) rfl ?_); refine Zs ?hg (N := 3) ?hd (cs := #[.bool a1_0, .slice Ao7 l1_1.length co7, .int .i64 a1_2]) (t := 48) ?hr ?_; (case hd => rfl); (case hg => rfl); (case hr => first | (go_simp; done) | (go_simp; rfl)); intro gb247 hg w8 hbox hb; have n0_ := Zb.mk (Kd.Zz (by (with_reducible repeat (first | apply Kd.Zm | apply Kd.Zo)); exact HO0_1.out) hb); have n1_ := Zb.mk (Kd.Zz (by (with_reducible repeat (first | apply Kd.Zm | apply Kd.Zo)); exact HO1_1.out) hb); have n2_ := Zb.mk (Zn (g := gb246) (o := .cells #[.bool a0_0, .slice Ao5 l0_1.length co5, .int .i64 a0_2] 48 (0, 0)) (by (with_reducible repeat (first | refine Ze ?_ _ | refine Zg ?_ | refine Zf ?_ _)); exact BK246.out) hb); have n3_ := Zb.mk (Kept.below (S := (fun k_ => P0_1_ k_ ∨ P1_1_ k_)) (by repeat (first | (with_reducible first | exact HK.out | apply Kept.alloc | apply Kept.drewN | apply Kept.drew | refine Kept.setCell ?_ (.inr GW246.out) _) | exact HK.out)) hb); have n4_ := Zb.mk (Zl (by repeat (first | (with_reducible first | exact HB.out | apply Zc | apply Za | apply Zd | refine Zh ?_ GE246.out) | exact HB.out)) hb); have n5_ := Zb.mk (hbox); have n6_ := Zb.mk ((by rw [hg]; exact (by first | exact HK.out.1 | exact (show Kept w _ (fun k_ => P0_1_ k_ ∨ P1_1_ k_) from by repeat (first | (with_reducible first | exact HK.out | apply Kept.alloc | apply Kept.drewN | apply Kept.drew | refine Kept.setCell ?_ (.inr GW246.out) _) | exact HK.out)).1) : w.heap.size ≤ gb247)); have n7_ := Zb.mk ((by rw [hg]; exact (Zi (by repeat (first | (with_reducible first | exact HB.out | apply Zc | apply Za | apply Zd | refine Zh ?_ GE246.out) | exact HB.out))) : w0.heap.size ≤ gb247)); have n8_ := Zb.mk ((by rw [hg]; exact Nat.ne_of_lt (Zw (g := gb246) (o := .cells #[.bool a0_0, .slice Ao5 l0_1.length co5, .int .i64 a0_2] 48 (0, 0)) (by (with_reducible repeat (first | refine Ze ?_ _ | refine Zg ?_ | refine Zf ?_ _)); exact BK246.out)) : gb246 ≠ gb247)); have n9_ := Zb.mk ((by rw [hg]; exact Nat.ne_of_gt (Zw (g := gb246) (o := .cells #[.bool a0_0, .slice Ao5 l0_1.length co5, .int .i64 a0_2] 48 (0, 0)) (by (with_reducible repeat (first | refine Ze ?_ _ | refine Zg ?_ | refine Zf ?_ _)); exact BK246.out)) : gb247 ≠ gb246)); clear HO0_1; clear HO1_1; clear BK246; clear HK; clear HB; have HO0_1 := n0_; have HO1_1 := n1_; have BK246 := n2_; have HK := n3_; have HB := n4_; have BK247 := n5_; have GW247 := n6_; have GE247 := n7_; have NB246_247 := n8_; have NB247_246 := n9_; clear n0_ n1_ n2_ n3_ n4_ n5_ n6_ n7_ n8_ n9_; clear hb hbox hg) | ((with_reducible refine Zt (N := 4) rfl ?_); refine Zs ?hg (N := 4) ?hd (cs := #[.bool false, .slice none 0 0, .int .i64 0]) (t := 48) ?hr ?_; (case hd => rfl); (case hg => rfl); (case hr => first | (go_simp; done) | (go_simp; rfl)); intro gb248 hg w9 hbox hb; have n0_ := Zb.mk (Kd.Zz (by (with_reducible repeat (first | apply Kd.Zm | apply Kd.Zo)); exact HO0_1.out) hb); have n1_ := Zb.mk (Kd.Zz (by (with_reducible repeat (first | apply Kd.Zm | apply Kd.Zo)); exact HO1_1.out) hb); have n2_ := Zb.mk (Zn (g := gb246) (o := .cells #[.bool a0_0, .slice Ao5 l0_1.length co5, .int .i64 a0_2] 48 (0, 0)) (by (with_reducible repeat (first | refine Ze ?_ _ | refine Zg ?_ | refine Zf ?_ _)); exact BK246.out) hb); have n3_ := Zb.mk (Zn (g := gb247) (o := .cells #[.bool a1_0, .slice Ao7 l1_1.length co7, .int .i64 a1_2] 48 (0, 0)) (by (with_reducible repeat (first | refine Ze ?_ _ | refine Zg ?_ | refine Zf ?_ _)); exact BK247.out) hb); have n4_ := Zb.mk (Kept.below (S := (fun k_ => P0_1_ k_ ∨ P1_1_ k_)) (by repeat (first | (with_reducible first | exact HK.out | apply Kept.alloc | apply Kept.drewN | apply Kept.drew | refine Kept.setCell ?_ (.inr GW246.out) _ | refine Kept.setCell ?_ (.inr GW247.out) _) | exact HK.out)) hb); have n5_ := Zb.mk (Zl (by repeat (first | (with_reducible first | exact HB.out | apply Zc | apply Za | apply Zd | refine Zh ?_ GE246.out | refine Zh ?_ GE247.out) | exact HB.out)) hb); have n6_ := Zb.mk (hbox); have n7_ := Zb.mk ((by rw [hg]; exact (by first | exact HK.out.1 | exact (show Kept w _ (fun k_ => P0_1_ k_ ∨ P1_1_ k_) from by repeat (first | (with_reducible first | exact HK.out | apply Kept.alloc | apply Kept.drewN | apply Kept.drew | refine Kept.setCell ?_ (.inr GW246.out) _ | refine Kept.setCell ?_ (.inr GW247.out) _) | exact HK.out)).1) : w.heap.size ≤ gb248)); have n8_ := Zb.mk ((by rw [hg]; exact (Zi (by repeat (first | (with_reducible first | exact HB.out | apply Zc | apply Za | apply Zd | refine Zh ?_ GE246.out | refine Zh ?_ GE247.out) | exact HB.out))) : w0.heap.size ≤ gb248)); have n9_ := Zb.mk ((by rw [hg]; exact Nat.ne_of_lt (Zw (g := gb246) (o := .cells #[.bool a0_0, .slice Ao5 l0_1.length co5, .int .i64 a0_2] 48 (0, 0)) (by (with_reducible repeat (first | refine Ze ?_ _ | refine Zg ?_ | refine Zf ?_ _)); exact BK246.out)) : gb246 ≠ gb248)); have n10_ := Zb.mk ((by rw [hg]; exact Nat.ne_of_gt (Zw (g := gb246) (o := .cells #[.bool a0_0, .slice Ao5 l0_1.length co5, .int .i64 a0_2] 48 (0, 0)) (by (with_reducible repeat (first | refine Ze ?_ _ | refine Zg ?_ | refine Zf ?_ _)); exact BK246.out)) : gb248 ≠ gb246)); have n11_ := Zb.mk ((by rw [hg]; exact Nat.ne_of_lt (Zw (g := gb247) (o := .cells #[.bool a1_0, .slice Ao7 l1_1.length co7, .int .i64 a1_2] 48 (0, 0)) (by (with_reducible repeat (first | refine Ze ?_ _ | refine Zg ?_ | refine Zf ?_ _)); exact BK247.out)) : gb247 ≠ gb248)); have n12_ := Zb.mk ((by rw [hg]; exact Nat.ne_of_gt (Zw (g := gb247) (o := .cells #[.bool a1_0, .slice Ao7 l1_1.length co7, .int .i64 a1_2] 48 (0, 0)) (by (with_reducible repeat (first | refine Ze ?_ _ | refine Zg ?_ | refine Zf ?_ _)); exact BK247.out)) : gb248 ≠ gb247)); clear HO0_1; clear HO1_1; clear BK246; clear BK247; clear HK; clear HB; have HO0_1 := n0_; have HO1_1 := n1_; have BK246 := n2_; have BK247 := n3_; have HK := n4_; have HB := n5_; have BK248 := n6_; have GW248 := n7_; have GE248 := n8_; have NB246_248 := n9_; have NB248_246 := n10_; have NB247_248 := n11_; have NB248_247 := n12_; clear n0_ n1_ n2_ n3_ n4_ n5_ n6_ n7_ n8_ n9_ n10_ n11_ n12_; clear hb hbox hg; have hnb10 := NB246_247.out; have hnc10 := NB247_246.out; have hnb11 := NB246_248.out; have hnc11 := NB248_246.out; have hcz12_0 : w9.cell? ⟨gb246, 0, none⟩ = some (.bool a0_0) := (Zk BK246.out 0).trans rfl; have hcz12_1 : w9.cell? ⟨gb246, 1, none⟩ = some (.slice Ao5 l0_1.length co5) := (Zk BK246.out 1).trans rfl; have hcz12_2 : w9.cell? ⟨gb246, 2, none⟩ = some (.int .i64 a0_2) := (Zk BK246.out 2).trans rfl; have hfz12_0 := Zj BK246.out 0; have hfz12_1 := Zj BK246.out 1; have hfz12_2 := Zj BK246.out 2) | ((with_reducible refine Zp (f := 54) rfl ?_); refine ZB (some 8) rfl rfl Try.func54 (by kernel_rfl) rfl #[.agg #[.bool a0_0, .slice Ao5 l0_1.length co5, .int .i64 a0_2]] rfl (by (try simp only [List.map_toArray, List.map_cons, List.map_nil]); first | done | rfl | (simp only [List.length_drop, List.length_take]; rfl)) ?_; (with_reducible refine (r00Num_Zero.calls k a0_0 _ _ l0_1 a0_2 true _ ?side1 ?side2 A3.out).mono ?_); (case side1 => repeat (first | exact (Kd.Zv HO0_1.out).2.2 | (with_reducible refine Kd.ZC ?_ _) | (with_reducible refine Kd.ZF ?_ _) | (with_reducible refine Kd.ZN ?_))); (case side2 => exact (Kd.Zv HO0_1.out).2.1); rintro e w13 ⟨rfl, hb⟩; refine ⟨_, rfl, ?_⟩; have n0_ := Zb.mk (Kd.Zz (by (with_reducible repeat (first | apply Kd.Zm | apply Kd.Zo)); exact HO0_1.out) hb); have n1_ := Zb.mk (Kd.Zz (by (with_reducible repeat (first | apply Kd.Zm | apply Kd.Zo)); exact HO1_1.out) hb); have n2_ := Zb.mk (Zn (g := gb246) (o := .cells #[.bool a0_0, .slice Ao5 l0_1.length co5, .int .i64 a0_2] 48 (0, 0)) (by (with_reducible repeat (first | refine Ze ?_ _ | refine Zg ?_ | refine Zf ?_ _)); exact BK246.out) hb); have n3_ := Zb.mk (Zn (g := gb247) (o := .cells #[.bool a1_0, .slice Ao7 l1_1.length co7, .int .i64 a1_2] 48 (0, 0)) (by (with_reducible repeat (first | refine Ze ?_ _ | refine Zg ?_ | refine Zf ?_ _)); exact BK247.out) hb); have n4_ := Zb.mk (Zn (g := gb248) (o := .cells #[.bool false, .slice none 0 0, .int .i64 0] 48 (0, 0)) (by (with_reducible repeat (first | refine Ze ?_ _ | refine Zg ?_ | refine Zf ?_ _)); exact BK248.out) hb); have n5_ := Zb.mk (Kept.below (S := (fun k_ => P0_1_ k_ ∨ P1_1_ k_)) (by repeat (first | (with_reducible first | exact HK.out | apply Kept.alloc | apply Kept.drewN | apply Kept.drew | refine Kept.setCell ?_ (.inr GW246.out) _ | refine Kept.setCell ?_ (.inr GW247.out) _ | refine Kept.setCell ?_ (.inr GW248.out) _) | exact HK.out)) hb); have n6_ := Zb.mk (Zl (by repeat (first | (with_reducible first | exact HB.out | apply Zc | apply Za | apply Zd | refine Zh ?_ GE246.out | refine Zh ?_ GE247.out | refine Zh ?_ GE248.out) | exact HB.out)) hb); clear HO0_1; clear HO1_1; clear BK246; clear BK247; clear BK248; clear HK; clear HB; have HO0_1 := n0_; have HO1_1 := n1_; have BK246 := n2_; have BK247 := n3_; have BK248 := n4_; have HK := n5_; have HB := n6_; clear n0_ n1_ n2_ n3_ n4_ n5_ n6_; (try clear hb); (try clear hb2); (try clear hk); (try clear hi); have hnb14 := NB247_248.out; have hnc14 := NB248_247.out; have hcz15_0 : w13.cell? ⟨gb247, 0, none⟩ = some (.bool a1_0) := (Zk BK247.out 0).trans rfl; have hcz15_1 : w13.cell? ⟨gb247, 1, none⟩ = some (.slice Ao7 l1_1.length co7) := (Zk BK247.out 1).trans rfl; have hcz15_2 : w13.cell? ⟨gb247, 2, none⟩ = some (.int .i64 a1_2) := (Zk BK247.out 2).trans rfl; have hfz15_0 := Zj BK247.out 0; have hfz15_1 := Zj BK247.out 1; have hfz15_2 := Zj BK247.out 2; have hcz16_0 : w13.cell? ⟨gb248, 0, none⟩ = some (.bool false) := (Zk BK248.out 0).trans rfl; have hcz16_1 : w13.cell? ⟨gb248, 1, none⟩ = some (.slice none 0 0) := (Zk BK248.out 1).trans rfl; have hcz16_2 : w13.cell? ⟨gb248, 2, none⟩ = some (.int .i64 0) := (Zk BK248.out 2).trans rfl; have hfz16_0 := Zj BK248.out 0; have hfz16_1 := Zj BK248.out 1; have hfz16_2 := Zj BK248.out 2))
  refine bodyPost_ret (results_cell_row rfl _ _ gb248 48 #[.bool a1_0, .slice Ao7 l1_1.length co7, .int .i64 a1_2] (0, 0) _ rfl (by (with_reducible repeat (first | refine Ze ?_ _ | refine Zg ?_ | refine Zf ?_ _)); refine Zu (cs := #[.bool a1_0, .slice Ao7 l1_1.length co7, .int .i64 0]) ?_ 2 _ rfl; (with_reducible repeat (first | refine Ze ?_ _ | refine Zg ?_ | refine Zf ?_ _)); refine Zu (cs := #[.bool a1_0, .slice none 0 0, .int .i64 0]) ?_ 1 _ rfl; (with_reducible repeat (first | refine Ze ?_ _ | refine Zg ?_ | refine Zf ?_ _)); refine Zu (cs := #[.bool false, .slice none 0 0, .int .i64 0]) ?_ 0 _ rfl; (with_reducible repeat (first | refine Ze ?_ _ | refine Zg ?_ | refine Zf ?_ _)); exact BK248.out) Try.underlying48 rfl (by kernel_rfl)) rfl ?_
  exact ⟨_, by first | rfl | (simp [errW_none, errW_some] <;> rfl) | (simp [*, errW_none, errW_some] <;> rfl), by (with_reducible repeat (first | apply Kd.Zm | apply Kd.Zo)); exact Kd.ZE (Kd.ZH (p := ⟨gb248, 2, none⟩) (Kd.ZH (p := ⟨gb248, 1, none⟩) (Kd.ZH (p := ⟨gb248, 0, none⟩) (Kd.ZI HO1_1.out BK248.out (by decide)) (fun _ hk => hk.2) (.bool a1_0)) (fun _ hk => hk.2) (.slice Ao7 l1_1.length co7)) (fun _ hk => hk.2) (.int .i64 a1_2)) (fun _ hk => hk.1.1), by repeat (first | (with_reducible first | exact HB.out | apply Zc | apply Za | apply Zd | refine Zh ?_ GE246.out | refine Zh ?_ GE247.out | refine Zh ?_ GE248.out) | exact HB.out), by repeat (first | (with_reducible first | exact HK.out | apply Kept.alloc | apply Kept.drewN | apply Kept.drew | refine Kept.setCell ?_ (.inr GW246.out) _ | refine Kept.setCell ?_ (.inr GW247.out) _ | refine Kept.setCell ?_ (.inr GW248.out) _) | exact HK.out)⟩
 ·replace c4 := Bool.eq_false_iff.mpr c4
  subst c4
  have H1 : ((r00Num_Zero.f k a1_0 l1_1 a1_2).bind fun t250 => (if t250 = true then (some (a0_0, l0_1, a0_2)) else (if a0_2 > a1_2 then (none) else ((r00NatUp.f k l1_1 (wrap64 (a1_2 - a0_2))).bind fun t251 => (if (a0_0 == a1_0) = true then ((r00NatAdd.f k l0_1 t251).bind fun t254 => (some (a0_0, t254, a0_2))) else (none)))))) = some (r1, r2, r3) := by rw [if_neg (show ¬ (false = true) by decide)] at H; exact H
  clear H
  have H := H1
  clear H1
  replace H := Option.bind_eq_some_iff.mp H
  obtain ⟨t250, A170, H⟩ := H
  replace H : (if t250 = true then (some (a0_0, l0_1, a0_2)) else (if a0_2 > a1_2 then (none) else ((r00NatUp.f k l1_1 (wrap64 (a1_2 - a0_2))).bind fun t251 => (if (a0_0 == a1_0) = true then ((r00NatAdd.f k l0_1 t251).bind fun t254 => (some (a0_0, t254, a0_2))) else (none))))) = some (r1, r2, r3) := H
  have A17 := Zb.mk A170
  clear A170
  by_cases c18 : t250 = true
  ·subst c18
   have H1 : (some (a0_0, l0_1, a0_2)) = some (r1, r2, r3) := by rw [if_pos rfl] at H; exact H
   clear H
   have H := H1
   clear H1
   simp only [Option.some.injEq, Prod.mk.injEq] at H
   obtain ⟨rfl, rfl, rfl⟩ := H
   obtain ⟨Ao19, co19, eo19⟩ := Kd.Zy HO0_1.out
   subst eo19
   go_enter Try.func24, Try.ntmps24
   go_wp2_with (first | ((with_reducible refine Zt (N := 2) rfl ?_); refine Zs ?hg (N := 2) ?hd (cs := #[.bool a0_0, .slice Ao19 l0_1.length co19, .int .i64 a0_2]) (t := 48) ?hr ?_; (case hd => rfl); (case hg => rfl); (case hr => first | (go_simp; done) | (go_simp; rfl)); intro gb246 hg w20 hbox hb; have n0_ := Zb.mk (Kd.Zz (by (with_reducible repeat (first | apply Kd.Zm | apply Kd.Zo)); exact HO0_1.out) hb); have n1_ := Zb.mk (Kd.Zz (by (with_reducible repeat (first | apply Kd.Zm | apply Kd.Zo)); exact HO1_1.out) hb); have n2_ := Zb.mk (Kept.below (S := (fun k_ => P0_1_ k_ ∨ P1_1_ k_)) (by repeat (first | (with_reducible first | exact HK.out | apply Kept.alloc | apply Kept.drewN | apply Kept.drew) | exact HK.out)) hb); have n3_ := Zb.mk (Zl (by repeat (first | (with_reducible first | exact HB.out | apply Zc | apply Za | apply Zd) | exact HB.out)) hb); have n4_ := Zb.mk (hbox); have n5_ := Zb.mk ((by rw [hg]; exact (by first | exact HK.out.1 | exact (show Kept w _ (fun k_ => P0_1_ k_ ∨ P1_1_ k_) from by repeat (first | (with_reducible first | exact HK.out | apply Kept.alloc | apply Kept.drewN | apply Kept.drew) | exact HK.out)).1) : w.heap.size ≤ gb246)); have n6_ := Zb.mk ((by rw [hg]; exact (Zi (by repeat (first | (with_reducible first | exact HB.out | apply Zc | apply Za | apply Zd) | exact HB.out))) : w0.heap.size ≤ gb246)); clear HO0_1; clear HO1_1; clear HK; clear HB; have HO0_1 := n0_; have HO1_1 := n1_; have HK := n2_; have HB := n3_; have BK246 := n4_; have GW246 := n5_; have GE246 := n6_; clear n0_ n1_ n2_ n3_ n4_ n5_ n6_; clear hb hbox hg; obtain ⟨Ao21, co21, eo21⟩ := Kd.Zy HO1_1.out; subst eo21) | ((with_reducible refine Zt (N := 3) rfl ?_); refine Zs ?hg (N := 3) ?hd (cs := #[.bool a1_0, .slice Ao21 l1_1.length co21, .int .i64 a1_2]) (t := 48) ?hr ?_; (case hd => rfl); (case hg => rfl); (case hr => first | (go_simp; done) | (go_simp; rfl)); intro gb247 hg w22 hbox hb; have n0_ := Zb.mk (Kd.Zz (by (with_reducible repeat (first | apply Kd.Zm | apply Kd.Zo)); exact HO0_1.out) hb); have n1_ := Zb.mk (Kd.Zz (by (with_reducible repeat (first | apply Kd.Zm | apply Kd.Zo)); exact HO1_1.out) hb); have n2_ := Zb.mk (Zn (g := gb246) (o := .cells #[.bool a0_0, .slice Ao19 l0_1.length co19, .int .i64 a0_2] 48 (0, 0)) (by (with_reducible repeat (first | refine Ze ?_ _ | refine Zg ?_ | refine Zf ?_ _)); exact BK246.out) hb); have n3_ := Zb.mk (Kept.below (S := (fun k_ => P0_1_ k_ ∨ P1_1_ k_)) (by repeat (first | (with_reducible first | exact HK.out | apply Kept.alloc | apply Kept.drewN | apply Kept.drew | refine Kept.setCell ?_ (.inr GW246.out) _) | exact HK.out)) hb); have n4_ := Zb.mk (Zl (by repeat (first | (with_reducible first | exact HB.out | apply Zc | apply Za | apply Zd | refine Zh ?_ GE246.out) | exact HB.out)) hb); have n5_ := Zb.mk (hbox); have n6_ := Zb.mk ((by rw [hg]; exact (by first | exact HK.out.1 | exact (show Kept w _ (fun k_ => P0_1_ k_ ∨ P1_1_ k_) from by repeat (first | (with_reducible first | exact HK.out | apply Kept.alloc | apply Kept.drewN | apply Kept.drew | refine Kept.setCell ?_ (.inr GW246.out) _) | exact HK.out)).1) : w.heap.size ≤ gb247)); have n7_ := Zb.mk ((by rw [hg]; exact (Zi (by repeat (first | (with_reducible first | exact HB.out | apply Zc | apply Za | apply Zd | refine Zh ?_ GE246.out) | exact HB.out))) : w0.heap.size ≤ gb247)); have n8_ := Zb.mk ((by rw [hg]; exact Nat.ne_of_lt (Zw (g := gb246) (o := .cells #[.bool a0_0, .slice Ao19 l0_1.length co19, .int .i64 a0_2] 48 (0, 0)) (by (with_reducible repeat (first | refine Ze ?_ _ | refine Zg ?_ | refine Zf ?_ _)); exact BK246.out)) : gb246 ≠ gb247)); have n9_ := Zb.mk ((by rw [hg]; exact Nat.ne_of_gt (Zw (g := gb246) (o := .cells #[.bool a0_0, .slice Ao19 l0_1.length co19, .int .i64 a0_2] 48 (0, 0)) (by (with_reducible repeat (first | refine Ze ?_ _ | refine Zg ?_ | refine Zf ?_ _)); exact BK246.out)) : gb247 ≠ gb246)); clear HO0_1; clear HO1_1; clear BK246; clear HK; clear HB; have HO0_1 := n0_; have HO1_1 := n1_; have BK246 := n2_; have HK := n3_; have HB := n4_; have BK247 := n5_; have GW247 := n6_; have GE247 := n7_; have NB246_247 := n8_; have NB247_246 := n9_; clear n0_ n1_ n2_ n3_ n4_ n5_ n6_ n7_ n8_ n9_; clear hb hbox hg) | ((with_reducible refine Zt (N := 4) rfl ?_); refine Zs ?hg (N := 4) ?hd (cs := #[.bool false, .slice none 0 0, .int .i64 0]) (t := 48) ?hr ?_; (case hd => rfl); (case hg => rfl); (case hr => first | (go_simp; done) | (go_simp; rfl)); intro gb248 hg w23 hbox hb; have n0_ := Zb.mk (Kd.Zz (by (with_reducible repeat (first | apply Kd.Zm | apply Kd.Zo)); exact HO0_1.out) hb); have n1_ := Zb.mk (Kd.Zz (by (with_reducible repeat (first | apply Kd.Zm | apply Kd.Zo)); exact HO1_1.out) hb); have n2_ := Zb.mk (Zn (g := gb246) (o := .cells #[.bool a0_0, .slice Ao19 l0_1.length co19, .int .i64 a0_2] 48 (0, 0)) (by (with_reducible repeat (first | refine Ze ?_ _ | refine Zg ?_ | refine Zf ?_ _)); exact BK246.out) hb); have n3_ := Zb.mk (Zn (g := gb247) (o := .cells #[.bool a1_0, .slice Ao21 l1_1.length co21, .int .i64 a1_2] 48 (0, 0)) (by (with_reducible repeat (first | refine Ze ?_ _ | refine Zg ?_ | refine Zf ?_ _)); exact BK247.out) hb); have n4_ := Zb.mk (Kept.below (S := (fun k_ => P0_1_ k_ ∨ P1_1_ k_)) (by repeat (first | (with_reducible first | exact HK.out | apply Kept.alloc | apply Kept.drewN | apply Kept.drew | refine Kept.setCell ?_ (.inr GW246.out) _ | refine Kept.setCell ?_ (.inr GW247.out) _) | exact HK.out)) hb); have n5_ := Zb.mk (Zl (by repeat (first | (with_reducible first | exact HB.out | apply Zc | apply Za | apply Zd | refine Zh ?_ GE246.out | refine Zh ?_ GE247.out) | exact HB.out)) hb); have n6_ := Zb.mk (hbox); have n7_ := Zb.mk ((by rw [hg]; exact (by first | exact HK.out.1 | exact (show Kept w _ (fun k_ => P0_1_ k_ ∨ P1_1_ k_) from by repeat (first | (with_reducible first | exact HK.out | apply Kept.alloc | apply Kept.drewN | apply Kept.drew | refine Kept.setCell ?_ (.inr GW246.out) _ | refine Kept.setCell ?_ (.inr GW247.out) _) | exact HK.out)).1) : w.heap.size ≤ gb248)); have n8_ := Zb.mk ((by rw [hg]; exact (Zi (by repeat (first | (with_reducible first | exact HB.out | apply Zc | apply Za | apply Zd | refine Zh ?_ GE246.out | refine Zh ?_ GE247.out) | exact HB.out))) : w0.heap.size ≤ gb248)); have n9_ := Zb.mk ((by rw [hg]; exact Nat.ne_of_lt (Zw (g := gb246) (o := .cells #[.bool a0_0, .slice Ao19 l0_1.length co19, .int .i64 a0_2] 48 (0, 0)) (by (with_reducible repeat (first | refine Ze ?_ _ | refine Zg ?_ | refine Zf ?_ _)); exact BK246.out)) : gb246 ≠ gb248)); have n10_ := Zb.mk ((by rw [hg]; exact Nat.ne_of_gt (Zw (g := gb246) (o := .cells #[.bool a0_0, .slice Ao19 l0_1.length co19, .int .i64 a0_2] 48 (0, 0)) (by (with_reducible repeat (first | refine Ze ?_ _ | refine Zg ?_ | refine Zf ?_ _)); exact BK246.out)) : gb248 ≠ gb246)); have n11_ := Zb.mk ((by rw [hg]; exact Nat.ne_of_lt (Zw (g := gb247) (o := .cells #[.bool a1_0, .slice Ao21 l1_1.length co21, .int .i64 a1_2] 48 (0, 0)) (by (with_reducible repeat (first | refine Ze ?_ _ | refine Zg ?_ | refine Zf ?_ _)); exact BK247.out)) : gb247 ≠ gb248)); have n12_ := Zb.mk ((by rw [hg]; exact Nat.ne_of_gt (Zw (g := gb247) (o := .cells #[.bool a1_0, .slice Ao21 l1_1.length co21, .int .i64 a1_2] 48 (0, 0)) (by (with_reducible repeat (first | refine Ze ?_ _ | refine Zg ?_ | refine Zf ?_ _)); exact BK247.out)) : gb248 ≠ gb247)); clear HO0_1; clear HO1_1; clear BK246; clear BK247; clear HK; clear HB; have HO0_1 := n0_; have HO1_1 := n1_; have BK246 := n2_; have BK247 := n3_; have HK := n4_; have HB := n5_; have BK248 := n6_; have GW248 := n7_; have GE248 := n8_; have NB246_248 := n9_; have NB248_246 := n10_; have NB247_248 := n11_; have NB248_247 := n12_; clear n0_ n1_ n2_ n3_ n4_ n5_ n6_ n7_ n8_ n9_ n10_ n11_ n12_; clear hb hbox hg; have hnb24 := NB246_247.out; have hnc24 := NB247_246.out; have hnb25 := NB246_248.out; have hnc25 := NB248_246.out; have hcz26_0 : w23.cell? ⟨gb246, 0, none⟩ = some (.bool a0_0) := (Zk BK246.out 0).trans rfl; have hcz26_1 : w23.cell? ⟨gb246, 1, none⟩ = some (.slice Ao19 l0_1.length co19) := (Zk BK246.out 1).trans rfl; have hcz26_2 : w23.cell? ⟨gb246, 2, none⟩ = some (.int .i64 a0_2) := (Zk BK246.out 2).trans rfl; have hfz26_0 := Zj BK246.out 0; have hfz26_1 := Zj BK246.out 1; have hfz26_2 := Zj BK246.out 2) | ((with_reducible refine Zp (f := 54) rfl ?_); refine ZB (some 8) rfl rfl Try.func54 (by kernel_rfl) rfl #[.agg #[.bool a0_0, .slice Ao19 l0_1.length co19, .int .i64 a0_2]] rfl (by (try simp only [List.map_toArray, List.map_cons, List.map_nil]); first | done | rfl | (simp only [List.length_drop, List.length_take]; rfl)) ?_; (with_reducible refine (r00Num_Zero.calls k a0_0 _ _ l0_1 a0_2 false _ ?side1 ?side2 A3.out).mono ?_); (case side1 => repeat (first | exact (Kd.Zv HO0_1.out).2.2 | (with_reducible refine Kd.ZC ?_ _) | (with_reducible refine Kd.ZF ?_ _) | (with_reducible refine Kd.ZN ?_))); (case side2 => exact (Kd.Zv HO0_1.out).2.1); rintro e w27 ⟨rfl, hb⟩; refine ⟨_, rfl, ?_⟩; have n0_ := Zb.mk (Kd.Zz (by (with_reducible repeat (first | apply Kd.Zm | apply Kd.Zo)); exact HO0_1.out) hb); have n1_ := Zb.mk (Kd.Zz (by (with_reducible repeat (first | apply Kd.Zm | apply Kd.Zo)); exact HO1_1.out) hb); have n2_ := Zb.mk (Zn (g := gb246) (o := .cells #[.bool a0_0, .slice Ao19 l0_1.length co19, .int .i64 a0_2] 48 (0, 0)) (by (with_reducible repeat (first | refine Ze ?_ _ | refine Zg ?_ | refine Zf ?_ _)); exact BK246.out) hb); have n3_ := Zb.mk (Zn (g := gb247) (o := .cells #[.bool a1_0, .slice Ao21 l1_1.length co21, .int .i64 a1_2] 48 (0, 0)) (by (with_reducible repeat (first | refine Ze ?_ _ | refine Zg ?_ | refine Zf ?_ _)); exact BK247.out) hb); have n4_ := Zb.mk (Zn (g := gb248) (o := .cells #[.bool false, .slice none 0 0, .int .i64 0] 48 (0, 0)) (by (with_reducible repeat (first | refine Ze ?_ _ | refine Zg ?_ | refine Zf ?_ _)); exact BK248.out) hb); have n5_ := Zb.mk (Kept.below (S := (fun k_ => P0_1_ k_ ∨ P1_1_ k_)) (by repeat (first | (with_reducible first | exact HK.out | apply Kept.alloc | apply Kept.drewN | apply Kept.drew | refine Kept.setCell ?_ (.inr GW246.out) _ | refine Kept.setCell ?_ (.inr GW247.out) _ | refine Kept.setCell ?_ (.inr GW248.out) _) | exact HK.out)) hb); have n6_ := Zb.mk (Zl (by repeat (first | (with_reducible first | exact HB.out | apply Zc | apply Za | apply Zd | refine Zh ?_ GE246.out | refine Zh ?_ GE247.out | refine Zh ?_ GE248.out) | exact HB.out)) hb); clear HO0_1; clear HO1_1; clear BK246; clear BK247; clear BK248; clear HK; clear HB; have HO0_1 := n0_; have HO1_1 := n1_; have BK246 := n2_; have BK247 := n3_; have BK248 := n4_; have HK := n5_; have HB := n6_; clear n0_ n1_ n2_ n3_ n4_ n5_ n6_; (try clear hb); (try clear hb2); (try clear hk); (try clear hi); have hnb28 := NB247_248.out; have hnc28 := NB248_247.out; have hcz29_0 : w27.cell? ⟨gb247, 0, none⟩ = some (.bool a1_0) := (Zk BK247.out 0).trans rfl; have hcz29_1 : w27.cell? ⟨gb247, 1, none⟩ = some (.slice Ao21 l1_1.length co21) := (Zk BK247.out 1).trans rfl; have hcz29_2 : w27.cell? ⟨gb247, 2, none⟩ = some (.int .i64 a1_2) := (Zk BK247.out 2).trans rfl; have hfz29_0 := Zj BK247.out 0; have hfz29_1 := Zj BK247.out 1; have hfz29_2 := Zj BK247.out 2) | ((with_reducible refine Zp (f := 54) rfl ?_); refine ZB (some 11) rfl rfl Try.func54 (by kernel_rfl) rfl #[.agg #[.bool a1_0, .slice Ao21 l1_1.length co21, .int .i64 a1_2]] rfl (by (try simp only [List.map_toArray, List.map_cons, List.map_nil]); first | done | rfl | (simp only [List.length_drop, List.length_take]; rfl)) ?_; (with_reducible refine (r00Num_Zero.calls k a1_0 _ _ l1_1 a1_2 true _ ?side1 ?side2 A17.out).mono ?_); (case side1 => repeat (first | exact (Kd.Zv HO1_1.out).2.2 | (with_reducible refine Kd.ZC ?_ _) | (with_reducible refine Kd.ZF ?_ _) | (with_reducible refine Kd.ZN ?_))); (case side2 => exact (Kd.Zv HO1_1.out).2.1); rintro e w30 ⟨rfl, hb⟩; refine ⟨_, rfl, ?_⟩; have n0_ := Zb.mk (Kd.Zz (by (with_reducible repeat (first | apply Kd.Zm | apply Kd.Zo)); exact HO0_1.out) hb); have n1_ := Zb.mk (Kd.Zz (by (with_reducible repeat (first | apply Kd.Zm | apply Kd.Zo)); exact HO1_1.out) hb); have n2_ := Zb.mk (Zn (g := gb246) (o := .cells #[.bool a0_0, .slice Ao19 l0_1.length co19, .int .i64 a0_2] 48 (0, 0)) (by (with_reducible repeat (first | refine Ze ?_ _ | refine Zg ?_ | refine Zf ?_ _)); exact BK246.out) hb); have n3_ := Zb.mk (Zn (g := gb247) (o := .cells #[.bool a1_0, .slice Ao21 l1_1.length co21, .int .i64 a1_2] 48 (0, 0)) (by (with_reducible repeat (first | refine Ze ?_ _ | refine Zg ?_ | refine Zf ?_ _)); exact BK247.out) hb); have n4_ := Zb.mk (Zn (g := gb248) (o := .cells #[.bool false, .slice none 0 0, .int .i64 0] 48 (0, 0)) (by (with_reducible repeat (first | refine Ze ?_ _ | refine Zg ?_ | refine Zf ?_ _)); exact BK248.out) hb); have n5_ := Zb.mk (Kept.below (S := (fun k_ => P0_1_ k_ ∨ P1_1_ k_)) (by repeat (first | (with_reducible first | exact HK.out | apply Kept.alloc | apply Kept.drewN | apply Kept.drew | refine Kept.setCell ?_ (.inr GW246.out) _ | refine Kept.setCell ?_ (.inr GW247.out) _ | refine Kept.setCell ?_ (.inr GW248.out) _) | exact HK.out)) hb); have n6_ := Zb.mk (Zl (by repeat (first | (with_reducible first | exact HB.out | apply Zc | apply Za | apply Zd | refine Zh ?_ GE246.out | refine Zh ?_ GE247.out | refine Zh ?_ GE248.out) | exact HB.out)) hb); clear HO0_1; clear HO1_1; clear BK246; clear BK247; clear BK248; clear HK; clear HB; have HO0_1 := n0_; have HO1_1 := n1_; have BK246 := n2_; have BK247 := n3_; have BK248 := n4_; have HK := n5_; have HB := n6_; clear n0_ n1_ n2_ n3_ n4_ n5_ n6_; (try clear hb); (try clear hb2); (try clear hk); (try clear hi); have hcz31_0 : w30.cell? ⟨gb246, 0, none⟩ = some (.bool a0_0) := (Zk BK246.out 0).trans rfl; have hcz31_1 : w30.cell? ⟨gb246, 1, none⟩ = some (.slice Ao19 l0_1.length co19) := (Zk BK246.out 1).trans rfl; have hcz31_2 : w30.cell? ⟨gb246, 2, none⟩ = some (.int .i64 a0_2) := (Zk BK246.out 2).trans rfl; have hfz31_0 := Zj BK246.out 0; have hfz31_1 := Zj BK246.out 1; have hfz31_2 := Zj BK246.out 2; have hcz32_0 : w30.cell? ⟨gb248, 0, none⟩ = some (.bool false) := (Zk BK248.out 0).trans rfl; have hcz32_1 : w30.cell? ⟨gb248, 1, none⟩ = some (.slice none 0 0) := (Zk BK248.out 1).trans rfl; have hcz32_2 : w30.cell? ⟨gb248, 2, none⟩ = some (.int .i64 0) := (Zk BK248.out 2).trans rfl; have hfz32_0 := Zj BK248.out 0; have hfz32_1 := Zj BK248.out 1; have hfz32_2 := Zj BK248.out 2))
   refine bodyPost_ret (results_cell_row rfl _ _ gb248 48 #[.bool a0_0, .slice Ao19 l0_1.length co19, .int .i64 a0_2] (0, 0) _ rfl (by (with_reducible repeat (first | refine Ze ?_ _ | refine Zg ?_ | refine Zf ?_ _)); refine Zu (cs := #[.bool a0_0, .slice Ao19 l0_1.length co19, .int .i64 0]) ?_ 2 _ rfl; (with_reducible repeat (first | refine Ze ?_ _ | refine Zg ?_ | refine Zf ?_ _)); refine Zu (cs := #[.bool a0_0, .slice none 0 0, .int .i64 0]) ?_ 1 _ rfl; (with_reducible repeat (first | refine Ze ?_ _ | refine Zg ?_ | refine Zf ?_ _)); refine Zu (cs := #[.bool false, .slice none 0 0, .int .i64 0]) ?_ 0 _ rfl; (with_reducible repeat (first | refine Ze ?_ _ | refine Zg ?_ | refine Zf ?_ _)); exact BK248.out) Try.underlying48 rfl (by kernel_rfl)) rfl ?_
   exact ⟨_, by first | rfl | (simp [errW_none, errW_some] <;> rfl) | (simp [*, errW_none, errW_some] <;> rfl), by (with_reducible repeat (first | apply Kd.Zm | apply Kd.Zo)); exact Kd.ZE (Kd.ZH (p := ⟨gb248, 2, none⟩) (Kd.ZH (p := ⟨gb248, 1, none⟩) (Kd.ZH (p := ⟨gb248, 0, none⟩) (Kd.ZI HO0_1.out BK248.out (by decide)) (fun _ hk => hk.2) (.bool a0_0)) (fun _ hk => hk.2) (.slice Ao19 l0_1.length co19)) (fun _ hk => hk.2) (.int .i64 a0_2)) (fun _ hk => hk.1.1), by repeat (first | (with_reducible first | exact HB.out | apply Zc | apply Za | apply Zd | refine Zh ?_ GE246.out | refine Zh ?_ GE247.out | refine Zh ?_ GE248.out) | exact HB.out), by repeat (first | (with_reducible first | exact HK.out | apply Kept.alloc | apply Kept.drewN | apply Kept.drew | refine Kept.setCell ?_ (.inr GW246.out) _ | refine Kept.setCell ?_ (.inr GW247.out) _ | refine Kept.setCell ?_ (.inr GW248.out) _) | exact HK.out)⟩
  ·replace c18 := Bool.eq_false_iff.mpr c18
   subst c18
   have H1 : (if a0_2 > a1_2 then (none) else ((r00NatUp.f k l1_1 (wrap64 (a1_2 - a0_2))).bind fun t251 => (if (a0_0 == a1_0) = true then ((r00NatAdd.f k l0_1 t251).bind fun t254 => (some (a0_0, t254, a0_2))) else (none)))) = some (r1, r2, r3) := by rw [if_neg (show ¬ (false = true) by decide)] at H; exact H
   clear H
   have H := H1
   clear H1
   by_cases c33 : a0_2 > a1_2
   ·rw [if_pos c33] at H
    exact absurd H (by simp)
   ·rw [if_neg c33] at H
    have c33b0 : decide (a1_2 < a0_2) = false := decide_eq_false c33
    clear c33
    replace H := Option.bind_eq_some_iff.mp H
    obtain ⟨t251, A340, H⟩ := H
    replace H : (if (a0_0 == a1_0) = true then ((r00NatAdd.f k l0_1 t251).bind fun t254 => (some (a0_0, t254, a0_2))) else (none)) = some (r1, r2, r3) := H
    have A34 := Zb.mk A340
    clear A340
    by_cases c35 : (a0_0 == a1_0) = true
    ·rw [if_pos c35] at H
     have c35b0 : (a0_0 == a1_0) = true := c35
     (try (have c35b1 : decide (a0_0 = a1_0) = true := by simpa using c35))
     (try (have c35b2 : (a0_0 == a1_0) = true := by simpa using c35))
     clear c35
     replace H := Option.bind_eq_some_iff.mp H
     obtain ⟨t254, A360, H⟩ := H
     replace H : (some (a0_0, t254, a0_2)) = some (r1, r2, r3) := H
     have A36 := Zb.mk A360
     clear A360
     simp only [Option.some.injEq, Prod.mk.injEq] at H
     obtain ⟨rfl, rfl, rfl⟩ := H
     obtain ⟨Ao37, co37, eo37⟩ := Kd.Zy HO0_1.out
     subst eo37
     go_enter Try.func24, Try.ntmps24
     try go_wp2_with (first | ((with_reducible refine Zt (N := 2) rfl ?_); refine Zs ?hg (N := 2) ?hd (cs := #[.bool a0_0, .slice Ao37 l0_1.length co37, .int .i64 a0_2]) (t := 48) ?hr ?_; (case hd => rfl); (case hg => rfl); (case hr => first | (go_simp; done) | (go_simp; rfl)); intro gb246 hg w38 hbox hb; have n0_ := Zb.mk (Kd.Zz (by (with_reducible repeat (first | apply Kd.Zm | apply Kd.Zo)); exact HO0_1.out) hb); have n1_ := Zb.mk (Kd.Zz (by (with_reducible repeat (first | apply Kd.Zm | apply Kd.Zo)); exact HO1_1.out) hb); have n2_ := Zb.mk (Kept.below (S := (fun k_ => P0_1_ k_ ∨ P1_1_ k_)) (by repeat (first | (with_reducible first | exact HK.out | apply Kept.alloc | apply Kept.drewN | apply Kept.drew) | exact HK.out)) hb); have n3_ := Zb.mk (Zl (by repeat (first | (with_reducible first | exact HB.out | apply Zc | apply Za | apply Zd) | exact HB.out)) hb); have n4_ := Zb.mk (hbox); have n5_ := Zb.mk ((by rw [hg]; exact (by first | exact HK.out.1 | exact (show Kept w _ (fun k_ => P0_1_ k_ ∨ P1_1_ k_) from by repeat (first | (with_reducible first | exact HK.out | apply Kept.alloc | apply Kept.drewN | apply Kept.drew) | exact HK.out)).1) : w.heap.size ≤ gb246)); have n6_ := Zb.mk ((by rw [hg]; exact (Zi (by repeat (first | (with_reducible first | exact HB.out | apply Zc | apply Za | apply Zd) | exact HB.out))) : w0.heap.size ≤ gb246)); clear HO0_1; clear HO1_1; clear HK; clear HB; have HO0_1 := n0_; have HO1_1 := n1_; have HK := n2_; have HB := n3_; have BK246 := n4_; have GW246 := n5_; have GE246 := n6_; clear n0_ n1_ n2_ n3_ n4_ n5_ n6_; clear hb hbox hg; obtain ⟨Ao39, co39, eo39⟩ := Kd.Zy HO1_1.out; subst eo39) | ((with_reducible refine Zt (N := 3) rfl ?_); refine Zs ?hg (N := 3) ?hd (cs := #[.bool a1_0, .slice Ao39 l1_1.length co39, .int .i64 a1_2]) (t := 48) ?hr ?_; (case hd => rfl); (case hg => rfl); (case hr => first | (go_simp; done) | (go_simp; rfl)); intro gb247 hg w40 hbox hb; have n0_ := Zb.mk (Kd.Zz (by (with_reducible repeat (first | apply Kd.Zm | apply Kd.Zo)); exact HO0_1.out) hb); have n1_ := Zb.mk (Kd.Zz (by (with_reducible repeat (first | apply Kd.Zm | apply Kd.Zo)); exact HO1_1.out) hb); have n2_ := Zb.mk (Zn (g := gb246) (o := .cells #[.bool a0_0, .slice Ao37 l0_1.length co37, .int .i64 a0_2] 48 (0, 0)) (by (with_reducible repeat (first | refine Ze ?_ _ | refine Zg ?_ | refine Zf ?_ _)); exact BK246.out) hb); have n3_ := Zb.mk (Kept.below (S := (fun k_ => P0_1_ k_ ∨ P1_1_ k_)) (by repeat (first | (with_reducible first | exact HK.out | apply Kept.alloc | apply Kept.drewN | apply Kept.drew | refine Kept.setCell ?_ (.inr GW246.out) _) | exact HK.out)) hb); have n4_ := Zb.mk (Zl (by repeat (first | (with_reducible first | exact HB.out | apply Zc | apply Za | apply Zd | refine Zh ?_ GE246.out) | exact HB.out)) hb); have n5_ := Zb.mk (hbox); have n6_ := Zb.mk ((by rw [hg]; exact (by first | exact HK.out.1 | exact (show Kept w _ (fun k_ => P0_1_ k_ ∨ P1_1_ k_) from by repeat (first | (with_reducible first | exact HK.out | apply Kept.alloc | apply Kept.drewN | apply Kept.drew | refine Kept.setCell ?_ (.inr GW246.out) _) | exact HK.out)).1) : w.heap.size ≤ gb247)); have n7_ := Zb.mk ((by rw [hg]; exact (Zi (by repeat (first | (with_reducible first | exact HB.out | apply Zc | apply Za | apply Zd | refine Zh ?_ GE246.out) | exact HB.out))) : w0.heap.size ≤ gb247)); have n8_ := Zb.mk ((by rw [hg]; exact Nat.ne_of_lt (Zw (g := gb246) (o := .cells #[.bool a0_0, .slice Ao37 l0_1.length co37, .int .i64 a0_2] 48 (0, 0)) (by (with_reducible repeat (first | refine Ze ?_ _ | refine Zg ?_ | refine Zf ?_ _)); exact BK246.out)) : gb246 ≠ gb247)); have n9_ := Zb.mk ((by rw [hg]; exact Nat.ne_of_gt (Zw (g := gb246) (o := .cells #[.bool a0_0, .slice Ao37 l0_1.length co37, .int .i64 a0_2] 48 (0, 0)) (by (with_reducible repeat (first | refine Ze ?_ _ | refine Zg ?_ | refine Zf ?_ _)); exact BK246.out)) : gb247 ≠ gb246)); clear HO0_1; clear HO1_1; clear BK246; clear HK; clear HB; have HO0_1 := n0_; have HO1_1 := n1_; have BK246 := n2_; have HK := n3_; have HB := n4_; have BK247 := n5_; have GW247 := n6_; have GE247 := n7_; have NB246_247 := n8_; have NB247_246 := n9_; clear n0_ n1_ n2_ n3_ n4_ n5_ n6_ n7_ n8_ n9_; clear hb hbox hg) | ((with_reducible refine Zt (N := 4) rfl ?_); refine Zs ?hg (N := 4) ?hd (cs := #[.bool false, .slice none 0 0, .int .i64 0]) (t := 48) ?hr ?_; (case hd => rfl); (case hg => rfl); (case hr => first | (go_simp; done) | (go_simp; rfl)); intro gb248 hg w41 hbox hb; have n0_ := Zb.mk (Kd.Zz (by (with_reducible repeat (first | apply Kd.Zm | apply Kd.Zo)); exact HO0_1.out) hb); have n1_ := Zb.mk (Kd.Zz (by (with_reducible repeat (first | apply Kd.Zm | apply Kd.Zo)); exact HO1_1.out) hb); have n2_ := Zb.mk (Zn (g := gb246) (o := .cells #[.bool a0_0, .slice Ao37 l0_1.length co37, .int .i64 a0_2] 48 (0, 0)) (by (with_reducible repeat (first | refine Ze ?_ _ | refine Zg ?_ | refine Zf ?_ _)); exact BK246.out) hb); have n3_ := Zb.mk (Zn (g := gb247) (o := .cells #[.bool a1_0, .slice Ao39 l1_1.length co39, .int .i64 a1_2] 48 (0, 0)) (by (with_reducible repeat (first | refine Ze ?_ _ | refine Zg ?_ | refine Zf ?_ _)); exact BK247.out) hb); have n4_ := Zb.mk (Kept.below (S := (fun k_ => P0_1_ k_ ∨ P1_1_ k_)) (by repeat (first | (with_reducible first | exact HK.out | apply Kept.alloc | apply Kept.drewN | apply Kept.drew | refine Kept.setCell ?_ (.inr GW246.out) _ | refine Kept.setCell ?_ (.inr GW247.out) _) | exact HK.out)) hb); have n5_ := Zb.mk (Zl (by repeat (first | (with_reducible first | exact HB.out | apply Zc | apply Za | apply Zd | refine Zh ?_ GE246.out | refine Zh ?_ GE247.out) | exact HB.out)) hb); have n6_ := Zb.mk (hbox); have n7_ := Zb.mk ((by rw [hg]; exact (by first | exact HK.out.1 | exact (show Kept w _ (fun k_ => P0_1_ k_ ∨ P1_1_ k_) from by repeat (first | (with_reducible first | exact HK.out | apply Kept.alloc | apply Kept.drewN | apply Kept.drew | refine Kept.setCell ?_ (.inr GW246.out) _ | refine Kept.setCell ?_ (.inr GW247.out) _) | exact HK.out)).1) : w.heap.size ≤ gb248)); have n8_ := Zb.mk ((by rw [hg]; exact (Zi (by repeat (first | (with_reducible first | exact HB.out | apply Zc | apply Za | apply Zd | refine Zh ?_ GE246.out | refine Zh ?_ GE247.out) | exact HB.out))) : w0.heap.size ≤ gb248)); have n9_ := Zb.mk ((by rw [hg]; exact Nat.ne_of_lt (Zw (g := gb246) (o := .cells #[.bool a0_0, .slice Ao37 l0_1.length co37, .int .i64 a0_2] 48 (0, 0)) (by (with_reducible repeat (first | refine Ze ?_ _ | refine Zg ?_ | refine Zf ?_ _)); exact BK246.out)) : gb246 ≠ gb248)); have n10_ := Zb.mk ((by rw [hg]; exact Nat.ne_of_gt (Zw (g := gb246) (o := .cells #[.bool a0_0, .slice Ao37 l0_1.length co37, .int .i64 a0_2] 48 (0, 0)) (by (with_reducible repeat (first | refine Ze ?_ _ | refine Zg ?_ | refine Zf ?_ _)); exact BK246.out)) : gb248 ≠ gb246)); have n11_ := Zb.mk ((by rw [hg]; exact Nat.ne_of_lt (Zw (g := gb247) (o := .cells #[.bool a1_0, .slice Ao39 l1_1.length co39, .int .i64 a1_2] 48 (0, 0)) (by (with_reducible repeat (first | refine Ze ?_ _ | refine Zg ?_ | refine Zf ?_ _)); exact BK247.out)) : gb247 ≠ gb248)); have n12_ := Zb.mk ((by rw [hg]; exact Nat.ne_of_gt (Zw (g := gb247) (o := .cells #[.bool a1_0, .slice Ao39 l1_1.length co39, .int .i64 a1_2] 48 (0, 0)) (by (with_reducible repeat (first | refine Ze ?_ _ | refine Zg ?_ | refine Zf ?_ _)); exact BK247.out)) : gb248 ≠ gb247)); clear HO0_1; clear HO1_1; clear BK246; clear BK247; clear HK; clear HB; have HO0_1 := n0_; have HO1_1 := n1_; have BK246 := n2_; have BK247 := n3_; have HK := n4_; have HB := n5_; have BK248 := n6_; have GW248 := n7_; have GE248 := n8_; have NB246_248 := n9_; have NB248_246 := n10_; have NB247_248 := n11_; have NB248_247 := n12_; clear n0_ n1_ n2_ n3_ n4_ n5_ n6_ n7_ n8_ n9_ n10_ n11_ n12_; clear hb hbox hg; have hnb42 := NB246_247.out; have hnc42 := NB247_246.out; have hnb43 := NB246_248.out; have hnc43 := NB248_246.out; have hcz44_0 : w41.cell? ⟨gb246, 0, none⟩ = some (.bool a0_0) := (Zk BK246.out 0).trans rfl; have hcz44_1 : w41.cell? ⟨gb246, 1, none⟩ = some (.slice Ao37 l0_1.length co37) := (Zk BK246.out 1).trans rfl; have hcz44_2 : w41.cell? ⟨gb246, 2, none⟩ = some (.int .i64 a0_2) := (Zk BK246.out 2).trans rfl; have hfz44_0 := Zj BK246.out 0; have hfz44_1 := Zj BK246.out 1; have hfz44_2 := Zj BK246.out 2) | ((with_reducible refine Zp (f := 54) rfl ?_); refine ZB (some 8) rfl rfl Try.func54 (by kernel_rfl) rfl #[.agg #[.bool a0_0, .slice Ao37 l0_1.length co37, .int .i64 a0_2]] rfl (by (try simp only [List.map_toArray, List.map_cons, List.map_nil]); first | done | rfl | (simp only [List.length_drop, List.length_take]; rfl)) ?_; (with_reducible refine (r00Num_Zero.calls k a0_0 _ _ l0_1 a0_2 false _ ?side1 ?side2 A3.out).mono ?_); (case side1 => repeat (first | exact (Kd.Zv HO0_1.out).2.2 | (with_reducible refine Kd.ZC ?_ _) | (with_reducible refine Kd.ZF ?_ _) | (with_reducible refine Kd.ZN ?_))); (case side2 => exact (Kd.Zv HO0_1.out).2.1); rintro e w45 ⟨rfl, hb⟩; refine ⟨_, rfl, ?_⟩; have n0_ := Zb.mk (Kd.Zz (by (with_reducible repeat (first | apply Kd.Zm | apply Kd.Zo)); exact HO0_1.out) hb); have n1_ := Zb.mk (Kd.Zz (by (with_reducible repeat (first | apply Kd.Zm | apply Kd.Zo)); exact HO1_1.out) hb); have n2_ := Zb.mk (Zn (g := gb246) (o := .cells #[.bool a0_0, .slice Ao37 l0_1.length co37, .int .i64 a0_2] 48 (0, 0)) (by (with_reducible repeat (first | refine Ze ?_ _ | refine Zg ?_ | refine Zf ?_ _)); exact BK246.out) hb); have n3_ := Zb.mk (Zn (g := gb247) (o := .cells #[.bool a1_0, .slice Ao39 l1_1.length co39, .int .i64 a1_2] 48 (0, 0)) (by (with_reducible repeat (first | refine Ze ?_ _ | refine Zg ?_ | refine Zf ?_ _)); exact BK247.out) hb); have n4_ := Zb.mk (Zn (g := gb248) (o := .cells #[.bool false, .slice none 0 0, .int .i64 0] 48 (0, 0)) (by (with_reducible repeat (first | refine Ze ?_ _ | refine Zg ?_ | refine Zf ?_ _)); exact BK248.out) hb); have n5_ := Zb.mk (Kept.below (S := (fun k_ => P0_1_ k_ ∨ P1_1_ k_)) (by repeat (first | (with_reducible first | exact HK.out | apply Kept.alloc | apply Kept.drewN | apply Kept.drew | refine Kept.setCell ?_ (.inr GW246.out) _ | refine Kept.setCell ?_ (.inr GW247.out) _ | refine Kept.setCell ?_ (.inr GW248.out) _) | exact HK.out)) hb); have n6_ := Zb.mk (Zl (by repeat (first | (with_reducible first | exact HB.out | apply Zc | apply Za | apply Zd | refine Zh ?_ GE246.out | refine Zh ?_ GE247.out | refine Zh ?_ GE248.out) | exact HB.out)) hb); clear HO0_1; clear HO1_1; clear BK246; clear BK247; clear BK248; clear HK; clear HB; have HO0_1 := n0_; have HO1_1 := n1_; have BK246 := n2_; have BK247 := n3_; have BK248 := n4_; have HK := n5_; have HB := n6_; clear n0_ n1_ n2_ n3_ n4_ n5_ n6_; (try clear hb); (try clear hb2); (try clear hk); (try clear hi); have hnb46 := NB247_248.out; have hnc46 := NB248_247.out; have hcz47_0 : w45.cell? ⟨gb247, 0, none⟩ = some (.bool a1_0) := (Zk BK247.out 0).trans rfl; have hcz47_1 : w45.cell? ⟨gb247, 1, none⟩ = some (.slice Ao39 l1_1.length co39) := (Zk BK247.out 1).trans rfl; have hcz47_2 : w45.cell? ⟨gb247, 2, none⟩ = some (.int .i64 a1_2) := (Zk BK247.out 2).trans rfl; have hfz47_0 := Zj BK247.out 0; have hfz47_1 := Zj BK247.out 1; have hfz47_2 := Zj BK247.out 2) | ((with_reducible refine Zp (f := 54) rfl ?_); refine ZB (some 11) rfl rfl Try.func54 (by kernel_rfl) rfl #[.agg #[.bool a1_0, .slice Ao39 l1_1.length co39, .int .i64 a1_2]] rfl (by (try simp only [List.map_toArray, List.map_cons, List.map_nil]); first | done | rfl | (simp only [List.length_drop, List.length_take]; rfl)) ?_; (with_reducible refine (r00Num_Zero.calls k a1_0 _ _ l1_1 a1_2 false _ ?side1 ?side2 A17.out).mono ?_); (case side1 => repeat (first | exact (Kd.Zv HO1_1.out).2.2 | (with_reducible refine Kd.ZC ?_ _) | (with_reducible refine Kd.ZF ?_ _) | (with_reducible refine Kd.ZN ?_))); (case side2 => exact (Kd.Zv HO1_1.out).2.1); rintro e w48 ⟨rfl, hb⟩; refine ⟨_, rfl, ?_⟩; have n0_ := Zb.mk (Kd.Zz (by (with_reducible repeat (first | apply Kd.Zm | apply Kd.Zo)); exact HO0_1.out) hb); have n1_ := Zb.mk (Kd.Zz (by (with_reducible repeat (first | apply Kd.Zm | apply Kd.Zo)); exact HO1_1.out) hb); have n2_ := Zb.mk (Zn (g := gb246) (o := .cells #[.bool a0_0, .slice Ao37 l0_1.length co37, .int .i64 a0_2] 48 (0, 0)) (by (with_reducible repeat (first | refine Ze ?_ _ | refine Zg ?_ | refine Zf ?_ _)); exact BK246.out) hb); have n3_ := Zb.mk (Zn (g := gb247) (o := .cells #[.bool a1_0, .slice Ao39 l1_1.length co39, .int .i64 a1_2] 48 (0, 0)) (by (with_reducible repeat (first | refine Ze ?_ _ | refine Zg ?_ | refine Zf ?_ _)); exact BK247.out) hb); have n4_ := Zb.mk (Zn (g := gb248) (o := .cells #[.bool false, .slice none 0 0, .int .i64 0] 48 (0, 0)) (by (with_reducible repeat (first | refine Ze ?_ _ | refine Zg ?_ | refine Zf ?_ _)); exact BK248.out) hb); have n5_ := Zb.mk (Kept.below (S := (fun k_ => P0_1_ k_ ∨ P1_1_ k_)) (by repeat (first | (with_reducible first | exact HK.out | apply Kept.alloc | apply Kept.drewN | apply Kept.drew | refine Kept.setCell ?_ (.inr GW246.out) _ | refine Kept.setCell ?_ (.inr GW247.out) _ | refine Kept.setCell ?_ (.inr GW248.out) _) | exact HK.out)) hb); have n6_ := Zb.mk (Zl (by repeat (first | (with_reducible first | exact HB.out | apply Zc | apply Za | apply Zd | refine Zh ?_ GE246.out | refine Zh ?_ GE247.out | refine Zh ?_ GE248.out) | exact HB.out)) hb); clear HO0_1; clear HO1_1; clear BK246; clear BK247; clear BK248; clear HK; clear HB; have HO0_1 := n0_; have HO1_1 := n1_; have BK246 := n2_; have BK247 := n3_; have BK248 := n4_; have HK := n5_; have HB := n6_; clear n0_ n1_ n2_ n3_ n4_ n5_ n6_; (try clear hb); (try clear hb2); (try clear hk); (try clear hi); have hcz49_0 : w48.cell? ⟨gb246, 0, none⟩ = some (.bool a0_0) := (Zk BK246.out 0).trans rfl; have hcz49_1 : w48.cell? ⟨gb246, 1, none⟩ = some (.slice Ao37 l0_1.length co37) := (Zk BK246.out 1).trans rfl; have hcz49_2 : w48.cell? ⟨gb246, 2, none⟩ = some (.int .i64 a0_2) := (Zk BK246.out 2).trans rfl; have hfz49_0 := Zj BK246.out 0; have hfz49_1 := Zj BK246.out 1; have hfz49_2 := Zj BK246.out 2; have hcz50_0 : w48.cell? ⟨gb247, 0, none⟩ = some (.bool a1_0) := (Zk BK247.out 0).trans rfl; have hcz50_1 : w48.cell? ⟨gb247, 1, none⟩ = some (.slice Ao39 l1_1.length co39) := (Zk BK247.out 1).trans rfl; have hcz50_2 : w48.cell? ⟨gb247, 2, none⟩ = some (.int .i64 a1_2) := (Zk BK247.out 2).trans rfl; have hfz50_0 := Zj BK247.out 0; have hfz50_1 := Zj BK247.out 1; have hfz50_2 := Zj BK247.out 2))
     have n0_ := Zb.mk (Kd.Zo HO0_1.out)
     have n1_ := Zb.mk (Kd.Zo HO1_1.out)
     have n2_ := Zb.mk (Zg BK246.out)
     have n3_ := Zb.mk (Zg BK247.out)
     have n4_ := Zb.mk (Zg BK248.out)
     have n5_ := Zb.mk (Kept.drew HK.out)
     have n6_ := Zb.mk (Zd HB.out)
     clear HO0_1
     clear HO1_1
     clear BK246
     clear BK247
     clear BK248
     clear HK
     clear HB
     have HO0_1 := n0_
     have HO1_1 := n1_
     have BK246 := n2_
     have BK247 := n3_
     have BK248 := n4_
     have HK := n5_
     have HB := n6_
     clear n0_ n1_ n2_ n3_ n4_ n5_ n6_
     refine start_ (n := 12) (S := fun w' => w'.cell? ⟨gb246, 0, none⟩ = some (.bool a0_0) ∧ w'.cell? ⟨gb246, 1, none⟩ = some (.slice Ao37 l0_1.length co37) ∧ w'.cell? ⟨gb246, 2, none⟩ = some (.int .i64 a0_2) ∧ w'.cell? ⟨gb247, 0, none⟩ = some (.bool a1_0) ∧ w'.cell? ⟨gb247, 1, none⟩ = some (.slice Ao39 l1_1.length co39) ∧ w'.cell? ⟨gb247, 2, none⟩ = some (.int .i64 a1_2)) (ds := []) #[false, false, false, false, false, false, false, false, false, false, false, false] (by kernel_rfl) rfl rfl ⟨(Zk BK246.out 0).trans rfl, (Zk BK246.out 1).trans rfl, (Zk BK246.out 2).trans rfl, (Zk BK247.out 0).trans rfl, (Zk BK247.out 1).trans rfl, (Zk BK247.out 2).trans rfl⟩ (fun hHeld => ?_); refine with_tabW r00Plus.tab7 r00Plus.bits7 (fun HT_ HW_ => ?_)
     generalize w48.drew = w51 at HO0_1 HO1_1 BK246 BK247 BK248 HK HB hHeld ⊢
     refine ZM (i := 0) (N := some 21) (v := ?_) (a' := ?_) #[true, false, false, false, false, false, false, false, false, false, false, false] rfl rfl (ZD HT_.out (by kernel_rfl)) (fun _ _ _ h => h) (Or.inl ⟨by rfl, ?_⟩) ?_ ?_
     rotate_left
     ·intro w'
      go_simp
      with_reducible rfl
     rotate_left
     ·simp only [Act.put, List.setIfInBounds_toArray, List.set_cons_zero, List.set_cons_succ, Zx, ZA]
      rfl
     refine ZM (i := 2) (N := some 23) (v := ?_) (a' := ?_) #[true, false, true, false, false, false, false, false, false, false, false, false] rfl rfl (ZD HT_.out (by kernel_rfl)) (fun _ _ _ h => h) (Or.inl ⟨by rfl, ?_⟩) ?_ ?_
     rotate_left
     ·intro w'
      go_simp
      with_reducible rfl
     rotate_left
     ·simp only [Act.put, List.setIfInBounds_toArray, List.set_cons_zero, List.set_cons_succ, Zx, ZA]
      rfl
     refine ZM (i := 4) (N := some 25) (v := ?_) (a' := ?_) #[true, false, true, false, true, false, false, false, false, false, false, false] rfl rfl (ZD HT_.out (by kernel_rfl)) (fun _ _ _ h => h) (Or.inl ⟨by rfl, ?_⟩) ?_ ?_
     rotate_left
     ·intro w'
      go_simp
      with_reducible rfl
     rotate_left
     ·simp only [Act.put, List.setIfInBounds_toArray, List.set_cons_zero, List.set_cons_succ, Zx, ZA]
      rfl
     refine ZM (i := 6) (N := some 27) (v := ?_) (a' := ?_) #[true, false, true, false, true, false, true, false, false, false, false, false] rfl rfl (ZD HT_.out (by kernel_rfl)) (fun _ _ _ h => h) (Or.inl ⟨by rfl, ?_⟩) ?_ ?_
     rotate_left
     ·intro w'
      go_simp
      with_reducible rfl
     rotate_left
     ·simp only [Act.put, List.setIfInBounds_toArray, List.set_cons_zero, List.set_cons_succ, Zx, ZA]
      rfl
     refine take_ (i := 1) (N := some 22) (v := ?_) (a' := ?_) #[true, true, true, false, true, false, true, false, false, false, false, false] rfl rfl (take_ofW HT_.out HW_.out (by kernel_rfl)) (fun _ _ _ h => h) (Or.inl ⟨by rfl, ?_⟩) hHeld ?_ ?_
     rotate_left
     ·rintro w' ⟨s0, s1, s2, s3, s4, s5⟩
      go_simp
      with_reducible rfl
     rotate_left
     ·simp only [Act.put, List.setIfInBounds_toArray, List.set_cons_zero, List.set_cons_succ, Zx, ZA]
      rfl
     refine take_ (i := 3) (N := some 24) (v := ?_) (a' := ?_) #[true, true, true, true, true, false, true, false, false, false, false, false] rfl rfl (take_ofW HT_.out HW_.out (by kernel_rfl)) (fun _ _ _ h => h) (Or.inl ⟨by rfl, ?_⟩) hHeld ?_ ?_
     rotate_left
     ·rintro w' ⟨s0, s1, s2, s3, s4, s5⟩
      go_simp
      with_reducible rfl
     rotate_left
     ·simp only [Act.put, List.setIfInBounds_toArray, List.set_cons_zero, List.set_cons_succ, Zx, ZA]
      rfl
     refine take_ (i := 5) (N := some 26) (v := ?_) (a' := ?_) #[true, true, true, true, true, true, true, false, false, false, false, false] rfl rfl (take_ofW HT_.out HW_.out (by kernel_rfl)) (fun _ _ _ h => h) (Or.inl ⟨by rfl, ?_⟩) hHeld ?_ ?_
     rotate_left
     ·rintro w' ⟨s0, s1, s2, s3, s4, s5⟩
      go_simp
      with_reducible rfl
     rotate_left
     ·simp only [Act.put, List.setIfInBounds_toArray, List.set_cons_zero, List.set_cons_succ, Zx, ZA]
      rfl
     refine take_ (i := 7) (N := some 28) (v := ?_) (a' := ?_) #[true, true, true, true, true, true, true, true, false, false, false, false] rfl rfl (take_ofW HT_.out HW_.out (by kernel_rfl)) (fun _ _ _ h => h) (Or.inl ⟨by rfl, ?_⟩) hHeld ?_ ?_
     rotate_left
     ·rintro w' ⟨s0, s1, s2, s3, s4, s5⟩
      go_simp
      with_reducible rfl
     rotate_left
     ·simp only [Act.put, List.setIfInBounds_toArray, List.set_cons_zero, List.set_cons_succ, Zx, ZA]
      rfl
     refine ZM (i := 8) (N := some 29) (v := ?_) (a' := ?_) #[true, true, true, true, true, true, true, true, true, false, false, false] rfl rfl (ZD HT_.out (by kernel_rfl)) (fun _ _ _ h => h) (Or.inl ⟨by rfl, ?_⟩) ?_ ?_
     rotate_left
     ·intro w'
      go_simp
      with_reducible rfl
     rotate_left
     ·simp only [Act.put, List.setIfInBounds_toArray, List.set_cons_zero, List.set_cons_succ, Zx, ZA]
      rfl
     refine one_ (i := 9) (N := some 30) #[true, true, true, true, true, true, true, true, true, true, false, false] rfl rfl (one_of HT_.out (by kernel_rfl)) (by decide) (fun K hK => ?_)
     refine goes_ Try.func55 (by kernel_rfl) rfl #[.slice Ao39 l1_1.length co39, .int .i64 (wrap64 (a1_2 - a0_2))] (by rfl) rfl rfl (by (try simp only [List.map_toArray, List.map_cons, List.map_nil]); first | done | rfl | (simp only [List.length_drop, List.length_take]; rfl)) ?_
     with_reducible refine (r00NatUp.calls k _ _ l1_1 (wrap64 (a1_2 - a0_2)) t251 _ ?side1 ?side2 A34.out).mono ?_
     (case side1 => repeat (first | exact (Kd.Zv HO1_1.out).2.2 | (with_reducible refine Kd.ZC ?_ _) | (with_reducible refine Kd.ZF ?_ _) | (with_reducible refine Kd.ZN ?_)))
     (case side2 => exact (Kd.Zv HO1_1.out).2.1)
     rintro e w52 ⟨v252, rfl, ho0, hb⟩
     refine ⟨_, rfl, ?_⟩
     have n0_ := Zb.mk (Kd.ZJ (by (with_reducible repeat (first | apply Kd.Zm | apply Kd.Zo)); exact HO0_1.out) (Kd.ZV ho0) hb)
     have n1_ := Zb.mk (Kd.ZJ (by (with_reducible repeat (first | apply Kd.Zm | apply Kd.Zo)); exact HO1_1.out) (Kd.ZV ho0) hb)
     have n2_ := Zb.mk (Kd.ZG (Kd.R_new' (Kd.R_new' (Kd.R_newM (M := fun k_ => ((P0_1_ k_ ∨ P1_1_ k_) ∨ w.heap.size ≤ k_)) ho0 (by first | exact HK.out.1 | exact (show Kept w _ (fun k_ => P0_1_ k_ ∨ P1_1_ k_) from by repeat (first | (with_reducible first | exact HK.out | apply Kept.alloc | apply Kept.drewN | apply Kept.drew | refine Kept.setCell ?_ (.inr GW246.out) _ | refine Kept.setCell ?_ (.inr GW247.out) _ | refine Kept.setCell ?_ (.inr GW248.out) _) | exact HK.out)).1) (fun k_ h_ => .inr h_)) (Kd.R_lt (by (with_reducible repeat (first | apply Kd.Zm | apply Kd.Zo)); exact HO0_1.out))) (Kd.R_lt (by (with_reducible repeat (first | apply Kd.Zm | apply Kd.Zo)); exact HO1_1.out))) (Zi (by repeat (first | (with_reducible first | exact HB.out | apply Zc | apply Za | apply Zd | refine Zh ?_ GE246.out | refine Zh ?_ GE247.out | refine Zh ?_ GE248.out) | exact HB.out))))
     have n3_ := Zb.mk (Zn (g := gb246) (o := .cells #[.bool a0_0, .slice Ao37 l0_1.length co37, .int .i64 a0_2] 48 (0, 0)) (by (with_reducible repeat (first | refine Ze ?_ _ | refine Zg ?_ | refine Zf ?_ _)); exact BK246.out) hb)
     have n4_ := Zb.mk (Zn (g := gb247) (o := .cells #[.bool a1_0, .slice Ao39 l1_1.length co39, .int .i64 a1_2] 48 (0, 0)) (by (with_reducible repeat (first | refine Ze ?_ _ | refine Zg ?_ | refine Zf ?_ _)); exact BK247.out) hb)
     have n5_ := Zb.mk (Zn (g := gb248) (o := .cells #[.bool false, .slice none 0 0, .int .i64 0] 48 (0, 0)) (by (with_reducible repeat (first | refine Ze ?_ _ | refine Zg ?_ | refine Zf ?_ _)); exact BK248.out) hb)
     have n6_ := Zb.mk (Kept.below (S := (fun k_ => P0_1_ k_ ∨ P1_1_ k_)) (by repeat (first | (with_reducible first | exact HK.out | apply Kept.alloc | apply Kept.drewN | apply Kept.drew | refine Kept.setCell ?_ (.inr GW246.out) _ | refine Kept.setCell ?_ (.inr GW247.out) _ | refine Kept.setCell ?_ (.inr GW248.out) _) | exact HK.out)) hb)
     have n7_ := Zb.mk (Zl (by repeat (first | (with_reducible first | exact HB.out | apply Zc | apply Za | apply Zd | refine Zh ?_ GE246.out | refine Zh ?_ GE247.out | refine Zh ?_ GE248.out) | exact HB.out)) hb)
     clear HO0_1
     clear HO1_1
     clear BK246
     clear BK247
     clear BK248
     clear HK
     clear HB
     have HO0_1 := n0_
     have HO1_1 := n1_
     have HO253 := n2_
     have BK246 := n3_
     have BK247 := n4_
     have BK248 := n5_
     have HK := n6_
     have HB := n7_
     clear n0_ n1_ n2_ n3_ n4_ n5_ n6_ n7_
     (try clear hb)
     (try clear hb2)
     (try clear hk)
     (try clear hi)
     (try clear ho0)
     refine hK.out _ _ ⟨(Zk BK246.out 0).trans rfl, (Zk BK246.out 1).trans rfl, (Zk BK246.out 2).trans rfl, (Zk BK247.out 0).trans rfl, (Zk BK247.out 1).trans rfl, (Zk BK247.out 2).trans rfl⟩ (fun hHeld => ?_)
     clear hK K
     refine norm_ (a' := ?_) ?_ ?_
     rotate_left
     ·show Act.put _ (some 30) _ = _
      simp only [Act.put, List.setIfInBounds_toArray, List.set_cons_zero, List.set_cons_succ, Zx, ZA]
      rfl
     refine ZM (i := 10) (N := some 5) (v := ?_) (a' := ?_) #[true, true, true, true, true, true, true, true, true, true, true, false] rfl rfl (ZD HT_.out (by kernel_rfl)) (fun _ _ _ h => h) (Or.inl ⟨by rfl, ?_⟩) ?_ ?_
     rotate_left
     ·intro w'
      go_simp
      with_reducible rfl
     rotate_left
     ·simp only [Act.put, List.setIfInBounds_toArray, List.set_cons_zero, List.set_cons_succ, Zx, ZA]
      rfl
     refine ZM (i := 11) (N := some 6) (v := ?_) (a' := ?_) #[true, true, true, true, true, true, true, true, true, true, true, true] rfl rfl (ZD HT_.out (by kernel_rfl)) (fun _ _ _ h => h) (Or.inl ⟨by rfl, ?_⟩) ?_ ?_
     rotate_left
     ·intro w'
      go_simp
      with_reducible rfl
     rotate_left
     ·simp only [Act.put, List.setIfInBounds_toArray, List.set_cons_zero, List.set_cons_succ, Zx, ZA]
      rfl
     refine done_ (done_of HT_.out (by kernel_rfl)) ?_
     have hcz53_0 : w52.cell? ⟨gb246, 0, none⟩ = some (.bool a0_0) := (Zk BK246.out 0).trans rfl
     have hcz53_1 : w52.cell? ⟨gb246, 1, none⟩ = some (.slice Ao37 l0_1.length co37) := (Zk BK246.out 1).trans rfl
     have hcz53_2 : w52.cell? ⟨gb246, 2, none⟩ = some (.int .i64 a0_2) := (Zk BK246.out 2).trans rfl
     have hfz53_0 := Zj BK246.out 0
     have hfz53_1 := Zj BK246.out 1
     have hfz53_2 := Zj BK246.out 2
     have hcz54_0 : w52.cell? ⟨gb247, 0, none⟩ = some (.bool a1_0) := (Zk BK247.out 0).trans rfl
     have hcz54_1 : w52.cell? ⟨gb247, 1, none⟩ = some (.slice Ao39 l1_1.length co39) := (Zk BK247.out 1).trans rfl
     have hcz54_2 : w52.cell? ⟨gb247, 2, none⟩ = some (.int .i64 a1_2) := (Zk BK247.out 2).trans rfl
     have hfz54_0 := Zj BK247.out 0
     have hfz54_1 := Zj BK247.out 1
     have hfz54_2 := Zj BK247.out 2
     try go_wp2
     have n0_ := Zb.mk (Kd.Zo HO0_1.out)
     have n1_ := Zb.mk (Kd.Zo HO1_1.out)
     have n2_ := Zb.mk (Kd.Zo HO253.out)
     have n3_ := Zb.mk (Zg BK246.out)
     have n4_ := Zb.mk (Zg BK247.out)
     have n5_ := Zb.mk (Zg BK248.out)
     have n6_ := Zb.mk (Kept.drew HK.out)
     have n7_ := Zb.mk (Zd HB.out)
     clear HO0_1
     clear HO1_1
     clear HO253
     clear BK246
     clear BK247
     clear BK248
     clear HK
     clear HB
     have HO0_1 := n0_
     have HO1_1 := n1_
     have HO253 := n2_
     have BK246 := n3_
     have BK247 := n4_
     have BK248 := n5_
     have HK := n6_
     have HB := n7_
     clear n0_ n1_ n2_ n3_ n4_ n5_ n6_ n7_
     obtain ⟨Ao56, co56, eo56⟩ := Kd.Zy HO253.out
     (first | subst eo56 | (injection eo56 with f1_ f2_ f3_; have f4_ := f1_.symm; have f5_ := f3_.symm; clear f1_ f2_ f3_; subst f4_; subst f5_))
     refine start_ (n := 9) (S := fun w' => w'.cell? ⟨gb246, 0, none⟩ = some (.bool a0_0) ∧ w'.cell? ⟨gb246, 1, none⟩ = some (.slice Ao37 l0_1.length co37) ∧ w'.cell? ⟨gb246, 2, none⟩ = some (.int .i64 a0_2)) (ds := []) #[false, false, false, false, false, false, false, false, false] (by kernel_rfl) rfl rfl ⟨(Zk BK246.out 0).trans rfl, (Zk BK246.out 1).trans rfl, (Zk BK246.out 2).trans rfl⟩ (fun hHeld => ?_); refine with_tabW r00Plus.tab9 r00Plus.bits9 (fun HT_ HW_ => ?_)
     generalize w52.drew = w55 at HO0_1 HO1_1 HO253 BK246 BK247 BK248 HK HB hHeld ⊢
     refine ZM (i := 0) (N := some 36) (v := ?_) (a' := ?_) #[true, false, false, false, false, false, false, false, false] rfl rfl (ZD HT_.out (by kernel_rfl)) (fun _ _ _ h => h) (Or.inl ⟨by rfl, ?_⟩) ?_ ?_
     rotate_left
     ·intro w'
      go_simp
      with_reducible rfl
     rotate_left
     ·simp only [Act.put, List.setIfInBounds_toArray, List.set_cons_zero, List.set_cons_succ, Zx, ZA]
      rfl
     refine ZM (i := 2) (N := some 38) (v := ?_) (a' := ?_) #[true, false, true, false, false, false, false, false, false] rfl rfl (ZD HT_.out (by kernel_rfl)) (fun _ _ _ h => h) (Or.inl ⟨by rfl, ?_⟩) ?_ ?_
     rotate_left
     ·intro w'
      go_simp
      with_reducible rfl
     rotate_left
     ·simp only [Act.put, List.setIfInBounds_toArray, List.set_cons_zero, List.set_cons_succ, Zx, ZA]
      rfl
     refine ZM (i := 3) (N := some 39) (v := ?_) (a' := ?_) #[true, false, true, true, false, false, false, false, false] rfl rfl (ZD HT_.out (by kernel_rfl)) (fun _ _ _ h => h) (Or.inl ⟨by rfl, ?_⟩) ?_ ?_
     rotate_left
     ·intro w'
      go_simp
      with_reducible rfl
     rotate_left
     ·simp only [Act.put, List.setIfInBounds_toArray, List.set_cons_zero, List.set_cons_succ, Zx, ZA]
      rfl
     refine ZM (i := 5) (N := some 41) (v := ?_) (a' := ?_) #[true, false, true, true, false, true, false, false, false] rfl rfl (ZD HT_.out (by kernel_rfl)) (fun _ _ _ h => h) (Or.inl ⟨by rfl, ?_⟩) ?_ ?_
     rotate_left
     ·intro w'
      go_simp
      with_reducible rfl
     rotate_left
     ·simp only [Act.put, List.setIfInBounds_toArray, List.set_cons_zero, List.set_cons_succ, Zx, ZA]
      rfl
     refine take_ (i := 1) (N := some 37) (v := ?_) (a' := ?_) #[true, true, true, true, false, true, false, false, false] rfl rfl (take_ofW HT_.out HW_.out (by kernel_rfl)) (fun _ _ _ h => h) (Or.inl ⟨by rfl, ?_⟩) hHeld ?_ ?_
     rotate_left
     ·rintro w' ⟨s0, s1, s2⟩
      go_simp
      with_reducible rfl
     rotate_left
     ·simp only [Act.put, List.setIfInBounds_toArray, List.set_cons_zero, List.set_cons_succ, Zx, ZA]
      rfl
     refine take_ (i := 6) (N := some 42) (v := ?_) (a' := ?_) #[true, true, true, true, false, true, true, false, false] rfl rfl (take_ofW HT_.out HW_.out (by kernel_rfl)) (fun _ _ _ h => h) (Or.inl ⟨by rfl, ?_⟩) hHeld ?_ ?_
     rotate_left
     ·rintro w' ⟨s0, s1, s2⟩
      go_simp
      with_reducible rfl
     rotate_left
     ·simp only [Act.put, List.setIfInBounds_toArray, List.set_cons_zero, List.set_cons_succ, Zx, ZA]
      rfl
     refine one_ (i := 4) (N := some 40) #[true, true, true, true, true, true, true, false, false] rfl rfl (one_of HT_.out (by kernel_rfl)) (by decide) (fun K hK => ?_)
     refine goes_ Try.func56 (by kernel_rfl) rfl #[.slice Ao37 l0_1.length co37, .slice Ao56 t251.length co56] (by rfl) rfl rfl (by (try simp only [List.map_toArray, List.map_cons, List.map_nil]); first | done | rfl | (simp only [List.length_drop, List.length_take]; rfl)) ?_
     with_reducible refine (r00NatAdd.calls k _ _ l0_1 _ _ t251 t254 _ ?side1 ?side2 ?side3 ?side4 A36.out).mono ?_
     (case side1 => repeat (first | exact (Kd.Zv HO0_1.out).2.2 | (with_reducible refine Kd.ZC ?_ _) | (with_reducible refine Kd.ZF ?_ _) | (with_reducible refine Kd.ZN ?_)))
     (case side2 => exact (Kd.Zv HO0_1.out).2.1)
     (case side3 => repeat (first | exact (Kd.Zv HO253.out).2.2 | (with_reducible refine Kd.ZC ?_ _) | (with_reducible refine Kd.ZF ?_ _) | (with_reducible refine Kd.ZN ?_)))
     (case side4 => exact (Kd.Zv HO253.out).2.1)
     rintro e w57 ⟨v255, rfl, ho0, hb⟩
     refine ⟨_, rfl, ?_⟩
     have n0_ := Zb.mk (Kd.ZJ (by (with_reducible repeat (first | apply Kd.Zm | apply Kd.Zo)); exact HO0_1.out) (Kd.ZV ho0) hb)
     have n1_ := Zb.mk (Kd.ZJ (by (with_reducible repeat (first | apply Kd.Zm | apply Kd.Zo)); exact HO1_1.out) (Kd.ZV ho0) hb)
     have n2_ := Zb.mk (Kd.ZJ (by (with_reducible repeat (first | apply Kd.Zm | apply Kd.Zo)); exact HO253.out) (Kd.ZV ho0) hb)
     have n3_ := Zb.mk (Kd.ZG (Kd.R_new' (Kd.R_new' (Kd.R_new' (Kd.R_newM (M := fun k_ => ((P0_1_ k_ ∨ P1_1_ k_) ∨ w.heap.size ≤ k_)) ho0 (by first | exact HK.out.1 | exact (show Kept w _ (fun k_ => P0_1_ k_ ∨ P1_1_ k_) from by repeat (first | (with_reducible first | exact HK.out | apply Kept.alloc | apply Kept.drewN | apply Kept.drew | refine Kept.setCell ?_ (.inr GW246.out) _ | refine Kept.setCell ?_ (.inr GW247.out) _ | refine Kept.setCell ?_ (.inr GW248.out) _) | exact HK.out)).1) (fun k_ h_ => .inr h_)) (Kd.R_lt (by (with_reducible repeat (first | apply Kd.Zm | apply Kd.Zo)); exact HO0_1.out))) (Kd.R_lt (by (with_reducible repeat (first | apply Kd.Zm | apply Kd.Zo)); exact HO1_1.out))) (Kd.R_lt (by (with_reducible repeat (first | apply Kd.Zm | apply Kd.Zo)); exact HO253.out))) (Zi (by repeat (first | (with_reducible first | exact HB.out | apply Zc | apply Za | apply Zd | refine Zh ?_ GE246.out | refine Zh ?_ GE247.out | refine Zh ?_ GE248.out) | exact HB.out))))
     have n4_ := Zb.mk (Zn (g := gb246) (o := .cells #[.bool a0_0, .slice Ao37 l0_1.length co37, .int .i64 a0_2] 48 (0, 0)) (by (with_reducible repeat (first | refine Ze ?_ _ | refine Zg ?_ | refine Zf ?_ _)); exact BK246.out) hb)
     have n5_ := Zb.mk (Zn (g := gb247) (o := .cells #[.bool a1_0, .slice Ao39 l1_1.length co39, .int .i64 a1_2] 48 (0, 0)) (by (with_reducible repeat (first | refine Ze ?_ _ | refine Zg ?_ | refine Zf ?_ _)); exact BK247.out) hb)
     have n6_ := Zb.mk (Zn (g := gb248) (o := .cells #[.bool false, .slice none 0 0, .int .i64 0] 48 (0, 0)) (by (with_reducible repeat (first | refine Ze ?_ _ | refine Zg ?_ | refine Zf ?_ _)); exact BK248.out) hb)
     have n7_ := Zb.mk (Kept.below (S := (fun k_ => P0_1_ k_ ∨ P1_1_ k_)) (by repeat (first | (with_reducible first | exact HK.out | apply Kept.alloc | apply Kept.drewN | apply Kept.drew | refine Kept.setCell ?_ (.inr GW246.out) _ | refine Kept.setCell ?_ (.inr GW247.out) _ | refine Kept.setCell ?_ (.inr GW248.out) _) | exact HK.out)) hb)
     have n8_ := Zb.mk (Zl (by repeat (first | (with_reducible first | exact HB.out | apply Zc | apply Za | apply Zd | refine Zh ?_ GE246.out | refine Zh ?_ GE247.out | refine Zh ?_ GE248.out) | exact HB.out)) hb)
     clear HO0_1
     clear HO1_1
     clear HO253
     clear BK246
     clear BK247
     clear BK248
     clear HK
     clear HB
     have HO0_1 := n0_
     have HO1_1 := n1_
     have HO253 := n2_
     have HO256 := n3_
     have BK246 := n4_
     have BK247 := n5_
     have BK248 := n6_
     have HK := n7_
     have HB := n8_
     clear n0_ n1_ n2_ n3_ n4_ n5_ n6_ n7_ n8_
     (try clear hb)
     (try clear hb2)
     (try clear hk)
     (try clear hi)
     (try clear ho0)
     obtain ⟨Ao58, co58, eo58⟩ := Kd.Zy HO256.out
     (first | subst eo58 | (injection eo58 with f1_ f2_ f3_; have f4_ := f1_.symm; have f5_ := f3_.symm; clear f1_ f2_ f3_; subst f4_; subst f5_))
     refine hK.out _ _ ⟨(Zk BK246.out 0).trans rfl, (Zk BK246.out 1).trans rfl, (Zk BK246.out 2).trans rfl⟩ (fun hHeld => ?_)
     clear hK K
     refine norm_ (a' := ?_) ?_ ?_
     rotate_left
     ·show Act.put _ (some 40) _ = _
      simp only [Act.put, List.setIfInBounds_toArray, List.set_cons_zero, List.set_cons_succ, Zx, ZA]
      rfl
     refine ZM (i := 7) (N := some 43) (v := ?_) (a' := ?_) #[true, true, true, true, true, true, true, true, false] rfl rfl (ZD HT_.out (by kernel_rfl)) (fun _ _ _ h => h) (Or.inl ⟨by rfl, ?_⟩) ?_ ?_
     rotate_left
     ·intro w'
      go_simp
      with_reducible rfl
     rotate_left
     ·simp only [Act.put, List.setIfInBounds_toArray, List.set_cons_zero, List.set_cons_succ, Zx, ZA]
      rfl
     refine one_ (i := 8) (N := none) #[true, true, true, true, true, true, true, true, true] rfl rfl (one_of HT_.out (by kernel_rfl)) (by decide) (fun K hK => ?_)
     have hs59 : w57.cell? ⟨gb248, 0, none⟩ = some (.bool false) := (Zk BK248.out 0).trans rfl
     have hfs59 := Zj BK248.out 0
     have hns59_0 := NB246_248.out
     have hns59_1 := NB247_248.out
     have hms59_0 := NB248_246.out
     have hms59_1 := NB248_247.out
     have hs60 : w57.cell? ⟨gb248, 1, none⟩ = some (.slice none 0 0) := (Zk BK248.out 1).trans rfl
     have hfs60 := Zj BK248.out 1
     have hns60_0 := NB246_248.out
     have hns60_1 := NB247_248.out
     have hms60_0 := NB248_246.out
     have hms60_1 := NB248_247.out
     have hs61 : w57.cell? ⟨gb248, 2, none⟩ = some (.int .i64 0) := (Zk BK248.out 2).trans rfl
     have hfs61 := Zj BK248.out 2
     have hns61_0 := NB246_248.out
     have hns61_1 := NB247_248.out
     have hms61_0 := NB248_246.out
     have hms61_1 := NB248_247.out
     refine skip_ (w1 := ?_) (by rfl) rfl ?_ ?_
     rotate_left
     ·go_simp
      rfl
     refine hK.out _ _ ⟨((cell_far (p := ⟨gb248, _, none⟩) NB246_248.out _).trans (((cell_far (p := ⟨gb248, _, none⟩) NB246_248.out _).trans (((cell_far (p := ⟨gb248, _, none⟩) NB246_248.out _).trans (hHeld.1)))))), ((cell_far (p := ⟨gb248, _, none⟩) NB246_248.out _).trans (((cell_far (p := ⟨gb248, _, none⟩) NB246_248.out _).trans (((cell_far (p := ⟨gb248, _, none⟩) NB246_248.out _).trans (hHeld.2.1)))))), ((cell_far (p := ⟨gb248, _, none⟩) NB246_248.out _).trans (((cell_far (p := ⟨gb248, _, none⟩) NB246_248.out _).trans (((cell_far (p := ⟨gb248, _, none⟩) NB246_248.out _).trans (hHeld.2.2))))))⟩ (fun hHeld => ?_)
     clear hK K
     refine done_ (done_of HT_.out (by kernel_rfl)) ?_
     try go_wp2
     refine bodyPost_ret (results_cell_row rfl _ _ gb248 48 #[.bool a0_0, .slice Ao58 t254.length co58, .int .i64 a0_2] (0, 0) _ rfl (by (with_reducible repeat (first | refine Ze ?_ _ | refine Zg ?_ | refine Zf ?_ _)); refine Zu (cs := #[.bool a0_0, .slice Ao58 t254.length co58, .int .i64 0]) ?_ 2 _ rfl; (with_reducible repeat (first | refine Ze ?_ _ | refine Zg ?_ | refine Zf ?_ _)); refine Zu (cs := #[.bool a0_0, .slice none 0 0, .int .i64 0]) ?_ 1 _ rfl; (with_reducible repeat (first | refine Ze ?_ _ | refine Zg ?_ | refine Zf ?_ _)); refine Zu (cs := #[.bool false, .slice none 0 0, .int .i64 0]) ?_ 0 _ rfl; (with_reducible repeat (first | refine Ze ?_ _ | refine Zg ?_ | refine Zf ?_ _)); exact BK248.out) Try.underlying48 rfl (by kernel_rfl)) rfl ?_
     exact ⟨_, by first | rfl | (simp [errW_none, errW_some] <;> rfl) | (simp [*, errW_none, errW_some] <;> rfl), by (with_reducible repeat (first | apply Kd.Zm | apply Kd.Zo)); exact Kd.ZE (Kd.ZH (p := ⟨gb248, 2, none⟩) (Kd.ZH (p := ⟨gb248, 1, none⟩) (Kd.ZH (p := ⟨gb248, 0, none⟩) (Kd.ZI HO256.out BK248.out (by decide)) (fun _ hk => hk.2) (.bool a0_0)) (fun _ hk => hk.2) (.slice Ao58 t254.length co58)) (fun _ hk => hk.2) (.int .i64 a0_2)) (fun _ hk => hk.1.1.1.1.1), by repeat (first | (with_reducible first | exact HB.out | apply Zc | apply Za | apply Zd | refine Zh ?_ GE246.out | refine Zh ?_ GE247.out | refine Zh ?_ GE248.out) | exact HB.out), by repeat (first | (with_reducible first | exact HK.out | apply Kept.alloc | apply Kept.drewN | apply Kept.drew | refine Kept.setCell ?_ (.inr GW246.out) _ | refine Kept.setCell ?_ (.inr GW247.out) _ | refine Kept.setCell ?_ (.inr GW248.out) _) | exact HK.out)⟩
    ·rw [if_neg c35] at H
     exact absurd H (by simp)
end Go.Proofs.Ytokmpejgfkfmbaa.BB
end
section
namespace Go.Proofs.Ytokmpejgfkfmbaa.BB
open Go.RowKit Go.Proofs.Ytokmpejgfkfmbaa.BA Go.Proofs.YtokmpejgfkfmbaaW.PrintWords Go.Proofs.YtokmpejgfkfmbaaW.PrintLast Go.Proofs.YtokmpejgfkfmbaaW.PrintMore
attribute [local go_sem] ZU ZS max_two min_two ZP ZO ZT ZR
set_option linter.unusedVariables false
set_option linter.unusedSimpArgs false
mutual
def r00product.l0 : Nat → List Int → List Int → List Int → Int → Option (List Int)
 | 0, _, _, _, _ => none
 | k + 1, x0, x1, x5, x6 => if x6 < (x0.length : Int) then (r00product.l1 k x0 x1 x5 x6 0 0) else ((r00low.f k x5).bind fun t260 => (some t260))
def r00product.l1 : Nat → List Int → List Int → List Int → Int → Int → Int → Option (List Int)
 | 0, _, _, _, _, _, _ => none
 | k + 1, x0, x1, x5, x6, x7, x8 => if x8 < (x1.length : Int) then (if 0 ≤ x6 then (if x6 < (x0.length : Int) then (if 0 ≤ x8 then (if 0 ≤ (wrap64 (x6 + x8)) then (if (wrap64 (x6 + x8)) < (x5.length : Int) then (r00product.l1 k x0 x1 (x5.set ((wrap64 (x6 + x8)) : Int).toNat (Int.tmod (IntKind.u64.wrap ((IntKind.u64.wrap ((IntKind.u64.wrap ((rd x0 x6) * (rd x1 x8))) + (rd x5 (wrap64 (x6 + x8))))) + x7)) 4294967296)) x6 (IntKind.u64.wrap (Int.tdiv (IntKind.u64.wrap ((IntKind.u64.wrap ((IntKind.u64.wrap ((rd x0 x6) * (rd x1 x8))) + (rd x5 (wrap64 (x6 + x8))))) + x7)) 4294967296)) (wrap64 (x8 + 1))) else (none)) else (none)) else (none)) else (none)) else (none)) else (if 0 ≤ (wrap64 (x6 + (x1.length : Int))) then (if (wrap64 (x6 + (x1.length : Int))) < (x5.length : Int) then (r00product.l0 k x0 x1 (x5.set ((wrap64 (x6 + (x1.length : Int))) : Int).toNat x7) (wrap64 (x6 + 1))) else (none)) else (none))
end
def r00product.f (k : Nat) (l0 : List Int) (l1 : List Int) : Option (List Int) := if 0 ≤ (wrap64 ((l0.length : Int) + (l1.length : Int))) then (if (wrap64 ((l0.length : Int) + (l1.length : Int)) : Int).toNat ≤ 35184372088832 then (r00product.l0 k l0 l1 (List.replicate (wrap64 ((l0.length : Int) + (l1.length : Int)) : Int).toNat 0) 0) else (none)) else (none)
set_option maxHeartbeats 8000000 in
set_option maxRecDepth 100000 in
theorem r00product.calls (k : Nat) (A0 : Option Addr) (c0 : Nat) (l0 : List Int) (A1 : Option Addr) (c1 : Nat) (l1 : List Int) (r : List Int) (w : World) (hr0 : Kd.C (Kd.int .u64) w A0 l0.length l0) (hc0 : l0.length ≤ c0) (hr1 : Kd.C (Kd.int .u64) w A1 l1.length l1) (hc1 : l1.length ≤ c1) (h : r00product.f k l0 l1 = some r) :
  Calls Try.prog 94 #[.slice A0 l0.length c0, .slice A1 l1.length c1] w fun e w' => ∃ v0_ : Value, e = .returned (v0_) ∧ Kd.R (Kd.int .u64) 46 w' w.heap.size (fun _ => True) v0_ r ∧ Below w.heap.size w w' := by
 have HR0 := Zb.mk hr0
 have HC0 := Zb.mk hc0
 clear hr0 hc0
 have HR1 := Zb.mk hr1
 have HC1 := Zb.mk hc1
 clear hr1 hc1
 have HB := Zb.mk (Below.refl w.heap.size w)
 have H : (if 0 ≤ (wrap64 ((l0.length : Int) + (l1.length : Int))) then (if (wrap64 ((l0.length : Int) + (l1.length : Int)) : Int).toNat ≤ 35184372088832 then (r00product.l0 k l0 l1 (List.replicate (wrap64 ((l0.length : Int) + (l1.length : Int)) : Int).toNat 0) 0) else (none)) else (none)) = some r := h
 clear h
 obtain ⟨ji3, hji3⟩ : ∃ j_ : Int, (wrap64 ((l0.length : Int) + (l1.length : Int))) = j_ := ⟨_, rfl⟩
 replace H : (if 0 ≤ (ji3) then (if (ji3 : Int).toNat ≤ 35184372088832 then (r00product.l0 k l0 l1 (List.replicate (ji3 : Int).toNat 0) 0) else (none)) else (none)) = some r := by first | (rw [hji3] at H; exact H) | (simp only [hji3] at H ⊢; exact H)
 have hji3w : (IntKind.i64.wrap ((l0.length : Int) + (l1.length : Int))) = ji3 := (Zx _).trans hji3
 by_cases c4 : 0 ≤ (ji3)
 ·rw [if_pos c4] at H
  have c4b0 := eq_true c4
  have c4b1 : decide (0 ≤ (ji3)) = true := decide_eq_true c4
  clear c4
  by_cases c5 : (ji3 : Int).toNat ≤ 35184372088832
  ·rw [if_pos c5] at H
   have c5b0 := eq_true c5
   have c5b1 : decide ((ji3 : Int).toNat ≤ 35184372088832) = true := decide_eq_true c5
   clear c5
   obtain ⟨y257, hy257⟩ : ∃ y_ : List Int, y_ = (List.replicate (ji3 : Int).toNat 0) := ⟨_, rfl⟩
   replace H : (r00product.l0 k l0 l1 y257 0) = some r := by first | (rw [hy257]; with_reducible exact H) | (have H2_ := (Option.bind_some _ _).symm.trans H; rw [hy257]; with_reducible exact H2_) | (have H2_ := (Option.bind_some _ _).symm.trans H; with_reducible exact H2_) | with_reducible exact H | (rw [hy257]; exact H) | exact H
   have Ny257 := Zb.mk hy257
   clear hy257
   have H' := Zb.mk H
   clear H
   go_enter Try.func94, Try.ntmps94
   go_wp2_with (first | ((with_reducible refine Zt (N := 15) rfl ?_); refine Kd.R_make (Kd.int .u64) _ 46 rfl (N := 15) rfl 22 _ _ rfl ji3 rfl rfl Try.underlying22 (.int .u64 0) 8 info46 rfl (by decide) (by omega) 0 (ok := fun _ => True) (okp := fun _ => True) rfl (fun _ hk => hk) trivial (of_decide_eq_true (by first | (with_reducible assumption) | assumption)) (Nat.le_trans (Nat.mul_le_mul_right _ (of_decide_eq_true (by first | (with_reducible assumption) | assumption) : ji3.toNat ≤ 35184372088832)) (by omega)) (Below.refl _ _) (Nat.le_refl _) ?_; intro v258 w6 ho7 hb hg_ hnew_; clear hg_ hnew_; (first | rw [← Ny257.out] at ho7 | (simp only [Int.reduceToNat] at ho7; rw [← Ny257.out] at ho7)); have n0_ := Zb.mk (Kd.ZG ho7 (Zi (by repeat (first | (with_reducible first | exact HB.out | apply Zc | apply Za | apply Zd) | exact HB.out)))); have n1_ := Zb.mk (Zl (by repeat (first | (with_reducible first | exact HB.out | apply Zc | apply Za | apply Zd) | exact HB.out)) hb); clear HB; have HO259 := n0_; have HB := n1_; clear n0_ n1_; clear hb ho7))
   repeat (go_quiet (first | ((with_reducible refine Zt (N := 15) rfl ?_); refine Kd.R_make (Kd.int .u64) _ 46 rfl (N := 15) rfl 22 _ _ rfl ji3 rfl rfl Try.underlying22 (.int .u64 0) 8 info46 rfl (by decide) (by omega) 0 (ok := fun _ => True) (okp := fun _ => True) rfl (fun _ hk => hk) trivial (of_decide_eq_true (by first | (with_reducible assumption) | assumption)) (Nat.le_trans (Nat.mul_le_mul_right _ (of_decide_eq_true (by first | (with_reducible assumption) | assumption) : ji3.toNat ≤ 35184372088832)) (by omega)) (Below.refl _ _) (Nat.le_refl _) ?_; intro v258 w6 ho7 hb hg_ hnew_; clear hg_ hnew_; (first | rw [← Ny257.out] at ho7 | (simp only [Int.reduceToNat] at ho7; rw [← Ny257.out] at ho7)); have n0_ := Zb.mk (Kd.ZG ho7 (Zi (by repeat (first | (with_reducible first | exact HB.out | apply Zc | apply Za | apply Zd) | exact HB.out)))); have n1_ := Zb.mk (Zl (by repeat (first | (with_reducible first | exact HB.out | apply Zc | apply Za | apply Zd) | exact HB.out)) hb); clear HB; have HO259 := n0_; have HB := n1_; clear n0_ n1_; clear hb ho7)); try go_wp2_with (first | ((with_reducible refine Zt (N := 15) rfl ?_); refine Kd.R_make (Kd.int .u64) _ 46 rfl (N := 15) rfl 22 _ _ rfl ji3 rfl rfl Try.underlying22 (.int .u64 0) 8 info46 rfl (by decide) (by omega) 0 (ok := fun _ => True) (okp := fun _ => True) rfl (fun _ hk => hk) trivial (of_decide_eq_true (by first | (with_reducible assumption) | assumption)) (Nat.le_trans (Nat.mul_le_mul_right _ (of_decide_eq_true (by first | (with_reducible assumption) | assumption) : ji3.toNat ≤ 35184372088832)) (by omega)) (Below.refl _ _) (Nat.le_refl _) ?_; intro v258 w6 ho7 hb hg_ hnew_; clear hg_ hnew_; (first | rw [← Ny257.out] at ho7 | (simp only [Int.reduceToNat] at ho7; rw [← Ny257.out] at ho7)); have n0_ := Zb.mk (Kd.ZG ho7 (Zi (by repeat (first | (with_reducible first | exact HB.out | apply Zc | apply Za | apply Zd) | exact HB.out)))); have n1_ := Zb.mk (Zl (by repeat (first | (with_reducible first | exact HB.out | apply Zc | apply Za | apply Zd) | exact HB.out)) hb); clear HB; have HO259 := n0_; have HB := n1_; clear n0_ n1_; clear hb ho7)))
   go_loopg [6] k (fun kq v6 w' => ∃ (x5_1 : List Int) (x6_1 : Int), v6 = .int .i64 x6_1 ∧ Zb (r00product.l0 kq l0 l1 x5_1 x6_1 = some r) ∧ Zb (kq ≤ k) ∧ Zb (Kd.R (Kd.int .u64) 46 w' w.heap.size (fun _ => True) v258 x5_1) ∧ Zb (Below w.heap.size w w'))
   case atStart => exact ⟨(y257), (0), (by first | rfl | (simp; done) | (simp [*]; done)), H', ⟨Nat.le_refl _⟩, ⟨by (with_reducible repeat (first | apply Kd.Zm | apply Kd.Zo)); exact HO259.out⟩, ⟨by repeat (first | (with_reducible first | exact HB.out | apply Zc | apply Za | apply Zd) | exact HB.out)⟩⟩
   case round =>
    clear H'
    try clear c1
    try clear p2
    try clear c4
    try clear c4b0
    try clear c4b1
    try clear c5
    try clear c5b0
    try clear c5b1
    try clear p6
    obtain ⟨x5_1, x6_1, rfl, HA, HK1, HO_5, HB⟩ := hrel
    cases gk with
    | zero => exact absurd HA.out (by simp [r00product.l0])
    | succ k1 =>
     have H := HA.out
     clear HA
     simp only [r00product.l0] at H
     by_cases c8 : x6_1 < (l0.length : Int)
     ·rw [if_pos c8] at H
      have c8b0 : decide (x6_1 < (l0.length : Int)) = true := decide_eq_true c8
      clear c8
      have H' := Zb.mk H
      clear H
      go_wp2
      repeat (go_quiet (fail); try go_wp2)
      go_loopg [7, 8] k1 (fun kq v7 v8 w' => ∃ (x5_2 : List Int) (x7_2 : Int) (x8_2 : Int), v7 = .int .u64 x7_2 ∧ v8 = .int .i64 x8_2 ∧ Zb (r00product.l1 kq l0 l1 x5_2 x6_1 x7_2 x8_2 = some r) ∧ Zb (kq ≤ k1) ∧ Zb (Kd.R (Kd.int .u64) 46 w' w.heap.size (fun _ => True) v258 x5_2) ∧ Zb (Below w.heap.size w w'))
      case atStart => exact ⟨(x5_1), (0), (0), (by first | rfl | (simp; done) | (simp [*]; done)), (by first | rfl | (simp; done) | (simp [*]; done)), H', ⟨Nat.le_refl _⟩, ⟨by (with_reducible repeat (first | apply Kd.Zm | apply Kd.Zo)); exact HO_5.out⟩, ⟨by repeat (first | (with_reducible first | exact HB.out | apply Zc | apply Za | apply Zd) | exact HB.out)⟩⟩
      case round =>
       clear H'
       try clear c1
       try clear p2
       try clear c4
       try clear c4b0
       try clear c4b1
       try clear c5
       try clear c5b0
       try clear c5b1
       try clear p6
       try clear c8
       try clear c8b0
       try clear p2
       try clear p6
       obtain ⟨x5_2, x7_2, x8_2, rfl, rfl, HA, HK2, HO_5, HB⟩ := hrel
       cases gk with
       | zero => exact absurd HA.out (by simp [r00product.l1])
       | succ k2 =>
        have H := HA.out
        clear HA
        simp only [r00product.l1] at H
        by_cases c9 : x8_2 < (l1.length : Int)
        ·rw [if_pos c9] at H
         have c9b0 : decide (x8_2 < (l1.length : Int)) = true := decide_eq_true c9
         clear c9
         by_cases c10 : 0 ≤ x6_1
         ·rw [if_pos c10] at H
          have c10b0 : decide (0 ≤ x6_1) = true := decide_eq_true c10
          clear c10
          by_cases c11 : x6_1 < (l0.length : Int)
          ·rw [if_pos c11] at H
           have c11b0 : decide (x6_1 < (l0.length : Int)) = true := decide_eq_true c11
           clear c11
           by_cases c12 : 0 ≤ x8_2
           ·rw [if_pos c12] at H
            have c12b0 : decide (0 ≤ x8_2) = true := decide_eq_true c12
            clear c12
            obtain ⟨ji13, hji13⟩ : ∃ j_ : Int, (wrap64 (x6_1 + x8_2)) = j_ := ⟨_, rfl⟩
            replace H : (if 0 ≤ (ji13) then (if (ji13) < (x5_2.length : Int) then (r00product.l1 k2 l0 l1 (x5_2.set ((ji13) : Int).toNat (Int.tmod (IntKind.u64.wrap ((IntKind.u64.wrap ((IntKind.u64.wrap ((rd l0 x6_1) * (rd l1 x8_2))) + (rd x5_2 (ji13)))) + x7_2)) 4294967296)) x6_1 (IntKind.u64.wrap (Int.tdiv (IntKind.u64.wrap ((IntKind.u64.wrap ((IntKind.u64.wrap ((rd l0 x6_1) * (rd l1 x8_2))) + (rd x5_2 (ji13)))) + x7_2)) 4294967296)) (wrap64 (x8_2 + 1))) else (none)) else (none)) = some r := by first | (rw [hji13] at H; exact H) | (simp only [hji13] at H ⊢; exact H)
            have hji13w : (IntKind.i64.wrap (x6_1 + x8_2)) = ji13 := (Zx _).trans hji13
            by_cases c14 : 0 ≤ (ji13)
            ·rw [if_pos c14] at H
             have c14b0 : decide (0 ≤ (ji13)) = true := decide_eq_true c14
             clear c14
             by_cases c15 : (ji13) < (x5_2.length : Int)
             ·rw [if_pos c15] at H
              have c15b0 : decide ((ji13) < (x5_2.length : Int)) = true := decide_eq_true c15
              clear c15
              obtain ⟨y266, hy266⟩ : ∃ y_ : List Int, y_ = (x5_2.set ((ji13) : Int).toNat (Int.tmod (IntKind.u64.wrap ((IntKind.u64.wrap ((IntKind.u64.wrap ((rd l0 x6_1) * (rd l1 x8_2))) + (rd x5_2 (ji13)))) + x7_2)) 4294967296)) := ⟨_, rfl⟩
              replace H : (r00product.l1 k2 l0 l1 y266 x6_1 (IntKind.u64.wrap (Int.tdiv (IntKind.u64.wrap ((IntKind.u64.wrap ((IntKind.u64.wrap ((rd l0 x6_1) * (rd l1 x8_2))) + (rd x5_2 (ji13)))) + x7_2)) 4294967296)) (wrap64 (x8_2 + 1))) = some r := by first | (rw [hy266]; with_reducible exact H) | (have H2_ := (Option.bind_some _ _).symm.trans H; rw [hy266]; with_reducible exact H2_) | (have H2_ := (Option.bind_some _ _).symm.trans H; with_reducible exact H2_) | with_reducible exact H | (rw [hy266]; exact H) | exact H
              have Ny266 := Zb.mk hy266
              clear hy266
              have H' := Zb.mk H
              clear H
              have p263 : 0 ≤ (x6_1 : Int) := of_decide_eq_true (by first | (with_reducible assumption) | assumption)
              have q263 : x6_1 < (l0.length : Int) := of_decide_eq_true (by first | (with_reducible assumption) | assumption)
              obtain ⟨ad263, e263, hx263_0⟩ := Kd.at_int HR0.out x6_1 p263 q263
              cases e263
              replace hx263_0 := (HB.out.cell (World.block_lt_of_cell? w _ hx263_0)).trans hx263_0
              replace p263 := eq_true p263
              replace q263 := eq_true q263
              have p264 : 0 ≤ (x8_2 : Int) := of_decide_eq_true (by first | (with_reducible assumption) | assumption)
              have q264 : x8_2 < (l1.length : Int) := of_decide_eq_true (by first | (with_reducible assumption) | assumption)
              obtain ⟨ad264, e264, hx264_0⟩ := Kd.at_int HR1.out x8_2 p264 q264
              cases e264
              replace hx264_0 := (HB.out.cell (World.block_lt_of_cell? w _ hx264_0)).trans hx264_0
              replace p264 := eq_true p264
              replace q264 := eq_true q264
              obtain ⟨Ao17, co17, eo17⟩ := Kd.Zy HO_5.out
              subst eo17
              have p265 : 0 ≤ ((ji13) : Int) := of_decide_eq_true (by first | (with_reducible assumption) | assumption)
              have q265 : (ji13) < (x5_2.length : Int) := of_decide_eq_true (by first | (with_reducible assumption) | assumption)
              obtain ⟨ad265, e265, hx265_0⟩ := Kd.at_int (Kd.Zv HO_5.out).2.2 (ji13) p265 q265
              cases e265
              replace p265 := eq_true p265
              replace q265 := eq_true q265
              have p16 : 0 ≤ ((ji13) : Int) := of_decide_eq_true (by first | (with_reducible assumption) | assumption)
              have q16 : ((ji13) : Int) < ((x5_2.length : Int) : Int) := of_decide_eq_true (by first | (with_reducible assumption) | assumption)
              obtain ⟨go16, co16, eo16, gb16, gl16, cl16, HG16⟩ := Kd.R_form HO_5.out (by omega)
              (first | cases eo16 | (injection eo16 with ea_ en_ ec_; (first | subst ea_ | (injection ea_ with ea_; subst ea_)); subst ec_; clear en_))
              have GB16 := Zb.mk gb16
              have GG16 := Zb.mk HG16
              clear gb16 gl16 HG16
              (first | simp only [add_plain] at hx265_0 | skip)
              obtain ⟨hx16_0, hf16_0⟩ := Kd.R_celln 0 HO_5.out ((ji13) : Int) p16 q16
              replace p16 := eq_true p16
              replace q16 := eq_true q16
              have HP18 := Kd.R_putg HO_5.out ((ji13) : Int) (Int.tmod (IntKind.u64.wrap ((IntKind.u64.wrap ((IntKind.u64.wrap ((rd l0 x6_1) * (rd l1 x8_2))) + (rd x5_2 (ji13)))) + x7_2)) 4294967296)
              go_wp2_with (first | ((with_reducible refine gate_store (t := 46) (p := 52) rfl ?_); (try (rw [ZK wr]; generalize hq_ : World.drewN wr _ = wr; have n0_ := Zb.mk (Kd.R_at hq_ HO_5.out); have n1_ := Zb.mk (below_at hq_ HB.out); clear hq_ HO_5 HB; have HO_5 := n0_; have HB := n1_; clear n0_ n1_; (try (obtain ⟨hx16_0, hf16_0⟩ := Kd.R_celln 0 HO_5.out ((ji13) : Int) (of_eq_true p16) (of_eq_true q16))); (try (have HP18 := Kd.R_putg HO_5.out ((ji13) : Int) (Int.tmod (IntKind.u64.wrap ((IntKind.u64.wrap ((IntKind.u64.wrap ((rd l0 x6_1) * (rd l1 x8_2))) + (rd x5_2 (ji13)))) + x7_2)) 4294967296))))); refine ZQ (t := 46) (p := 52) (v := ?vo_w19) (w1 := (wr.setCell ⟨go16, ((ji13) : Int).toNat, none⟩ (.int .u64 (Int.tmod (IntKind.u64.wrap ((IntKind.u64.wrap ((IntKind.u64.wrap ((rd l0 x6_1) * (rd l1 x8_2))) + (rd x5_2 (ji13)))) + x7_2)) 4294967296)))) ?hg ?ho ?hn ?hr ?_; (case ho => rfl); (case hg => rfl); (case hn => rfl); (case hr => first | (go_simp; done) | (go_simp; rfl)); intro w19 hw; have hg : wr.grownBy w19 (some go16) := (by rw [hw]; exact HP18.2); have hp_ : Kd.R (Kd.int .u64) 46 w19 w.heap.size (fun _ => True) (.slice (some ⟨go16, 0, none⟩) x5_2.length co17) y266 := (by rw [hw, Ny266.out]; exact HP18.1); clear HP18; have n0_ := Zb.mk (hp_); have n1_ := Zb.mk ((by rw [hw]; exact Zh (HB.out) GB16.out : Below w.heap.size w w19)); clear HO_5; clear HB; have HO_5 := n0_; have HB := n1_; clear n0_ n1_; clear hg hw hp_))
              repeat (go_quiet (first | ((with_reducible refine gate_store (t := 46) (p := 52) rfl ?_); (try (rw [ZK wr]; generalize hq_ : World.drewN wr _ = wr; have n0_ := Zb.mk (Kd.R_at hq_ HO_5.out); have n1_ := Zb.mk (below_at hq_ HB.out); clear hq_ HO_5 HB; have HO_5 := n0_; have HB := n1_; clear n0_ n1_; (try (obtain ⟨hx16_0, hf16_0⟩ := Kd.R_celln 0 HO_5.out ((ji13) : Int) (of_eq_true p16) (of_eq_true q16))); (try (have HP18 := Kd.R_putg HO_5.out ((ji13) : Int) (Int.tmod (IntKind.u64.wrap ((IntKind.u64.wrap ((IntKind.u64.wrap ((rd l0 x6_1) * (rd l1 x8_2))) + (rd x5_2 (ji13)))) + x7_2)) 4294967296))))); refine ZQ (t := 46) (p := 52) (v := ?vo_w19) (w1 := (wr.setCell ⟨go16, ((ji13) : Int).toNat, none⟩ (.int .u64 (Int.tmod (IntKind.u64.wrap ((IntKind.u64.wrap ((IntKind.u64.wrap ((rd l0 x6_1) * (rd l1 x8_2))) + (rd x5_2 (ji13)))) + x7_2)) 4294967296)))) ?hg ?ho ?hn ?hr ?_; (case ho => rfl); (case hg => rfl); (case hn => rfl); (case hr => first | (go_simp; done) | (go_simp; rfl)); intro w19 hw; have hg : wr.grownBy w19 (some go16) := (by rw [hw]; exact HP18.2); have hp_ : Kd.R (Kd.int .u64) 46 w19 w.heap.size (fun _ => True) (.slice (some ⟨go16, 0, none⟩) x5_2.length co17) y266 := (by rw [hw, Ny266.out]; exact HP18.1); clear HP18; have n0_ := Zb.mk (hp_); have n1_ := Zb.mk ((by rw [hw]; exact Zh (HB.out) GB16.out : Below w.heap.size w w19)); clear HO_5; clear HB; have HO_5 := n0_; have HB := n1_; clear n0_ n1_; clear hg hw hp_)); try go_wp2_with (first | ((with_reducible refine gate_store (t := 46) (p := 52) rfl ?_); (try (rw [ZK wr]; generalize hq_ : World.drewN wr _ = wr; have n0_ := Zb.mk (Kd.R_at hq_ HO_5.out); have n1_ := Zb.mk (below_at hq_ HB.out); clear hq_ HO_5 HB; have HO_5 := n0_; have HB := n1_; clear n0_ n1_; (try (obtain ⟨hx16_0, hf16_0⟩ := Kd.R_celln 0 HO_5.out ((ji13) : Int) (of_eq_true p16) (of_eq_true q16))); (try (have HP18 := Kd.R_putg HO_5.out ((ji13) : Int) (Int.tmod (IntKind.u64.wrap ((IntKind.u64.wrap ((IntKind.u64.wrap ((rd l0 x6_1) * (rd l1 x8_2))) + (rd x5_2 (ji13)))) + x7_2)) 4294967296))))); refine ZQ (t := 46) (p := 52) (v := ?vo_w19) (w1 := (wr.setCell ⟨go16, ((ji13) : Int).toNat, none⟩ (.int .u64 (Int.tmod (IntKind.u64.wrap ((IntKind.u64.wrap ((IntKind.u64.wrap ((rd l0 x6_1) * (rd l1 x8_2))) + (rd x5_2 (ji13)))) + x7_2)) 4294967296)))) ?hg ?ho ?hn ?hr ?_; (case ho => rfl); (case hg => rfl); (case hn => rfl); (case hr => first | (go_simp; done) | (go_simp; rfl)); intro w19 hw; have hg : wr.grownBy w19 (some go16) := (by rw [hw]; exact HP18.2); have hp_ : Kd.R (Kd.int .u64) 46 w19 w.heap.size (fun _ => True) (.slice (some ⟨go16, 0, none⟩) x5_2.length co17) y266 := (by rw [hw, Ny266.out]; exact HP18.1); clear HP18; have n0_ := Zb.mk (hp_); have n1_ := Zb.mk ((by rw [hw]; exact Zh (HB.out) GB16.out : Below w.heap.size w w19)); clear HO_5; clear HB; have HO_5 := n0_; have HB := n1_; clear n0_ n1_; clear hg hw hp_)))
              go_roundg k2
              case measure => have := HK1.out; have := HK2.out; omega
              case rel => exact ⟨(y266), (IntKind.u64.wrap (Int.tdiv (IntKind.u64.wrap ((IntKind.u64.wrap ((IntKind.u64.wrap ((rd l0 x6_1) * (rd l1 x8_2))) + (rd x5_2 (ji13)))) + x7_2)) 4294967296)), (wrap64 (x8_2 + 1)), (by first | rfl | (simp; done) | (simp only [← hji13] <;> (first | rfl | simp)) | (simp [*]; done)), (by first | rfl | (simp; done) | (simp [*]; done)), H', ⟨by have := HK1.out; have := HK2.out; omega⟩, ⟨by (with_reducible repeat (first | apply Kd.Zm | apply Kd.Zo)); exact HO_5.out⟩, ⟨by repeat (first | (with_reducible first | exact HB.out | apply Zc | apply Za | apply Zd) | exact HB.out)⟩⟩
             ·rw [if_neg c15] at H
              exact absurd H (by simp)
            ·rw [if_neg c14] at H
             exact absurd H (by simp)
           ·rw [if_neg c12] at H
            exact absurd H (by simp)
          ·rw [if_neg c11] at H
           exact absurd H (by simp)
         ·rw [if_neg c10] at H
          exact absurd H (by simp)
        ·rw [if_neg c9] at H
         have c9b0 : decide (x8_2 < (l1.length : Int)) = false := decide_eq_false c9
         clear c9
         obtain ⟨ji20, hji20⟩ : ∃ j_ : Int, (wrap64 (x6_1 + (l1.length : Int))) = j_ := ⟨_, rfl⟩
         replace H : (if 0 ≤ (ji20) then (if (ji20) < (x5_2.length : Int) then (r00product.l0 k2 l0 l1 (x5_2.set ((ji20) : Int).toNat x7_2) (wrap64 (x6_1 + 1))) else (none)) else (none)) = some r := by first | (rw [hji20] at H; exact H) | (simp only [hji20] at H ⊢; exact H)
         have hji20w : (IntKind.i64.wrap (x6_1 + (l1.length : Int))) = ji20 := (Zx _).trans hji20
         by_cases c21 : 0 ≤ (ji20)
         ·rw [if_pos c21] at H
          have c21b0 : decide (0 ≤ (ji20)) = true := decide_eq_true c21
          clear c21
          by_cases c22 : (ji20) < (x5_2.length : Int)
          ·rw [if_pos c22] at H
           have c22b0 : decide ((ji20) < (x5_2.length : Int)) = true := decide_eq_true c22
           clear c22
           obtain ⟨y267, hy267⟩ : ∃ y_ : List Int, y_ = (x5_2.set ((ji20) : Int).toNat x7_2) := ⟨_, rfl⟩
           replace H : (r00product.l0 k2 l0 l1 y267 (wrap64 (x6_1 + 1))) = some r := by first | (rw [hy267]; with_reducible exact H) | (have H2_ := (Option.bind_some _ _).symm.trans H; rw [hy267]; with_reducible exact H2_) | (have H2_ := (Option.bind_some _ _).symm.trans H; with_reducible exact H2_) | with_reducible exact H | (rw [hy267]; exact H) | exact H
           have Ny267 := Zb.mk hy267
           clear hy267
           have H' := Zb.mk H
           clear H
           have p23 : 0 ≤ ((ji20) : Int) := of_decide_eq_true (by first | (with_reducible assumption) | assumption)
           have q23 : ((ji20) : Int) < ((x5_2.length : Int) : Int) := of_decide_eq_true (by first | (with_reducible assumption) | assumption)
           obtain ⟨go23, co23, eo23, gb23, gl23, cl23, HG23⟩ := Kd.R_form HO_5.out (by omega)
           (first | cases eo23 | (injection eo23 with ea_ en_ ec_; (first | subst ea_ | (injection ea_ with ea_; subst ea_)); subst ec_; clear en_))
           have GB23 := Zb.mk gb23
           have GG23 := Zb.mk HG23
           clear gb23 gl23 HG23
           obtain ⟨hx23_0, hf23_0⟩ := Kd.R_celln 0 HO_5.out ((ji20) : Int) p23 q23
           replace p23 := eq_true p23
           replace q23 := eq_true q23
           have HP24 := Kd.R_putg HO_5.out ((ji20) : Int) x7_2
           go_wp2_with (first | ((with_reducible refine gate_store (t := 46) (p := 61) rfl ?_); (try (rw [ZK wr]; generalize hq_ : World.drewN wr _ = wr; have n0_ := Zb.mk (Kd.R_at hq_ HO_5.out); have n1_ := Zb.mk (below_at hq_ HB.out); clear hq_ HO_5 HB; have HO_5 := n0_; have HB := n1_; clear n0_ n1_; (try (obtain ⟨hx23_0, hf23_0⟩ := Kd.R_celln 0 HO_5.out ((ji20) : Int) (of_eq_true p23) (of_eq_true q23))); (try (have HP24 := Kd.R_putg HO_5.out ((ji20) : Int) x7_2)))); refine ZQ (t := 46) (p := 61) (v := ?vo_w25) (w1 := (wr.setCell ⟨go23, ((ji20) : Int).toNat, none⟩ (.int .u64 x7_2))) ?hg ?ho ?hn ?hr ?_; (case ho => rfl); (case hg => rfl); (case hn => rfl); (case hr => first | (go_simp; done) | (go_simp; rfl)); intro w25 hw; have hg : wr.grownBy w25 (some go23) := (by rw [hw]; exact HP24.2); have hp_ : Kd.R (Kd.int .u64) 46 w25 w.heap.size (fun _ => True) (.slice (some ⟨go23, 0, none⟩) x5_2.length co23) y267 := (by rw [hw, Ny267.out]; exact HP24.1); clear HP24; have n0_ := Zb.mk (hp_); have n1_ := Zb.mk ((by rw [hw]; exact Zh (HB.out) GB23.out : Below w.heap.size w w25)); clear HO_5; clear HB; have HO_5 := n0_; have HB := n1_; clear n0_ n1_; clear hg hw hp_))
           repeat (go_quiet (first | ((with_reducible refine gate_store (t := 46) (p := 61) rfl ?_); (try (rw [ZK wr]; generalize hq_ : World.drewN wr _ = wr; have n0_ := Zb.mk (Kd.R_at hq_ HO_5.out); have n1_ := Zb.mk (below_at hq_ HB.out); clear hq_ HO_5 HB; have HO_5 := n0_; have HB := n1_; clear n0_ n1_; (try (obtain ⟨hx23_0, hf23_0⟩ := Kd.R_celln 0 HO_5.out ((ji20) : Int) (of_eq_true p23) (of_eq_true q23))); (try (have HP24 := Kd.R_putg HO_5.out ((ji20) : Int) x7_2)))); refine ZQ (t := 46) (p := 61) (v := ?vo_w25) (w1 := (wr.setCell ⟨go23, ((ji20) : Int).toNat, none⟩ (.int .u64 x7_2))) ?hg ?ho ?hn ?hr ?_; (case ho => rfl); (case hg => rfl); (case hn => rfl); (case hr => first | (go_simp; done) | (go_simp; rfl)); intro w25 hw; have hg : wr.grownBy w25 (some go23) := (by rw [hw]; exact HP24.2); have hp_ : Kd.R (Kd.int .u64) 46 w25 w.heap.size (fun _ => True) (.slice (some ⟨go23, 0, none⟩) x5_2.length co23) y267 := (by rw [hw, Ny267.out]; exact HP24.1); clear HP24; have n0_ := Zb.mk (hp_); have n1_ := Zb.mk ((by rw [hw]; exact Zh (HB.out) GB23.out : Below w.heap.size w w25)); clear HO_5; clear HB; have HO_5 := n0_; have HB := n1_; clear n0_ n1_; clear hg hw hp_)); try go_wp2_with (first | ((with_reducible refine gate_store (t := 46) (p := 61) rfl ?_); (try (rw [ZK wr]; generalize hq_ : World.drewN wr _ = wr; have n0_ := Zb.mk (Kd.R_at hq_ HO_5.out); have n1_ := Zb.mk (below_at hq_ HB.out); clear hq_ HO_5 HB; have HO_5 := n0_; have HB := n1_; clear n0_ n1_; (try (obtain ⟨hx23_0, hf23_0⟩ := Kd.R_celln 0 HO_5.out ((ji20) : Int) (of_eq_true p23) (of_eq_true q23))); (try (have HP24 := Kd.R_putg HO_5.out ((ji20) : Int) x7_2)))); refine ZQ (t := 46) (p := 61) (v := ?vo_w25) (w1 := (wr.setCell ⟨go23, ((ji20) : Int).toNat, none⟩ (.int .u64 x7_2))) ?hg ?ho ?hn ?hr ?_; (case ho => rfl); (case hg => rfl); (case hn => rfl); (case hr => first | (go_simp; done) | (go_simp; rfl)); intro w25 hw; have hg : wr.grownBy w25 (some go23) := (by rw [hw]; exact HP24.2); have hp_ : Kd.R (Kd.int .u64) 46 w25 w.heap.size (fun _ => True) (.slice (some ⟨go23, 0, none⟩) x5_2.length co23) y267 := (by rw [hw, Ny267.out]; exact HP24.1); clear HP24; have n0_ := Zb.mk (hp_); have n1_ := Zb.mk ((by rw [hw]; exact Zh (HB.out) GB23.out : Below w.heap.size w w25)); clear HO_5; clear HB; have HO_5 := n0_; have HB := n1_; clear n0_ n1_; clear hg hw hp_)))
           go_roundg k2
           case measure => have := HK1.out; have := HK2.out; omega
           case rel => exact ⟨(y267), (wrap64 (x6_1 + 1)), (by first | rfl | (simp; done) | (simp [*]; done)), H', ⟨by have := HK1.out; have := HK2.out; omega⟩, ⟨by (with_reducible repeat (first | apply Kd.Zm | apply Kd.Zo)); exact HO_5.out⟩, ⟨by repeat (first | (with_reducible first | exact HB.out | apply Zc | apply Za | apply Zd) | exact HB.out)⟩⟩
          ·rw [if_neg c22] at H
           exact absurd H (by simp)
         ·rw [if_neg c21] at H
          exact absurd H (by simp)
     ·rw [if_neg c8] at H
      have c8b0 : decide (x6_1 < (l0.length : Int)) = false := decide_eq_false c8
      clear c8
      replace H := Option.bind_eq_some_iff.mp H
      obtain ⟨t260, A260, H⟩ := H
      replace H : (some t260) = some r := H
      have A26 := Zb.mk A260
      clear A260
      obtain rfl := Option.some.inj H
      obtain ⟨Ao27, co27, eo27⟩ := Kd.Zy HO_5.out
      subst eo27
      go_wp2_with (first | (go_at_call 122; (with_reducible refine (r00low.calls k1 (fun k_ => some k_ = (.slice Ao27 x5_1.length co27 : Value).ownBlock) (.slice Ao27 x5_1.length co27) x5_1 t260 w _ ?side1 ?side2 A26.out).mono ?_); (case side1 => repeat (first | (with_reducible first | exact HB.out | apply Zc | apply Za | apply Zd) | exact HB.out)); (case side2 => exact Kd.R_tight rfl HO_5.out); rintro e w28 ⟨v261, rfl, ho0, hb, hkp⟩; have n0_ := Zb.mk (Kd.ZE (ok' := fun k_ => True) ho0 (fun k_ hk_ => trivial)); have n1_ := Zb.mk (hb); clear HB; clear HO_5; have HO262 := n0_; have HB := n1_; clear n0_ n1_; (try clear hb); (try clear hkp); (try clear ho0)))
      repeat (go_quiet (first | (go_at_call 122; (with_reducible refine (r00low.calls k1 (fun k_ => some k_ = (.slice Ao27 x5_1.length co27 : Value).ownBlock) (.slice Ao27 x5_1.length co27) x5_1 t260 w _ ?side1 ?side2 A26.out).mono ?_); (case side1 => repeat (first | (with_reducible first | exact HB.out | apply Zc | apply Za | apply Zd) | exact HB.out)); (case side2 => exact Kd.R_tight rfl HO_5.out); rintro e w28 ⟨v261, rfl, ho0, hb, hkp⟩; have n0_ := Zb.mk (Kd.ZE (ok' := fun k_ => True) ho0 (fun k_ hk_ => trivial)); have n1_ := Zb.mk (hb); clear HB; clear HO_5; have HO262 := n0_; have HB := n1_; clear n0_ n1_; (try clear hb); (try clear hkp); (try clear ho0))); try go_wp2_with (first | (go_at_call 122; (with_reducible refine (r00low.calls k1 (fun k_ => some k_ = (.slice Ao27 x5_1.length co27 : Value).ownBlock) (.slice Ao27 x5_1.length co27) x5_1 t260 w _ ?side1 ?side2 A26.out).mono ?_); (case side1 => repeat (first | (with_reducible first | exact HB.out | apply Zc | apply Za | apply Zd) | exact HB.out)); (case side2 => exact Kd.R_tight rfl HO_5.out); rintro e w28 ⟨v261, rfl, ho0, hb, hkp⟩; have n0_ := Zb.mk (Kd.ZE (ok' := fun k_ => True) ho0 (fun k_ hk_ => trivial)); have n1_ := Zb.mk (hb); clear HB; clear HO_5; have HO262 := n0_; have HB := n1_; clear n0_ n1_; (try clear hb); (try clear hkp); (try clear ho0))))
      go_ret
      exact ⟨_, by first | rfl | (simp [errW_none, errW_some] <;> rfl) | (simp only [← hji3]; first | rfl | (simp [errW_none, errW_some] <;> rfl)) | (simp [*, errW_none, errW_some] <;> rfl), by (with_reducible repeat (first | apply Kd.Zm | apply Kd.Zo)); exact HO262.out, by repeat (first | (with_reducible first | exact HB.out | apply Zc | apply Za | apply Zd) | exact HB.out)⟩
  ·rw [if_neg c5] at H
   exact absurd H (by simp)
 ·rw [if_neg c4] at H
  exact absurd H (by simp)
def r00NatMul.f (k : Nat) (l0 : List Int) (l1 : List Int) : Option (List Int) := (r00halves.f k l0).bind fun t268 => ((r00halves.f k l1).bind fun t271 => ((r00product.f k t268 t271).bind fun t274 => ((r00limbs.f k t274).bind fun t277 => (some t277))))
set_option maxHeartbeats 8000000 in
set_option maxRecDepth 100000 in
theorem r00NatMul.calls (k : Nat) (A0 : Option Addr) (c0 : Nat) (l0 : List Int) (A1 : Option Addr) (c1 : Nat) (l1 : List Int) (r : List Int) (w : World) (hr0 : Kd.C (Kd.int .u64) w A0 l0.length l0) (hc0 : l0.length ≤ c0) (hr1 : Kd.C (Kd.int .u64) w A1 l1.length l1) (hc1 : l1.length ≤ c1) (h : r00NatMul.f k l0 l1 = some r) :
  Calls Try.prog 59 #[.slice A0 l0.length c0, .slice A1 l1.length c1] w fun e w' => ∃ v0_ : Value, e = .returned (v0_) ∧ Kd.R (Kd.int .u64) 46 w' w.heap.size (fun _ => True) v0_ r ∧ Below w.heap.size w w' := by
 have HR0 := Zb.mk hr0
 have HC0 := Zb.mk hc0
 clear hr0 hc0
 have HR1 := Zb.mk hr1
 have HC1 := Zb.mk hc1
 clear hr1 hc1
 have HB := Zb.mk (Below.refl w.heap.size w)
 have H : ((r00halves.f k l0).bind fun t268 => ((r00halves.f k l1).bind fun t271 => ((r00product.f k t268 t271).bind fun t274 => ((r00limbs.f k t274).bind fun t277 => (some t277))))) = some r := h
 clear h
 replace H := Option.bind_eq_some_iff.mp H
 obtain ⟨t268, A30, H⟩ := H
 replace H : ((r00halves.f k l1).bind fun t271 => ((r00product.f k t268 t271).bind fun t274 => ((r00limbs.f k t274).bind fun t277 => (some t277)))) = some r := H
 have A3 := Zb.mk A30
 clear A30
 replace H := Option.bind_eq_some_iff.mp H
 obtain ⟨t271, A40, H⟩ := H
 replace H : ((r00product.f k t268 t271).bind fun t274 => ((r00limbs.f k t274).bind fun t277 => (some t277))) = some r := H
 have A4 := Zb.mk A40
 clear A40
 replace H := Option.bind_eq_some_iff.mp H
 obtain ⟨t274, A50, H⟩ := H
 replace H : ((r00limbs.f k t274).bind fun t277 => (some t277)) = some r := H
 have A5 := Zb.mk A50
 clear A50
 replace H := Option.bind_eq_some_iff.mp H
 obtain ⟨t277, A60, H⟩ := H
 replace H : (some t277) = some r := H
 have A6 := Zb.mk A60
 clear A60
 obtain rfl := Option.some.inj H
 go_enter Try.func59, Try.ntmps59
 go_wp2_with (first | ((with_reducible refine Zp (f := 91) rfl ?_); refine ZB (some 6) rfl rfl Try.func91 (by kernel_rfl) rfl #[.slice A0 l0.length c0] rfl (by (try simp only [List.map_toArray, List.map_cons, List.map_nil]); first | done | rfl | (simp only [List.length_drop, List.length_take]; rfl)) ?_; (with_reducible refine (r00halves.calls k _ _ l0 t268 _ ?side1 ?side2 A3.out).mono ?_); (case side1 => repeat (first | exact HR0.out | (with_reducible refine Kd.ZC ?_ _) | (with_reducible refine Kd.ZF ?_ _) | (with_reducible refine Kd.ZN ?_))); (case side2 => exact HC0.out); rintro e w7 ⟨v269, rfl, ho0, hb⟩; refine ⟨_, rfl, ?_⟩; have n0_ := Zb.mk (Kd.ZG ho0 (Zi (by repeat (first | (with_reducible first | exact HB.out | apply Zc | apply Za | apply Zd) | exact HB.out)))); have n1_ := Zb.mk (Zl (by repeat (first | (with_reducible first | exact HB.out | apply Zc | apply Za | apply Zd) | exact HB.out)) hb); clear HB; have HO270 := n0_; have HB := n1_; clear n0_ n1_; (try clear hb); (try clear hb2); (try clear hk); (try clear hi); (try clear ho0)) | ((with_reducible refine Zp (f := 91) rfl ?_); refine ZB (some 8) rfl rfl Try.func91 (by kernel_rfl) rfl #[.slice A1 l1.length c1] rfl (by (try simp only [List.map_toArray, List.map_cons, List.map_nil]); first | done | rfl | (simp only [List.length_drop, List.length_take]; rfl)) ?_; (with_reducible refine (r00halves.calls k _ _ l1 t271 _ ?side1 ?side2 A4.out).mono ?_); (case side1 => repeat (first | exact (Kd.C_below HR1.out HB.out) | (with_reducible refine Kd.ZC ?_ _) | (with_reducible refine Kd.ZF ?_ _) | (with_reducible refine Kd.ZN ?_))); (case side2 => exact HC1.out); rintro e w8 ⟨v272, rfl, ho0, hb⟩; refine ⟨_, rfl, ?_⟩; have n0_ := Zb.mk (Kd.ZJ (by (with_reducible repeat (first | apply Kd.Zm | apply Kd.Zo)); exact HO270.out) (Kd.ZV ho0) hb); have n1_ := Zb.mk (Kd.ZG (Kd.R_new' ho0 (Kd.R_lt (by (with_reducible repeat (first | apply Kd.Zm | apply Kd.Zo)); exact HO270.out))) (Zi (by repeat (first | (with_reducible first | exact HB.out | apply Zc | apply Za | apply Zd) | exact HB.out)))); have n2_ := Zb.mk (Zl (by repeat (first | (with_reducible first | exact HB.out | apply Zc | apply Za | apply Zd) | exact HB.out)) hb); clear HO270; clear HB; have HO270 := n0_; have HO273 := n1_; have HB := n2_; clear n0_ n1_ n2_; (try clear hb); (try clear hb2); (try clear hk); (try clear hi); (try clear ho0); obtain ⟨Ao9, co9, eo9⟩ := Kd.Zy HO270.out; subst eo9; obtain ⟨Ao10, co10, eo10⟩ := Kd.Zy HO273.out; subst eo10) | ((with_reducible refine Zp (f := 94) rfl ?_); refine ZB (some 9) rfl rfl Try.func94 (by kernel_rfl) rfl #[.slice Ao9 t268.length co9, .slice Ao10 t271.length co10] rfl (by (try simp only [List.map_toArray, List.map_cons, List.map_nil]); first | done | rfl | (simp only [List.length_drop, List.length_take]; rfl)) ?_; (with_reducible refine (r00product.calls k _ _ t268 _ _ t271 t274 _ ?side1 ?side2 ?side3 ?side4 A5.out).mono ?_); (case side1 => repeat (first | exact (Kd.Zv HO270.out).2.2 | (with_reducible refine Kd.ZC ?_ _) | (with_reducible refine Kd.ZF ?_ _) | (with_reducible refine Kd.ZN ?_))); (case side2 => exact (Kd.Zv HO270.out).2.1); (case side3 => repeat (first | exact (Kd.Zv HO273.out).2.2 | (with_reducible refine Kd.ZC ?_ _) | (with_reducible refine Kd.ZF ?_ _) | (with_reducible refine Kd.ZN ?_))); (case side4 => exact (Kd.Zv HO273.out).2.1); rintro e w11 ⟨v275, rfl, ho0, hb⟩; refine ⟨_, rfl, ?_⟩; have n0_ := Zb.mk (Kd.ZJ (by (with_reducible repeat (first | apply Kd.Zm | apply Kd.Zo)); exact HO270.out) (Kd.ZV ho0) hb); have n1_ := Zb.mk (Kd.ZJ (by (with_reducible repeat (first | apply Kd.Zm | apply Kd.Zo)); exact HO273.out) (Kd.ZV ho0) hb); have n2_ := Zb.mk (Kd.ZG (Kd.R_new' (Kd.R_new' ho0 (Kd.R_lt (by (with_reducible repeat (first | apply Kd.Zm | apply Kd.Zo)); exact HO270.out))) (Kd.R_lt (by (with_reducible repeat (first | apply Kd.Zm | apply Kd.Zo)); exact HO273.out))) (Zi (by repeat (first | (with_reducible first | exact HB.out | apply Zc | apply Za | apply Zd) | exact HB.out)))); have n3_ := Zb.mk (Zl (by repeat (first | (with_reducible first | exact HB.out | apply Zc | apply Za | apply Zd) | exact HB.out)) hb); clear HO270; clear HO273; clear HB; have HO270 := n0_; have HO273 := n1_; have HO276 := n2_; have HB := n3_; clear n0_ n1_ n2_ n3_; (try clear hb); (try clear hb2); (try clear hk); (try clear hi); (try clear ho0); obtain ⟨Ao12, co12, eo12⟩ := Kd.Zy HO276.out; subst eo12) | ((with_reducible refine Zp (f := 92) rfl ?_); refine ZB (some 10) rfl rfl Try.func92 (by kernel_rfl) rfl #[.slice Ao12 t274.length co12] rfl (by (try simp only [List.map_toArray, List.map_cons, List.map_nil]); first | done | rfl | (simp only [List.length_drop, List.length_take]; rfl)) ?_; (with_reducible refine (r00limbs.calls k _ _ t274 t277 _ ?side1 ?side2 A6.out).mono ?_); (case side1 => repeat (first | exact (Kd.Zv HO276.out).2.2 | (with_reducible refine Kd.ZC ?_ _) | (with_reducible refine Kd.ZF ?_ _) | (with_reducible refine Kd.ZN ?_))); (case side2 => exact (Kd.Zv HO276.out).2.1); rintro e w13 ⟨v278, rfl, ho0, hb⟩; refine ⟨_, rfl, ?_⟩; have n0_ := Zb.mk (Kd.ZJ (by (with_reducible repeat (first | apply Kd.Zm | apply Kd.Zo)); exact HO270.out) (Kd.ZV ho0) hb); have n1_ := Zb.mk (Kd.ZJ (by (with_reducible repeat (first | apply Kd.Zm | apply Kd.Zo)); exact HO273.out) (Kd.ZV ho0) hb); have n2_ := Zb.mk (Kd.ZJ (by (with_reducible repeat (first | apply Kd.Zm | apply Kd.Zo)); exact HO276.out) (Kd.ZV ho0) hb); have n3_ := Zb.mk (Kd.ZG (Kd.R_new' (Kd.R_new' (Kd.R_new' ho0 (Kd.R_lt (by (with_reducible repeat (first | apply Kd.Zm | apply Kd.Zo)); exact HO270.out))) (Kd.R_lt (by (with_reducible repeat (first | apply Kd.Zm | apply Kd.Zo)); exact HO273.out))) (Kd.R_lt (by (with_reducible repeat (first | apply Kd.Zm | apply Kd.Zo)); exact HO276.out))) (Zi (by repeat (first | (with_reducible first | exact HB.out | apply Zc | apply Za | apply Zd) | exact HB.out)))); have n4_ := Zb.mk (Zl (by repeat (first | (with_reducible first | exact HB.out | apply Zc | apply Za | apply Zd) | exact HB.out)) hb); clear HO270; clear HO273; clear HO276; clear HB; have HO270 := n0_; have HO273 := n1_; have HO276 := n2_; have HO279 := n3_; have HB := n4_; clear n0_ n1_ n2_ n3_ n4_; (try clear hb); (try clear hb2); (try clear hk); (try clear hi); (try clear ho0)))
 go_ret
 exact ⟨_, by first | rfl | (simp [errW_none, errW_some] <;> rfl) | (simp [*, errW_none, errW_some] <;> rfl), by (with_reducible repeat (first | apply Kd.Zm | apply Kd.Zo)); exact Kd.ZE HO279.out (fun _ hk => trivial), by repeat (first | (with_reducible first | exact HB.out | apply Zc | apply Za | apply Zd) | exact HB.out)⟩
def r00Times.f (k : Nat) (a0_0 : Bool) (l0_1 : List Int) (a0_2 : Int) (a1_0 : Bool) (l1_1 : List Int) (a1_2 : Int) : Option (Bool × List Int × Int) := (r00NatMul.f k l0_1 l1_1).bind fun t283 => (some ((a0_0 != a1_0), t283, wrap64 (a0_2 + a1_2)))
def r00Times.T1 : Bool × List (List Nat × List Nat) := (true, [([], []), ([0], [0]), ([], []), ([2], [2]), ([1, 3], [1, 3]), ([], []), ([5], [5]), ([], []), ([7], [7]), ([6, 8], [6, 8]), ([], []), ([10], [10]), ([], []), ([12], [12]), ([11, 13], [11, 13]), ([4, 9, 14], [4, 9, 14]), ([15, 9, 0, 1, 2, 3, 4, 5, 6, 7, 8, 9, 10, 11, 12, 13, 14, 15], [15])])
def r00Times.B1 : List Nat := [0, 1, 0, 4, 15, 0, 32, 0, 128, 480, 0, 1024, 0, 4096, 15360, 32767, 65535]
theorem r00Times.tab1 : rtab .any (opsOf Try.f25 1) = r00Times.T1 := by kernel_rfl
theorem r00Times.bits1 : waitsOk r00Times.T1.2 r00Times.B1 = true := by kernel_rfl
set_option maxHeartbeats 8000000 in
set_option maxRecDepth 100000 in
theorem r00Times.calls (k : Nat) (a0_0 : Bool) (A0_1 : Option Addr) (c0_1 : Nat) (l0_1 : List Int) (a0_2 : Int) (a1_0 : Bool) (A1_1 : Option Addr) (c1_1 : Nat) (l1_1 : List Int) (a1_2 : Int) (r1 : Bool) (r2 : List Int) (r3 : Int) (w : World) (hr0_1 : Kd.C (Kd.int .u64) w A0_1 l0_1.length l0_1) (hc0_1 : l0_1.length ≤ c0_1) (hr1_1 : Kd.C (Kd.int .u64) w A1_1 l1_1.length l1_1) (hc1_1 : l1_1.length ≤ c1_1) (h : r00Times.f k a0_0 l0_1 a0_2 a1_0 l1_1 a1_2 = some (r1, r2, r3)) :
  Calls Try.prog 25 #[.agg #[.bool a0_0, .slice A0_1 l0_1.length c0_1, .int .i64 a0_2], .agg #[.bool a1_0, .slice A1_1 l1_1.length c1_1, .int .i64 a1_2]] w fun e w' => ∃ v1_ : Value, e = .returned (.agg #[.bool r1, v1_, .int .i64 r3]) ∧ Kd.R (Kd.int .u64) 46 w' w.heap.size (fun _ => True) v1_ r2 ∧ Below w.heap.size w w' := by
 have hu48 := Try.underlying48
 have HR0_1 := Zb.mk hr0_1
 have HC0_1 := Zb.mk hc0_1
 clear hr0_1 hc0_1
 have HR1_1 := Zb.mk hr1_1
 have HC1_1 := Zb.mk hc1_1
 clear hr1_1 hc1_1
 have HB := Zb.mk (Below.refl w.heap.size w)
 have H : ((r00NatMul.f k l0_1 l1_1).bind fun t283 => (some ((a0_0 != a1_0), t283, wrap64 (a0_2 + a1_2)))) = some (r1, r2, r3) := h
 clear h
 replace H := Option.bind_eq_some_iff.mp H
 obtain ⟨t283, A30, H⟩ := H
 replace H : (some ((a0_0 != a1_0), t283, wrap64 (a0_2 + a1_2))) = some (r1, r2, r3) := H
 have A3 := Zb.mk A30
 clear A30
 simp only [Option.some.injEq, Prod.mk.injEq] at H
 obtain ⟨rfl, rfl, rfl⟩ := H
 go_enter Try.func25, Try.ntmps25
 try go_wp2_with (first | ((with_reducible refine Zt (N := 2) rfl ?_); refine Zs ?hg (N := 2) ?hd (cs := #[.bool a0_0, .slice A0_1 l0_1.length c0_1, .int .i64 a0_2]) (t := 48) ?hr ?_; (case hd => rfl); (case hg => rfl); (case hr => first | (go_simp; done) | (go_simp; rfl)); intro gb280 hg w4 hbox hb; have n0_ := Zb.mk (Zl (by repeat (first | (with_reducible first | exact HB.out | apply Zc | apply Za | apply Zd) | exact HB.out)) hb); have n1_ := Zb.mk (hbox); have n2_ := Zb.mk ((by rw [hg]; exact (Zi (by repeat (first | (with_reducible first | exact HB.out | apply Zc | apply Za | apply Zd) | exact HB.out))) : w.heap.size ≤ gb280)); have n3_ := Zb.mk ((by rw [hg]; exact (Zi (by repeat (first | (with_reducible first | exact HB.out | apply Zc | apply Za | apply Zd) | exact HB.out))) : w.heap.size ≤ gb280)); clear HB; have HB := n0_; have BK280 := n1_; have GW280 := n2_; have GE280 := n3_; clear n0_ n1_ n2_ n3_; clear hb hbox hg) | ((with_reducible refine Zt (N := 3) rfl ?_); refine Zs ?hg (N := 3) ?hd (cs := #[.bool a1_0, .slice A1_1 l1_1.length c1_1, .int .i64 a1_2]) (t := 48) ?hr ?_; (case hd => rfl); (case hg => rfl); (case hr => first | (go_simp; done) | (go_simp; rfl)); intro gb281 hg w5 hbox hb; have n0_ := Zb.mk (Zn (g := gb280) (o := .cells #[.bool a0_0, .slice A0_1 l0_1.length c0_1, .int .i64 a0_2] 48 (0, 0)) (by (with_reducible repeat (first | refine Ze ?_ _ | refine Zg ?_ | refine Zf ?_ _)); exact BK280.out) hb); have n1_ := Zb.mk (Zl (by repeat (first | (with_reducible first | exact HB.out | apply Zc | apply Za | apply Zd | refine Zh ?_ GE280.out) | exact HB.out)) hb); have n2_ := Zb.mk (hbox); have n3_ := Zb.mk ((by rw [hg]; exact (Zi (by repeat (first | (with_reducible first | exact HB.out | apply Zc | apply Za | apply Zd | refine Zh ?_ GE280.out) | exact HB.out))) : w.heap.size ≤ gb281)); have n4_ := Zb.mk ((by rw [hg]; exact (Zi (by repeat (first | (with_reducible first | exact HB.out | apply Zc | apply Za | apply Zd | refine Zh ?_ GE280.out) | exact HB.out))) : w.heap.size ≤ gb281)); have n5_ := Zb.mk ((by rw [hg]; exact Nat.ne_of_lt (Zw (g := gb280) (o := .cells #[.bool a0_0, .slice A0_1 l0_1.length c0_1, .int .i64 a0_2] 48 (0, 0)) (by (with_reducible repeat (first | refine Ze ?_ _ | refine Zg ?_ | refine Zf ?_ _)); exact BK280.out)) : gb280 ≠ gb281)); have n6_ := Zb.mk ((by rw [hg]; exact Nat.ne_of_gt (Zw (g := gb280) (o := .cells #[.bool a0_0, .slice A0_1 l0_1.length c0_1, .int .i64 a0_2] 48 (0, 0)) (by (with_reducible repeat (first | refine Ze ?_ _ | refine Zg ?_ | refine Zf ?_ _)); exact BK280.out)) : gb281 ≠ gb280)); clear BK280; clear HB; have BK280 := n0_; have HB := n1_; have BK281 := n2_; have GW281 := n3_; have GE281 := n4_; have NB280_281 := n5_; have NB281_280 := n6_; clear n0_ n1_ n2_ n3_ n4_ n5_ n6_; clear hb hbox hg) | ((with_reducible refine Zt (N := 4) rfl ?_); refine Zs ?hg (N := 4) ?hd (cs := #[.bool false, .slice none 0 0, .int .i64 0]) (t := 48) ?hr ?_; (case hd => rfl); (case hg => rfl); (case hr => first | (go_simp; done) | (go_simp; rfl)); intro gb282 hg w6 hbox hb; have n0_ := Zb.mk (Zn (g := gb280) (o := .cells #[.bool a0_0, .slice A0_1 l0_1.length c0_1, .int .i64 a0_2] 48 (0, 0)) (by (with_reducible repeat (first | refine Ze ?_ _ | refine Zg ?_ | refine Zf ?_ _)); exact BK280.out) hb); have n1_ := Zb.mk (Zn (g := gb281) (o := .cells #[.bool a1_0, .slice A1_1 l1_1.length c1_1, .int .i64 a1_2] 48 (0, 0)) (by (with_reducible repeat (first | refine Ze ?_ _ | refine Zg ?_ | refine Zf ?_ _)); exact BK281.out) hb); have n2_ := Zb.mk (Zl (by repeat (first | (with_reducible first | exact HB.out | apply Zc | apply Za | apply Zd | refine Zh ?_ GE280.out | refine Zh ?_ GE281.out) | exact HB.out)) hb); have n3_ := Zb.mk (hbox); have n4_ := Zb.mk ((by rw [hg]; exact (Zi (by repeat (first | (with_reducible first | exact HB.out | apply Zc | apply Za | apply Zd | refine Zh ?_ GE280.out | refine Zh ?_ GE281.out) | exact HB.out))) : w.heap.size ≤ gb282)); have n5_ := Zb.mk ((by rw [hg]; exact (Zi (by repeat (first | (with_reducible first | exact HB.out | apply Zc | apply Za | apply Zd | refine Zh ?_ GE280.out | refine Zh ?_ GE281.out) | exact HB.out))) : w.heap.size ≤ gb282)); have n6_ := Zb.mk ((by rw [hg]; exact Nat.ne_of_lt (Zw (g := gb280) (o := .cells #[.bool a0_0, .slice A0_1 l0_1.length c0_1, .int .i64 a0_2] 48 (0, 0)) (by (with_reducible repeat (first | refine Ze ?_ _ | refine Zg ?_ | refine Zf ?_ _)); exact BK280.out)) : gb280 ≠ gb282)); have n7_ := Zb.mk ((by rw [hg]; exact Nat.ne_of_gt (Zw (g := gb280) (o := .cells #[.bool a0_0, .slice A0_1 l0_1.length c0_1, .int .i64 a0_2] 48 (0, 0)) (by (with_reducible repeat (first | refine Ze ?_ _ | refine Zg ?_ | refine Zf ?_ _)); exact BK280.out)) : gb282 ≠ gb280)); have n8_ := Zb.mk ((by rw [hg]; exact Nat.ne_of_lt (Zw (g := gb281) (o := .cells #[.bool a1_0, .slice A1_1 l1_1.length c1_1, .int .i64 a1_2] 48 (0, 0)) (by (with_reducible repeat (first | refine Ze ?_ _ | refine Zg ?_ | refine Zf ?_ _)); exact BK281.out)) : gb281 ≠ gb282)); have n9_ := Zb.mk ((by rw [hg]; exact Nat.ne_of_gt (Zw (g := gb281) (o := .cells #[.bool a1_0, .slice A1_1 l1_1.length c1_1, .int .i64 a1_2] 48 (0, 0)) (by (with_reducible repeat (first | refine Ze ?_ _ | refine Zg ?_ | refine Zf ?_ _)); exact BK281.out)) : gb282 ≠ gb281)); clear BK280; clear BK281; clear HB; have BK280 := n0_; have BK281 := n1_; have HB := n2_; have BK282 := n3_; have GW282 := n4_; have GE282 := n5_; have NB280_282 := n6_; have NB282_280 := n7_; have NB281_282 := n8_; have NB282_281 := n9_; clear n0_ n1_ n2_ n3_ n4_ n5_ n6_ n7_ n8_ n9_; clear hb hbox hg))
 have n0_ := Zb.mk (Zg BK280.out)
 have n1_ := Zb.mk (Zg BK281.out)
 have n2_ := Zb.mk (Zg BK282.out)
 have n3_ := Zb.mk (Zd HB.out)
 clear BK280
 clear BK281
 clear BK282
 clear HB
 have BK280 := n0_
 have BK281 := n1_
 have BK282 := n2_
 have HB := n3_
 clear n0_ n1_ n2_ n3_
 refine start_ (n := 17) (S := fun w' => w'.cell? ⟨gb280, 0, none⟩ = some (.bool a0_0) ∧ w'.cell? ⟨gb280, 1, none⟩ = some (.slice A0_1 l0_1.length c0_1) ∧ w'.cell? ⟨gb280, 2, none⟩ = some (.int .i64 a0_2) ∧ w'.cell? ⟨gb281, 0, none⟩ = some (.bool a1_0) ∧ w'.cell? ⟨gb281, 1, none⟩ = some (.slice A1_1 l1_1.length c1_1) ∧ w'.cell? ⟨gb281, 2, none⟩ = some (.int .i64 a1_2)) (ds := []) #[false, false, false, false, false, false, false, false, false, false, false, false, false, false, false, false, false] (by kernel_rfl) rfl rfl ⟨(Zk BK280.out 0).trans rfl, (Zk BK280.out 1).trans rfl, (Zk BK280.out 2).trans rfl, (Zk BK281.out 0).trans rfl, (Zk BK281.out 1).trans rfl, (Zk BK281.out 2).trans rfl⟩ (fun hHeld => ?_); refine with_tabW r00Times.tab1 r00Times.bits1 (fun HT_ HW_ => ?_)
 generalize w6.drew = w7 at BK280 BK281 BK282 HB hHeld ⊢
 refine ZM (i := 0) (N := some 5) (v := ?_) (a' := ?_) #[true, false, false, false, false, false, false, false, false, false, false, false, false, false, false, false, false] rfl rfl (ZD HT_.out (by kernel_rfl)) (fun _ _ _ h => h) (Or.inl ⟨by rfl, ?_⟩) ?_ ?_
 rotate_left
 ·intro w'
  go_simp
  with_reducible rfl
 rotate_left
 ·simp only [Act.put, List.setIfInBounds_toArray, List.set_cons_zero, List.set_cons_succ, Zx, ZA]
  rfl
 refine ZM (i := 2) (N := some 7) (v := ?_) (a' := ?_) #[true, false, true, false, false, false, false, false, false, false, false, false, false, false, false, false, false] rfl rfl (ZD HT_.out (by kernel_rfl)) (fun _ _ _ h => h) (Or.inl ⟨by rfl, ?_⟩) ?_ ?_
 rotate_left
 ·intro w'
  go_simp
  with_reducible rfl
 rotate_left
 ·simp only [Act.put, List.setIfInBounds_toArray, List.set_cons_zero, List.set_cons_succ, Zx, ZA]
  rfl
 refine ZM (i := 5) (N := some 10) (v := ?_) (a' := ?_) #[true, false, true, false, false, true, false, false, false, false, false, false, false, false, false, false, false] rfl rfl (ZD HT_.out (by kernel_rfl)) (fun _ _ _ h => h) (Or.inl ⟨by rfl, ?_⟩) ?_ ?_
 rotate_left
 ·intro w'
  go_simp
  with_reducible rfl
 rotate_left
 ·simp only [Act.put, List.setIfInBounds_toArray, List.set_cons_zero, List.set_cons_succ, Zx, ZA]
  rfl
 refine ZM (i := 7) (N := some 12) (v := ?_) (a' := ?_) #[true, false, true, false, false, true, false, true, false, false, false, false, false, false, false, false, false] rfl rfl (ZD HT_.out (by kernel_rfl)) (fun _ _ _ h => h) (Or.inl ⟨by rfl, ?_⟩) ?_ ?_
 rotate_left
 ·intro w'
  go_simp
  with_reducible rfl
 rotate_left
 ·simp only [Act.put, List.setIfInBounds_toArray, List.set_cons_zero, List.set_cons_succ, Zx, ZA]
  rfl
 refine ZM (i := 10) (N := some 15) (v := ?_) (a' := ?_) #[true, false, true, false, false, true, false, true, false, false, true, false, false, false, false, false, false] rfl rfl (ZD HT_.out (by kernel_rfl)) (fun _ _ _ h => h) (Or.inl ⟨by rfl, ?_⟩) ?_ ?_
 rotate_left
 ·intro w'
  go_simp
  with_reducible rfl
 rotate_left
 ·simp only [Act.put, List.setIfInBounds_toArray, List.set_cons_zero, List.set_cons_succ, Zx, ZA]
  rfl
 refine ZM (i := 12) (N := some 17) (v := ?_) (a' := ?_) #[true, false, true, false, false, true, false, true, false, false, true, false, true, false, false, false, false] rfl rfl (ZD HT_.out (by kernel_rfl)) (fun _ _ _ h => h) (Or.inl ⟨by rfl, ?_⟩) ?_ ?_
 rotate_left
 ·intro w'
  go_simp
  with_reducible rfl
 rotate_left
 ·simp only [Act.put, List.setIfInBounds_toArray, List.set_cons_zero, List.set_cons_succ, Zx, ZA]
  rfl
 refine take_ (i := 1) (N := some 6) (v := ?_) (a' := ?_) #[true, true, true, false, false, true, false, true, false, false, true, false, true, false, false, false, false] rfl rfl (take_ofW HT_.out HW_.out (by kernel_rfl)) (fun _ _ _ h => h) (Or.inl ⟨by rfl, ?_⟩) hHeld ?_ ?_
 rotate_left
 ·rintro w' ⟨s0, s1, s2, s3, s4, s5⟩
  go_simp
  with_reducible rfl
 rotate_left
 ·simp only [Act.put, List.setIfInBounds_toArray, List.set_cons_zero, List.set_cons_succ, Zx, ZA]
  rfl
 refine take_ (i := 3) (N := some 8) (v := ?_) (a' := ?_) #[true, true, true, true, false, true, false, true, false, false, true, false, true, false, false, false, false] rfl rfl (take_ofW HT_.out HW_.out (by kernel_rfl)) (fun _ _ _ h => h) (Or.inl ⟨by rfl, ?_⟩) hHeld ?_ ?_
 rotate_left
 ·rintro w' ⟨s0, s1, s2, s3, s4, s5⟩
  go_simp
  with_reducible rfl
 rotate_left
 ·simp only [Act.put, List.setIfInBounds_toArray, List.set_cons_zero, List.set_cons_succ, Zx, ZA]
  rfl
 refine ZM (i := 4) (N := some 9) (v := ?_) (a' := ?_) #[true, true, true, true, true, true, false, true, false, false, true, false, true, false, false, false, false] rfl rfl (ZD HT_.out (by kernel_rfl)) (fun _ _ _ h => h) (Or.inl ⟨by rfl, ?_⟩) ?_ ?_
 rotate_left
 ·intro w'
  go_simp
  with_reducible rfl
 rotate_left
 ·simp only [Act.put, List.setIfInBounds_toArray, List.set_cons_zero, List.set_cons_succ, Zx, ZA]
  rfl
 refine take_ (i := 6) (N := some 11) (v := ?_) (a' := ?_) #[true, true, true, true, true, true, true, true, false, false, true, false, true, false, false, false, false] rfl rfl (take_ofW HT_.out HW_.out (by kernel_rfl)) (fun _ _ _ h => h) (Or.inl ⟨by rfl, ?_⟩) hHeld ?_ ?_
 rotate_left
 ·rintro w' ⟨s0, s1, s2, s3, s4, s5⟩
  go_simp
  with_reducible rfl
 rotate_left
 ·simp only [Act.put, List.setIfInBounds_toArray, List.set_cons_zero, List.set_cons_succ, Zx, ZA]
  rfl
 refine take_ (i := 8) (N := some 13) (v := ?_) (a' := ?_) #[true, true, true, true, true, true, true, true, true, false, true, false, true, false, false, false, false] rfl rfl (take_ofW HT_.out HW_.out (by kernel_rfl)) (fun _ _ _ h => h) (Or.inl ⟨by rfl, ?_⟩) hHeld ?_ ?_
 rotate_left
 ·rintro w' ⟨s0, s1, s2, s3, s4, s5⟩
  go_simp
  with_reducible rfl
 rotate_left
 ·simp only [Act.put, List.setIfInBounds_toArray, List.set_cons_zero, List.set_cons_succ, Zx, ZA]
  rfl
 refine take_ (i := 11) (N := some 16) (v := ?_) (a' := ?_) #[true, true, true, true, true, true, true, true, true, false, true, true, true, false, false, false, false] rfl rfl (take_ofW HT_.out HW_.out (by kernel_rfl)) (fun _ _ _ h => h) (Or.inl ⟨by rfl, ?_⟩) hHeld ?_ ?_
 rotate_left
 ·rintro w' ⟨s0, s1, s2, s3, s4, s5⟩
  go_simp
  with_reducible rfl
 rotate_left
 ·simp only [Act.put, List.setIfInBounds_toArray, List.set_cons_zero, List.set_cons_succ, Zx, ZA]
  rfl
 refine take_ (i := 13) (N := some 18) (v := ?_) (a' := ?_) #[true, true, true, true, true, true, true, true, true, false, true, true, true, true, false, false, false] rfl rfl (take_ofW HT_.out HW_.out (by kernel_rfl)) (fun _ _ _ h => h) (Or.inl ⟨by rfl, ?_⟩) hHeld ?_ ?_
 rotate_left
 ·rintro w' ⟨s0, s1, s2, s3, s4, s5⟩
  go_simp
  with_reducible rfl
 rotate_left
 ·simp only [Act.put, List.setIfInBounds_toArray, List.set_cons_zero, List.set_cons_succ, Zx, ZA]
  rfl
 refine ZM (i := 14) (N := some 19) (v := ?_) (a' := ?_) #[true, true, true, true, true, true, true, true, true, false, true, true, true, true, true, false, false] rfl rfl (ZD HT_.out (by kernel_rfl)) (fun _ _ _ h => h) (Or.inl ⟨by rfl, ?_⟩) ?_ ?_
 rotate_left
 ·intro w'
  go_simp
  with_reducible rfl
 rotate_left
 ·simp only [Act.put, List.setIfInBounds_toArray, List.set_cons_zero, List.set_cons_succ, Zx, ZA]
  rfl
 refine one_ (i := 9) (N := some 14) #[true, true, true, true, true, true, true, true, true, true, true, true, true, true, true, false, false] rfl rfl (one_of HT_.out (by kernel_rfl)) (by decide) (fun K hK => ?_)
 refine goes_ Try.func59 (by kernel_rfl) rfl #[.slice A0_1 l0_1.length c0_1, .slice A1_1 l1_1.length c1_1] (by rfl) rfl rfl (by (try simp only [List.map_toArray, List.map_cons, List.map_nil]); first | done | rfl | (simp only [List.length_drop, List.length_take]; rfl)) ?_
 with_reducible refine (r00NatMul.calls k _ _ l0_1 _ _ l1_1 t283 _ ?side1 ?side2 ?side3 ?side4 A3.out).mono ?_
 (case side1 => repeat (first | exact (Kd.C_below HR0_1.out HB.out) | (with_reducible refine Kd.ZC ?_ _) | (with_reducible refine Kd.ZF ?_ _) | (with_reducible refine Kd.ZN ?_)))
 (case side2 => exact HC0_1.out)
 (case side3 => repeat (first | exact (Kd.C_below HR1_1.out HB.out) | (with_reducible refine Kd.ZC ?_ _) | (with_reducible refine Kd.ZF ?_ _) | (with_reducible refine Kd.ZN ?_)))
 (case side4 => exact HC1_1.out)
 rintro e w8 ⟨v284, rfl, ho0, hb⟩
 refine ⟨_, rfl, ?_⟩
 have n0_ := Zb.mk (Kd.ZG ho0 (Zi (by repeat (first | (with_reducible first | exact HB.out | apply Zc | apply Za | apply Zd | refine Zh ?_ GE280.out | refine Zh ?_ GE281.out | refine Zh ?_ GE282.out) | exact HB.out))))
 have n1_ := Zb.mk (Zn (g := gb280) (o := .cells #[.bool a0_0, .slice A0_1 l0_1.length c0_1, .int .i64 a0_2] 48 (0, 0)) (by (with_reducible repeat (first | refine Ze ?_ _ | refine Zg ?_ | refine Zf ?_ _)); exact BK280.out) hb)
 have n2_ := Zb.mk (Zn (g := gb281) (o := .cells #[.bool a1_0, .slice A1_1 l1_1.length c1_1, .int .i64 a1_2] 48 (0, 0)) (by (with_reducible repeat (first | refine Ze ?_ _ | refine Zg ?_ | refine Zf ?_ _)); exact BK281.out) hb)
 have n3_ := Zb.mk (Zn (g := gb282) (o := .cells #[.bool false, .slice none 0 0, .int .i64 0] 48 (0, 0)) (by (with_reducible repeat (first | refine Ze ?_ _ | refine Zg ?_ | refine Zf ?_ _)); exact BK282.out) hb)
 have n4_ := Zb.mk (Zl (by repeat (first | (with_reducible first | exact HB.out | apply Zc | apply Za | apply Zd | refine Zh ?_ GE280.out | refine Zh ?_ GE281.out | refine Zh ?_ GE282.out) | exact HB.out)) hb)
 clear BK280
 clear BK281
 clear BK282
 clear HB
 have HO285 := n0_
 have BK280 := n1_
 have BK281 := n2_
 have BK282 := n3_
 have HB := n4_
 clear n0_ n1_ n2_ n3_ n4_
 (try clear hb)
 (try clear hb2)
 (try clear hk)
 (try clear hi)
 (try clear ho0)
 obtain ⟨Ao9, co9, eo9⟩ := Kd.Zy HO285.out
 (first | subst eo9 | (injection eo9 with f1_ f2_ f3_; have f4_ := f1_.symm; have f5_ := f3_.symm; clear f1_ f2_ f3_; subst f4_; subst f5_))
 refine hK.out _ _ ⟨(Zk BK280.out 0).trans rfl, (Zk BK280.out 1).trans rfl, (Zk BK280.out 2).trans rfl, (Zk BK281.out 0).trans rfl, (Zk BK281.out 1).trans rfl, (Zk BK281.out 2).trans rfl⟩ (fun hHeld => ?_)
 clear hK K
 refine norm_ (a' := ?_) ?_ ?_
 rotate_left
 ·show Act.put _ (some 14) _ = _
  simp only [Act.put, List.setIfInBounds_toArray, List.set_cons_zero, List.set_cons_succ, Zx, ZA]
  rfl
 refine ZM (i := 15) (N := some 20) (v := ?_) (a' := ?_) #[true, true, true, true, true, true, true, true, true, true, true, true, true, true, true, true, false] rfl rfl (ZD HT_.out (by kernel_rfl)) (fun _ _ _ h => h) (Or.inl ⟨by rfl, ?_⟩) ?_ ?_
 rotate_left
 ·intro w'
  go_simp
  with_reducible rfl
 rotate_left
 ·simp only [Act.put, List.setIfInBounds_toArray, List.set_cons_zero, List.set_cons_succ, Zx, ZA]
  rfl
 refine one_ (i := 16) (N := none) #[true, true, true, true, true, true, true, true, true, true, true, true, true, true, true, true, true] rfl rfl (one_of HT_.out (by kernel_rfl)) (by decide) (fun K hK => ?_)
 have hs10 : w8.cell? ⟨gb282, 0, none⟩ = some (.bool false) := (Zk BK282.out 0).trans rfl
 have hfs10 := Zj BK282.out 0
 have hns10_0 := NB280_282.out
 have hns10_1 := NB281_282.out
 have hms10_0 := NB282_280.out
 have hms10_1 := NB282_281.out
 have hs11 : w8.cell? ⟨gb282, 1, none⟩ = some (.slice none 0 0) := (Zk BK282.out 1).trans rfl
 have hfs11 := Zj BK282.out 1
 have hns11_0 := NB280_282.out
 have hns11_1 := NB281_282.out
 have hms11_0 := NB282_280.out
 have hms11_1 := NB282_281.out
 have hs12 : w8.cell? ⟨gb282, 2, none⟩ = some (.int .i64 0) := (Zk BK282.out 2).trans rfl
 have hfs12 := Zj BK282.out 2
 have hns12_0 := NB280_282.out
 have hns12_1 := NB281_282.out
 have hms12_0 := NB282_280.out
 have hms12_1 := NB282_281.out
 refine skip_ (w1 := ?_) (by rfl) rfl ?_ ?_
 rotate_left
 ·go_simp
  rfl
 refine hK.out _ _ ⟨((cell_far (p := ⟨gb282, _, none⟩) NB280_282.out _).trans (((cell_far (p := ⟨gb282, _, none⟩) NB280_282.out _).trans (((cell_far (p := ⟨gb282, _, none⟩) NB280_282.out _).trans (hHeld.1)))))), ((cell_far (p := ⟨gb282, _, none⟩) NB280_282.out _).trans (((cell_far (p := ⟨gb282, _, none⟩) NB280_282.out _).trans (((cell_far (p := ⟨gb282, _, none⟩) NB280_282.out _).trans (hHeld.2.1)))))), ((cell_far (p := ⟨gb282, _, none⟩) NB280_282.out _).trans (((cell_far (p := ⟨gb282, _, none⟩) NB280_282.out _).trans (((cell_far (p := ⟨gb282, _, none⟩) NB280_282.out _).trans (hHeld.2.2.1)))))), ((cell_far (p := ⟨gb282, _, none⟩) NB281_282.out _).trans (((cell_far (p := ⟨gb282, _, none⟩) NB281_282.out _).trans (((cell_far (p := ⟨gb282, _, none⟩) NB281_282.out _).trans (hHeld.2.2.2.1)))))), ((cell_far (p := ⟨gb282, _, none⟩) NB281_282.out _).trans (((cell_far (p := ⟨gb282, _, none⟩) NB281_282.out _).trans (((cell_far (p := ⟨gb282, _, none⟩) NB281_282.out _).trans (hHeld.2.2.2.2.1)))))), ((cell_far (p := ⟨gb282, _, none⟩) NB281_282.out _).trans (((cell_far (p := ⟨gb282, _, none⟩) NB281_282.out _).trans (((cell_far (p := ⟨gb282, _, none⟩) NB281_282.out _).trans (hHeld.2.2.2.2.2))))))⟩ (fun hHeld => ?_)
 clear hK K
 refine done_ (done_of HT_.out (by kernel_rfl)) ?_
 try go_wp2
 refine bodyPost_ret (results_cell_row rfl _ _ gb282 48 #[.bool (a0_0 != a1_0), .slice Ao9 t283.length co9, .int .i64 (wrap64 (a0_2 + a1_2))] (0, 0) _ rfl (by (with_reducible repeat (first | refine Ze ?_ _ | refine Zg ?_ | refine Zf ?_ _)); refine Zu (cs := #[.bool (a0_0 != a1_0), .slice Ao9 t283.length co9, .int .i64 0]) ?_ 2 _ rfl; (with_reducible repeat (first | refine Ze ?_ _ | refine Zg ?_ | refine Zf ?_ _)); refine Zu (cs := #[.bool (a0_0 != a1_0), .slice none 0 0, .int .i64 0]) ?_ 1 _ rfl; (with_reducible repeat (first | refine Ze ?_ _ | refine Zg ?_ | refine Zf ?_ _)); refine Zu (cs := #[.bool false, .slice none 0 0, .int .i64 0]) ?_ 0 _ rfl; (with_reducible repeat (first | refine Ze ?_ _ | refine Zg ?_ | refine Zf ?_ _)); exact BK282.out) Try.underlying48 rfl (by kernel_rfl)) rfl ?_
 exact ⟨_, by first | rfl | (simp [errW_none, errW_some] <;> rfl) | (simp [*, errW_none, errW_some] <;> rfl), by (with_reducible repeat (first | apply Kd.Zm | apply Kd.Zo)); exact Kd.ZE (Kd.ZH (p := ⟨gb282, 2, none⟩) (Kd.ZH (p := ⟨gb282, 1, none⟩) (Kd.ZH (p := ⟨gb282, 0, none⟩) (Kd.ZI HO285.out BK282.out (by decide)) (fun _ hk => hk.2) (.bool (a0_0 != a1_0))) (fun _ hk => hk.2) (.slice Ao9 t283.length co9)) (fun _ hk => hk.2) (.int .i64 (wrap64 (a0_2 + a1_2)))) (fun _ hk => trivial), by repeat (first | (with_reducible first | exact HB.out | apply Zc | apply Za | apply Zd | refine Zh ?_ GE280.out | refine Zh ?_ GE281.out | refine Zh ?_ GE282.out) | exact HB.out)⟩
def r19may.f (a0 : Int) : Option (Bool) := if a0 ≥ 2 then (some (decide (a0 ≤ 36))) else (some false)
set_option maxHeartbeats 8000000 in
set_option maxRecDepth 100000 in
theorem r19may.calls (a0 : Int) (r : Bool) (w : World) (h : r19may.f a0 = some r) :
  Calls Try.prog 42 #[.int .i64 a0] w fun e w' => e = .returned (.bool r) ∧ Zq w w' := by
 have H : (if a0 ≥ 2 then (some (decide (a0 ≤ 36))) else (some false)) = some r := h
 clear h
 by_cases c2 : a0 ≥ 2
 ·rw [if_pos c2] at H
  have c2b0 : decide (2 ≤ a0) = true := decide_eq_true c2
  clear c2
  obtain rfl := Option.some.inj H
  go_enter Try.func42, Try.ntmps42
  go_wp2
  go_ret
  exact ⟨by first | rfl | (simp; done) | (simp [*]; done), by repeat (first | exact Zq.refl _ | apply Zq.step)⟩
 ·rw [if_neg c2] at H
  have c2b0 : decide (2 ≤ a0) = false := decide_eq_false c2
  clear c2
  obtain rfl := Option.some.inj H
  go_enter Try.func42, Try.ntmps42
  go_wp2
  go_ret
  exact ⟨by first | rfl | (simp; done) | (simp [*]; done), by repeat (first | exact Zq.refl _ | apply Zq.step)⟩
def r19digit.f (a0 : Int) : Option (Int) := if a0 < 10 then (some ((wrap64 (48 + a0)) % 256)) else (some ((wrap64 ((wrap64 (97 + a0)) - 10)) % 256))
set_option maxHeartbeats 8000000 in
set_option maxRecDepth 100000 in
theorem r19digit.calls (a0 : Int) (r : Int) (w : World) (h : r19digit.f a0 = some r) :
  Calls Try.prog 82 #[.int .i64 a0] w fun e w' => e = .returned (.int .u8 r) ∧ Zq w w' := by
 have H : (if a0 < 10 then (some ((wrap64 (48 + a0)) % 256)) else (some ((wrap64 ((wrap64 (97 + a0)) - 10)) % 256))) = some r := h
 clear h
 by_cases c2 : a0 < 10
 ·rw [if_pos c2] at H
  have c2b0 : decide (a0 < 10) = true := decide_eq_true c2
  clear c2
  obtain rfl := Option.some.inj H
  go_enter Try.func82, Try.ntmps82
  go_wp2
  go_ret
  exact ⟨by first | rfl | (simp; done) | (simp [*]; done), by repeat (first | exact Zq.refl _ | apply Zq.step)⟩
 ·rw [if_neg c2] at H
  have c2b0 : decide (a0 < 10) = false := decide_eq_false c2
  clear c2
  obtain rfl := Option.some.inj H
  go_enter Try.func82, Try.ntmps82
  go_wp2
  go_ret
  exact ⟨by first | rfl | (simp; done) | (simp [*]; done), by repeat (first | exact Zq.refl _ | apply Zq.step)⟩
def r19worth.l0 : Nat → Int → Int → Int → Option (Int)
 | 0, _, _, _ => none
 | k + 1, x0, x1, x5 => if x5 < x1 then ((r19digit.f x5).bind fun t286 => (if t286 = x0 then (some x5) else (r19worth.l0 k x0 x1 (wrap64 (x5 + 1))))) else (some (-1))
def r19worth.f (k : Nat) (a0 : Int) (a1 : Int) : Option (Int) := r19worth.l0 k a0 a1 0
set_option maxHeartbeats 8000000 in
set_option maxRecDepth 100000 in
theorem r19worth.calls (k : Nat) (a0 : Int) (a1 : Int) (r : Int) (w : World) (h : r19worth.f k a0 a1 = some r) :
  Calls Try.prog 49 #[.int .u8 a0, .int .i64 a1] w fun e w' => e = .returned (.int .i64 r) ∧ Zq w w' := by
 have H : (r19worth.l0 k a0 a1 0) = some r := h
 clear h
 have H' := Zb.mk H
 clear H
 go_enter Try.func49, Try.ntmps49
 go_wp2
 go_loopg [5] k (fun kq v5 w' => ∃ (x5_1 : Int), v5 = .int .i64 x5_1 ∧ Zb (r19worth.l0 kq a0 a1 x5_1 = some r) ∧ Zb (kq ≤ k) ∧ Zq w w')
 case atStart => exact ⟨(0), (by first | rfl | (simp; done) | (simp [*]; done)), H', ⟨Nat.le_refl _⟩, by repeat (first | exact Zq.refl _ | apply Zq.step)⟩
 case round =>
  clear H'
  try clear p2
  obtain ⟨x5_1, rfl, HA, HK1, ⟨m1, rfl⟩⟩ := hrel
  cases gk with
  | zero => exact absurd HA.out (by simp [r19worth.l0])
  | succ k1 =>
   have H := HA.out
   clear HA
   simp only [r19worth.l0] at H
   by_cases c3 : x5_1 < a1
   ·rw [if_pos c3] at H
    have c3b0 : decide (x5_1 < a1) = true := decide_eq_true c3
    clear c3
    replace H := Option.bind_eq_some_iff.mp H
    obtain ⟨t286, A40, H⟩ := H
    replace H : (if t286 = a0 then (some x5_1) else (r19worth.l0 k1 a0 a1 (wrap64 (x5_1 + 1)))) = some r := H
    have A4 := Zb.mk A40
    clear A40
    by_cases c5 : t286 = a0
    ·rw [if_pos c5] at H
     have c5b0 : (t286 == a0) = true := beq_iff_eq.mpr c5
     have c5b1 : (t286 != a0) = false := bne_eq_false_iff_eq.mpr c5
     clear c5
     obtain rfl := Option.some.inj H
     go_wp2_with (first | ((with_reducible refine Zp (f := 82) rfl ?_); refine ZB (some 12) rfl rfl Try.func82 (by kernel_rfl) rfl #[.int .i64 x5_1] rfl (by (try simp only [List.map_toArray, List.map_cons, List.map_nil]); first | done | rfl | (simp only [List.length_drop, List.length_take]; rfl)) ?_; (with_reducible refine (r19digit.calls x5_1 t286 _ A4.out).mono ?_); rintro e w' ⟨rfl, ⟨nd, rfl⟩⟩; refine ⟨_, rfl, ?_⟩))
     go_ret
     exact ⟨by first | rfl | (simp; done) | (simp [*]; done), by repeat (first | exact Zq.refl _ | apply Zq.step)⟩
    ·rw [if_neg c5] at H
     have c5b0 : (t286 == a0) = false := beq_eq_false_iff_ne.mpr c5
     have c5b1 : (t286 != a0) = true := bne_iff_ne.mpr c5
     have H' := Zb.mk H
     clear H
     go_wp2_with (first | ((with_reducible refine Zp (f := 82) rfl ?_); refine ZB (some 12) rfl rfl Try.func82 (by kernel_rfl) rfl #[.int .i64 x5_1] rfl (by (try simp only [List.map_toArray, List.map_cons, List.map_nil]); first | done | rfl | (simp only [List.length_drop, List.length_take]; rfl)) ?_; (with_reducible refine (r19digit.calls x5_1 t286 _ A4.out).mono ?_); rintro e w' ⟨rfl, ⟨nd, rfl⟩⟩; refine ⟨_, rfl, ?_⟩))
     go_roundg k1
     case measure => have := HK1.out; omega
     case rel => exact ⟨(wrap64 (x5_1 + 1)), (by first | rfl | (simp; done) | (simp [*]; done)), H', ⟨by have := HK1.out; omega⟩, by repeat (first | exact Zq.refl _ | apply Zq.step)⟩
   ·rw [if_neg c3] at H
    have c3b0 : decide (x5_1 < a1) = false := decide_eq_false c3
    clear c3
    obtain rfl := Option.some.inj H
    go_wp2
    go_ret
    exact ⟨by first | rfl | (simp; done) | (simp [*]; done), by repeat (first | exact Zq.refl _ | apply Zq.step)⟩
end Go.Proofs.Ytokmpejgfkfmbaa.BB
end
section
namespace Go.Proofs.Ytokmpejgfkfmbaa.BB
open Go.RowKit Go.Proofs.Ytokmpejgfkfmbaa.BA Go.Proofs.YtokmpejgfkfmbaaW.PrintWords Go.Proofs.YtokmpejgfkfmbaaW.PrintLast Go.Proofs.YtokmpejgfkfmbaaW.PrintMore
attribute [local go_sem] ZU ZS max_two min_two ZP ZO ZT ZR
set_option linter.unusedVariables false
set_option linter.unusedSimpArgs false
mutual
def r19Wrong.j0 : Nat → ByteArray → Int → Int → Bool → Option (Int)
 | 0, _, _, _, _ => none
 | k + 1, x0, x1, x5, x15 => if x15 = true then (r19Wrong.j1 k x0 x1 1) else (r19Wrong.j1 k x0 x1 x5)
def r19Wrong.j1 : Nat → ByteArray → Int → Int → Option (Int)
 | 0, _, _, _ => none
 | k + 1, x0, x1, x5 => r19Wrong.l0 k x0 x1 x5 x5
def r19Wrong.l0 : Nat → ByteArray → Int → Int → Int → Option (Int)
 | 0, _, _, _, _ => none
 | k + 1, x0, x1, x5, x6 => if x6 < (x0.size : Int) then (if 0 ≤ x6 then ((r19worth.f k (bt x0 x6) x1).bind fun t287 => (if t287 < 0 then (some x6) else (if x6 = x5 then (if t287 = 0 then (r19Wrong.j3 k x0 x1 x5 x6 (x5 == 1)) else (r19Wrong.j3 k x0 x1 x5 x6 false)) else (r19Wrong.j3 k x0 x1 x5 x6 false)))) else (none)) else (if x5 = (x0.size : Int) then (some (x0.size : Int)) else (some (-1)))
def r19Wrong.j3 : Nat → ByteArray → Int → Int → Int → Bool → Option (Int)
 | 0, _, _, _, _, _ => none
 | k + 1, x0, x1, x5, x6, x41 => if x41 = true then (some x6) else (if x6 = (wrap64 (x5 + 1)) then (if 0 ≤ x5 then (if x5 < (x0.size : Int) then (if (bt x0 x5) = 48 then (some x6) else (r19Wrong.l0 k x0 x1 x5 (wrap64 (x6 + 1)))) else (none)) else (none)) else (r19Wrong.l0 k x0 x1 x5 (wrap64 (x6 + 1))))
end
def r19Wrong.f (k : Nat) (a0 : ByteArray) (a1 : Int) : Option (Int) := if (a0.size : Int) > 0 then (if 0 < (a0.size : Int) then (r19Wrong.j0 k a0 a1 0 ((bt a0 0) == 45)) else (none)) else (r19Wrong.j0 k a0 a1 0 false)
set_option maxHeartbeats 8000000 in
set_option maxRecDepth 100000 in
theorem r19Wrong.calls (k : Nat) (a0 : ByteArray) (a1 : Int) (r : Int) (w : World) (h : r19Wrong.f k a0 a1 = some r) :
  Calls Try.prog 48 #[.string a0, .int .i64 a1] w fun e w' => e = .returned (.int .i64 r) ∧ Zq w w' := by
 have H : (if (a0.size : Int) > 0 then (if 0 < (a0.size : Int) then (r19Wrong.j0 k a0 a1 0 ((bt a0 0) == 45)) else (none)) else (r19Wrong.j0 k a0 a1 0 false)) = some r := h
 clear h
 have HC3 := Zb.mk H
 clear H
 go_enter Try.func48, Try.ntmps48
 go_upto_region 2 with (fail)
 go_cut [15] (fun v15 wc => ∃ (kq : Nat) (x15_2 : Bool), v15 = .bool x15_2 ∧ Zb (r19Wrong.j0 kq a0 a1 0 x15_2 = some r) ∧ Zb (kq ≤ k) ∧ Zq w wc)
 case first =>
  have H := HC3.out
  clear HC3
  by_cases c4 : (a0.size : Int) > 0
  ·rw [if_pos c4] at H
   have c4b0 : decide (0 < (a0.size : Int)) = true := decide_eq_true c4
   have c4b1 : decide (0 < a0.size) = true := decide_eq_true (by omega)
   clear c4
   (first | rw [c4b0] | (simp only [Zx, ZA]; rw [c4b0]) | skip)
   by_cases c5 : 0 < (a0.size : Int)
   ·rw [if_pos c5] at H
    have c5b0 : decide (0 < (a0.size : Int)) = true := decide_eq_true c5
    have c5b1 : decide (0 < a0.size) = true := decide_eq_true (by omega)
    clear c5
    have H' := Zb.mk H
    clear H
    have p6 : 0 ≤ (0 : Int) := (by omega)
    have q6 : 0 < a0.size := (by have : (0 : Int) < (a0.size : Int) := of_decide_eq_true (by first | (with_reducible assumption) | assumption); omega)
    have hx6 : ∀ h : 0 < a0.size, ((a0[0]'h).toNat : Int) = bt a0 0 := bt_at a0 0
    clear p6
    have qi6 : (0 < (a0.size : Int)) = True := eq_true (of_decide_eq_true (by first | (with_reducible assumption) | assumption))
    replace q6 := eq_true q6
    go_wp2
    go_meet
    case rel => exact ⟨_, (((bt a0 0) == 45)), (by first | rfl | (simp; done) | (simp [*]; done)), H', ⟨by first | omega | exact Nat.le_refl _⟩, by repeat (first | exact Zq.refl _ | apply Zq.step)⟩
   ·rw [if_neg c5] at H
    exact absurd H (by simp)
  ·rw [if_neg c4] at H
   have c4b0 : decide (0 < (a0.size : Int)) = false := decide_eq_false c4
   have c4b1 : decide (0 < a0.size) = false := decide_eq_false (by omega)
   clear c4
   (first | rw [c4b0] | (simp only [Zx, ZA]; rw [c4b0]) | skip)
   have H' := Zb.mk H
   clear H
   go_wp2
   go_meet
   case rel => exact ⟨_, (false), (by first | rfl | (simp; done) | (simp [*]; done)), H', ⟨by first | omega | exact Nat.le_refl _⟩, by repeat (first | exact Zq.refl _ | apply Zq.step)⟩
 case rest =>
  clear HC3
  try clear p2
  try clear c4
  try clear c4b0
  try clear c4b1
  try clear c5
  try clear c5b0
  try clear c5b1
  try clear p6
  try clear q6
  try clear hx6
  try clear qi6
  try clear p6
  try clear q6
  obtain ⟨kq, x15_2, rfl, HA, HJ2, ⟨mc2, rfl⟩⟩ := hcut
  cases kq with
  | zero => exact absurd HA.out (by simp [r19Wrong.j0])
  | succ kj2 =>
   have H := HA.out
   clear HA
   simp only [r19Wrong.j0] at H
   have HC7 := Zb.mk H
   clear H
   go_upto_if 15 with (fail)
   go_cut [5] (fun v5 wc => ∃ (kq : Nat) (x5_6 : Int), v5 = .int .i64 x5_6 ∧ Zb (r19Wrong.j1 kq a0 a1 x5_6 = some r) ∧ Zb (kq ≤ kj2) ∧ Zq w wc)
   case first =>
    have H := HC7.out
    clear HC7
    by_cases c8 : x15_2 = true
    ·subst c8
     have H1 : (r19Wrong.j1 kj2 a0 a1 1) = some r := by rw [if_pos rfl] at H; exact H
     clear H
     have H := H1
     clear H1
     have H' := Zb.mk H
     clear H
     go_wp2
     go_meet
     case rel => exact ⟨_, (1), (by first | rfl | (simp; done) | (simp [*]; done)), H', ⟨by have := HJ2.out; first | omega | exact Nat.le_refl _⟩, by repeat (first | exact Zq.refl _ | apply Zq.step)⟩
    ·replace c8 := Bool.eq_false_iff.mpr c8
     subst c8
     have H1 : (r19Wrong.j1 kj2 a0 a1 0) = some r := by rw [if_neg (show ¬ (false = true) by decide)] at H; exact H
     clear H
     have H := H1
     clear H1
     have H' := Zb.mk H
     clear H
     go_wp2
     go_meet
     case rel => exact ⟨_, (0), (by first | rfl | (simp; done) | (simp [*]; done)), H', ⟨by have := HJ2.out; first | omega | exact Nat.le_refl _⟩, by repeat (first | exact Zq.refl _ | apply Zq.step)⟩
   case rest =>
    clear HC7
    try clear c2
    try clear p2
    try clear c4
    try clear c4b0
    try clear c4b1
    try clear c5
    try clear c5b0
    try clear c5b1
    try clear p6
    try clear q6
    try clear hx6
    try clear qi6
    try clear c8
    try clear p2
    try clear p6
    try clear q6
    obtain ⟨kq, x5_6, rfl, HA, HJ6, ⟨mc6, rfl⟩⟩ := hcut
    cases kq with
    | zero => exact absurd HA.out (by simp [r19Wrong.j1])
    | succ kj6 =>
     have H := HA.out
     clear HA
     simp only [r19Wrong.j1] at H
     have H' := Zb.mk H
     clear H
     go_wp2
     go_loopg [6] kj6 (fun kq v6 w' => ∃ (x6_3 : Int), v6 = .int .i64 x6_3 ∧ Zb (r19Wrong.l0 kq a0 a1 x5_6 x6_3 = some r) ∧ Zb (kq ≤ kj6) ∧ Zq w w')
     case atStart => exact ⟨(x5_6), (by first | rfl | (simp; done) | (simp [*]; done)), H', ⟨Nat.le_refl _⟩, by repeat (first | exact Zq.refl _ | apply Zq.step)⟩
     case round =>
      clear H'
      try clear c2
      try clear p2
      try clear c4
      try clear c4b0
      try clear c4b1
      try clear c5
      try clear c5b0
      try clear c5b1
      try clear c6
      try clear p6
      try clear q6
      try clear hx6
      try clear qi6
      try clear c8
      try clear p2
      try clear p6
      try clear q6
      obtain ⟨x6_3, rfl, HA, HK3, ⟨m3, rfl⟩⟩ := hrel
      cases gk with
      | zero => exact absurd HA.out (by simp [r19Wrong.l0])
      | succ k3 =>
       have H := HA.out
       clear HA
       simp only [r19Wrong.l0] at H
       by_cases c9 : x6_3 < (a0.size : Int)
       ·rw [if_pos c9] at H
        have c9b0 : decide (x6_3 < (a0.size : Int)) = true := decide_eq_true c9
        clear c9
        by_cases c10 : 0 ≤ x6_3
        ·rw [if_pos c10] at H
         have c10b0 : decide (0 ≤ x6_3) = true := decide_eq_true c10
         clear c10
         replace H := Option.bind_eq_some_iff.mp H
         obtain ⟨t287, A120, H⟩ := H
         replace H : (if t287 < 0 then (some x6_3) else (if x6_3 = x5_6 then (if t287 = 0 then (r19Wrong.j3 k3 a0 a1 x5_6 x6_3 (x5_6 == 1)) else (r19Wrong.j3 k3 a0 a1 x5_6 x6_3 false)) else (r19Wrong.j3 k3 a0 a1 x5_6 x6_3 false))) = some r := H
         have A12 := Zb.mk A120
         clear A120
         by_cases c13 : t287 < 0
         ·rw [if_pos c13] at H
          have c13b0 : decide (t287 < 0) = true := decide_eq_true c13
          clear c13
          obtain rfl := Option.some.inj H
          have p11 : 0 ≤ (x6_3 : Int) := of_decide_eq_true (by first | (with_reducible assumption) | assumption)
          have q11 : x6_3 < (a0.size : Int) := of_decide_eq_true (by first | (with_reducible assumption) | assumption)
          have hx11 := bt_at a0 x6_3
          replace p11 := eq_true p11
          replace q11 := eq_true q11
          go_wp2_with (first | ((with_reducible refine Zp (f := 49) rfl ?_); refine ZB (some 27) rfl rfl Try.func49 (by kernel_rfl) rfl #[.int .u8 (bt a0 x6_3), .int .i64 a1] rfl (by (try simp only [List.map_toArray, List.map_cons, List.map_nil]); first | done | rfl | (simp only [List.length_drop, List.length_take]; rfl)) ?_; (with_reducible refine (r19worth.calls k3 (bt a0 x6_3) a1 t287 _ A12.out).mono ?_); rintro e w' ⟨rfl, ⟨nd, rfl⟩⟩; refine ⟨_, rfl, ?_⟩))
          go_ret
          exact ⟨by first | rfl | (simp; done) | (simp [*]; done), by repeat (first | exact Zq.refl _ | apply Zq.step)⟩
         ·rw [if_neg c13] at H
          have c13b0 : decide (t287 < 0) = false := decide_eq_false c13
          clear c13
          have HC14 := Zb.mk H
          clear H
          have p11 : 0 ≤ (x6_3 : Int) := of_decide_eq_true (by first | (with_reducible assumption) | assumption)
          have q11 : x6_3 < (a0.size : Int) := of_decide_eq_true (by first | (with_reducible assumption) | assumption)
          have hx11 := bt_at a0 x6_3
          replace p11 := eq_true p11
          replace q11 := eq_true q11
          go_upto_region 10 with (first | ((with_reducible refine Zp (f := 49) rfl ?_); refine ZB (some 27) rfl rfl Try.func49 (by kernel_rfl) rfl #[.int .u8 (bt a0 x6_3), .int .i64 a1] rfl (by (try simp only [List.map_toArray, List.map_cons, List.map_nil]); first | done | rfl | (simp only [List.length_drop, List.length_take]; rfl)) ?_; (with_reducible refine (r19worth.calls k3 (bt a0 x6_3) a1 t287 _ A12.out).mono ?_); rintro e w' ⟨rfl, ⟨nd, rfl⟩⟩; refine ⟨_, rfl, ?_⟩))
          (try simp only [Act.put, List.setIfInBounds_toArray, List.set_cons_zero, List.set_cons_succ])
          go_cut [41] (fun v41 wc => ∃ (kq : Nat) (x41_13 : Bool), v41 = .bool x41_13 ∧ Zb (r19Wrong.j3 kq a0 a1 x5_6 x6_3 x41_13 = some r) ∧ Zb (kq ≤ k3) ∧ Zq w wc)
          case first =>
           have H := HC14.out
           clear HC14
           by_cases c15 : x6_3 = x5_6
           ·rw [if_pos c15] at H
            have c15b0 : (x6_3 == x5_6) = true := beq_iff_eq.mpr c15
            have c15b1 : (x6_3 != x5_6) = false := bne_eq_false_iff_eq.mpr c15
            clear c15
            (first | rw [c15b0] | (simp only [Zx, ZA]; rw [c15b0]) | skip)
            by_cases c16 : t287 = 0
            ·rw [if_pos c16] at H
             have c16b0 : (t287 == 0) = true := beq_iff_eq.mpr c16
             have c16b1 : (t287 != 0) = false := bne_eq_false_iff_eq.mpr c16
             clear c16
             have H' := Zb.mk H
             clear H
             go_wp2
             go_meet
             case rel => exact ⟨_, ((x5_6 == 1)), (by first | rfl | (simp; done) | (simp [*]; done)), H', ⟨by have := HJ2.out; have := HJ6.out; have := HK3.out; first | omega | exact Nat.le_refl _⟩, by repeat (first | exact Zq.refl _ | apply Zq.step)⟩
            ·rw [if_neg c16] at H
             have c16b0 : (t287 == 0) = false := beq_eq_false_iff_ne.mpr c16
             have c16b1 : (t287 != 0) = true := bne_iff_ne.mpr c16
             have H' := Zb.mk H
             clear H
             go_wp2
             go_meet
             case rel => exact ⟨_, (false), (by first | rfl | (simp; done) | (simp [*]; done)), H', ⟨by have := HJ2.out; have := HJ6.out; have := HK3.out; first | omega | exact Nat.le_refl _⟩, by repeat (first | exact Zq.refl _ | apply Zq.step)⟩
           ·rw [if_neg c15] at H
            have c15b0 : (x6_3 == x5_6) = false := beq_eq_false_iff_ne.mpr c15
            have c15b1 : (x6_3 != x5_6) = true := bne_iff_ne.mpr c15
            (first | rw [c15b0] | (simp only [Zx, ZA]; rw [c15b0]) | skip)
            have H' := Zb.mk H
            clear H
            go_wp2
            go_meet
            case rel => exact ⟨_, (false), (by first | rfl | (simp; done) | (simp [*]; done)), H', ⟨by have := HJ2.out; have := HJ6.out; have := HK3.out; first | omega | exact Nat.le_refl _⟩, by repeat (first | exact Zq.refl _ | apply Zq.step)⟩
          case rest =>
           clear HC14
           try clear c1
           try clear p1
           try clear q1
           try clear hx1
           try clear c2
           try clear p2
           try clear c4
           try clear c4b0
           try clear c4b1
           try clear c5
           try clear c5b0
           try clear c5b1
           try clear c6
           try clear p6
           try clear q6
           try clear hx6
           try clear qi6
           try clear c8
           try clear c9
           try clear c9b0
           try clear c10
           try clear c10b0
           try clear p11
           try clear q11
           try clear hx11
           try clear c13
           try clear c13b0
           try clear c15
           try clear c15b0
           try clear c15b1
           try clear c16
           try clear c16b0
           try clear c16b1
           try clear p11
           try clear p2
           try clear p6
           try clear q11
           try clear q6
           obtain ⟨kq, x41_13, rfl, HA, HJ13, ⟨mc13, rfl⟩⟩ := hcut
           cases kq with
           | zero => exact absurd HA.out (by simp [r19Wrong.j3])
           | succ kj13 =>
            have H := HA.out
            clear HA
            simp only [r19Wrong.j3] at H
            by_cases c17 : x41_13 = true
            ·subst c17
             have H1 : (some x6_3) = some r := by rw [if_pos rfl] at H; exact H
             clear H
             have H := H1
             clear H1
             obtain rfl := Option.some.inj H
             go_wp2
             go_ret
             exact ⟨by first | rfl | (simp; done) | (simp [*]; done), by repeat (first | exact Zq.refl _ | apply Zq.step)⟩
            ·replace c17 := Bool.eq_false_iff.mpr c17
             subst c17
             have H1 : (if x6_3 = (wrap64 (x5_6 + 1)) then (if 0 ≤ x5_6 then (if x5_6 < (a0.size : Int) then (if (bt a0 x5_6) = 48 then (some x6_3) else (r19Wrong.l0 kj13 a0 a1 x5_6 (wrap64 (x6_3 + 1)))) else (none)) else (none)) else (r19Wrong.l0 kj13 a0 a1 x5_6 (wrap64 (x6_3 + 1)))) = some r := by rw [if_neg (show ¬ (false = true) by decide)] at H; exact H
             clear H
             have H := H1
             clear H1
             by_cases c18 : x6_3 = (wrap64 (x5_6 + 1))
             ·rw [if_pos c18] at H
              have c18b0 : (x6_3 == (wrap64 (x5_6 + 1))) = true := beq_iff_eq.mpr c18
              have c18b1 : (x6_3 != (wrap64 (x5_6 + 1))) = false := bne_eq_false_iff_eq.mpr c18
              clear c18
              by_cases c19 : 0 ≤ x5_6
              ·rw [if_pos c19] at H
               have c19b0 : decide (0 ≤ x5_6) = true := decide_eq_true c19
               clear c19
               by_cases c20 : x5_6 < (a0.size : Int)
               ·rw [if_pos c20] at H
                have c20b0 : decide (x5_6 < (a0.size : Int)) = true := decide_eq_true c20
                clear c20
                by_cases c22 : (bt a0 x5_6) = 48
                ·rw [if_pos c22] at H
                 have c22b0 : ((bt a0 x5_6) == 48) = true := beq_iff_eq.mpr c22
                 have c22b1 : ((bt a0 x5_6) != 48) = false := bne_eq_false_iff_eq.mpr c22
                 clear c22
                 obtain rfl := Option.some.inj H
                 have p21 : 0 ≤ (x5_6 : Int) := of_decide_eq_true (by first | (with_reducible assumption) | assumption)
                 have q21 : x5_6 < (a0.size : Int) := of_decide_eq_true (by first | (with_reducible assumption) | assumption)
                 have hx21 := bt_at a0 x5_6
                 replace p21 := eq_true p21
                 replace q21 := eq_true q21
                 go_wp2
                 go_ret
                 exact ⟨by first | rfl | (simp; done) | (simp [*]; done), by repeat (first | exact Zq.refl _ | apply Zq.step)⟩
                ·rw [if_neg c22] at H
                 have c22b0 : ((bt a0 x5_6) == 48) = false := beq_eq_false_iff_ne.mpr c22
                 have c22b1 : ((bt a0 x5_6) != 48) = true := bne_iff_ne.mpr c22
                 have H' := Zb.mk H
                 clear H
                 have p21 : 0 ≤ (x5_6 : Int) := of_decide_eq_true (by first | (with_reducible assumption) | assumption)
                 have q21 : x5_6 < (a0.size : Int) := of_decide_eq_true (by first | (with_reducible assumption) | assumption)
                 have hx21 := bt_at a0 x5_6
                 replace p21 := eq_true p21
                 replace q21 := eq_true q21
                 go_wp2
                 go_roundg kj13
                 case measure => have := HJ2.out; have := HJ6.out; have := HK3.out; have := HJ13.out; omega
                 case rel => exact ⟨(wrap64 (x6_3 + 1)), (by first | rfl | (simp; done) | (simp [*]; done)), H', ⟨by have := HJ2.out; have := HJ6.out; have := HK3.out; have := HJ13.out; omega⟩, by repeat (first | exact Zq.refl _ | apply Zq.step)⟩
               ·rw [if_neg c20] at H
                exact absurd H (by simp)
              ·rw [if_neg c19] at H
               exact absurd H (by simp)
             ·rw [if_neg c18] at H
              have c18b0 : (x6_3 == (wrap64 (x5_6 + 1))) = false := beq_eq_false_iff_ne.mpr c18
              have c18b1 : (x6_3 != (wrap64 (x5_6 + 1))) = true := bne_iff_ne.mpr c18
              have H' := Zb.mk H
              clear H
              go_wp2
              go_roundg kj13
              case measure => have := HJ2.out; have := HJ6.out; have := HK3.out; have := HJ13.out; omega
              case rel => exact ⟨(wrap64 (x6_3 + 1)), (by first | rfl | (simp; done) | (simp [*]; done)), H', ⟨by have := HJ2.out; have := HJ6.out; have := HK3.out; have := HJ13.out; omega⟩, by repeat (first | exact Zq.refl _ | apply Zq.step)⟩
        ·rw [if_neg c10] at H
         exact absurd H (by simp)
       ·rw [if_neg c9] at H
        have c9b0 : decide (x6_3 < (a0.size : Int)) = false := decide_eq_false c9
        clear c9
        by_cases c23 : x5_6 = (a0.size : Int)
        ·rw [if_pos c23] at H
         have c23b0 : (x5_6 == (a0.size : Int)) = true := beq_iff_eq.mpr c23
         have c23b1 : (x5_6 != (a0.size : Int)) = false := bne_eq_false_iff_eq.mpr c23
         clear c23
         obtain rfl := Option.some.inj H
         go_wp2
         go_ret
         exact ⟨by first | rfl | (simp; done) | (simp [*]; done), by repeat (first | exact Zq.refl _ | apply Zq.step)⟩
        ·rw [if_neg c23] at H
         have c23b0 : (x5_6 == (a0.size : Int)) = false := beq_eq_false_iff_ne.mpr c23
         have c23b1 : (x5_6 != (a0.size : Int)) = true := bne_iff_ne.mpr c23
         obtain rfl := Option.some.inj H
         go_wp2
         go_ret
         exact ⟨by first | rfl | (simp; done) | (simp [*]; done), by repeat (first | exact Zq.refl _ | apply Zq.step)⟩
def r00Minus.f (a0_0 : Bool) (l0_1 : List Int) (a0_2 : Int) : Option (Bool × List Int × Int) := some (!a0_0, l0_1, a0_2)
set_option maxHeartbeats 8000000 in
set_option maxRecDepth 100000 in
theorem r00Minus.calls (a0_0 : Bool) (P0_1_ : Nat → Prop) (u9000_ : Value) (l0_1 : List Int) (a0_2 : Int) (r1 : Bool) (r2 : List Int) (r3 : Int) (w0 w : World) (hB : Below w0.heap.size w0 w) (ho0_1 : Kd.R (Kd.int .u64) 46 w w0.heap.size P0_1_ u9000_ l0_1) (h : r00Minus.f a0_0 l0_1 a0_2 = some (r1, r2, r3)) :
  Calls Try.prog 50 #[.agg #[.bool a0_0, u9000_, .int .i64 a0_2]] w fun e w' => ∃ v1_ : Value, e = .returned (.agg #[.bool r1, v1_, .int .i64 r3]) ∧ Kd.R (Kd.int .u64) 46 w' w0.heap.size (fun k_ => (P0_1_ k_ ∨ w.heap.size ≤ k_)) v1_ r2 ∧ Below w0.heap.size w0 w' ∧ Kept w w' (fun k_ => P0_1_ k_) := by
 have hu48 := Try.underlying48
 have HO0_1 := Zb.mk (show Kd.R (Kd.int .u64) 46 w w0.heap.size (fun k_ => (P0_1_ k_ ∨ w.heap.size ≤ k_)) u9000_ l0_1 from Kd.ZE ho0_1 (fun k_ hk => (.inl hk)))
 have HK := Zb.mk (Kept.refl w (fun k_ => P0_1_ k_))
 have HW0 := Zb.mk hB.size
 have HB := Zb.mk hB
 clear hB
 have H : (some (!a0_0, l0_1, a0_2)) = some (r1, r2, r3) := h
 clear h
 simp only [Option.some.injEq, Prod.mk.injEq] at H
 obtain ⟨rfl, rfl, rfl⟩ := H
 obtain ⟨Ao2, co2, eo2⟩ := Kd.Zy HO0_1.out
 subst eo2
 go_enter Try.func50, Try.ntmps50
 go_wp2_with (first | ((with_reducible refine Zt (N := 1) rfl ?_); refine Zs ?hg (N := 1) ?hd (cs := #[.bool a0_0, .slice Ao2 l0_1.length co2, .int .i64 a0_2]) (t := 48) ?hr ?_; (case hd => rfl); (case hg => rfl); (case hr => first | (go_simp; done) | (go_simp; rfl)); intro gb288 hg w3 hbox hb; have n0_ := Zb.mk (Kd.Zz (by (with_reducible repeat (first | apply Kd.Zm | apply Kd.Zo)); exact HO0_1.out) hb); have n1_ := Zb.mk (Kept.below (S := (fun k_ => P0_1_ k_)) (by repeat (first | (with_reducible first | exact HK.out | apply Kept.alloc | apply Kept.drewN | apply Kept.drew) | exact HK.out)) hb); have n2_ := Zb.mk (Zl (by repeat (first | (with_reducible first | exact HB.out | apply Zc | apply Za | apply Zd) | exact HB.out)) hb); have n3_ := Zb.mk (hbox); have n4_ := Zb.mk ((by rw [hg]; exact (by first | exact HK.out.1 | exact (show Kept w _ (fun k_ => P0_1_ k_) from by repeat (first | (with_reducible first | exact HK.out | apply Kept.alloc | apply Kept.drewN | apply Kept.drew) | exact HK.out)).1) : w.heap.size ≤ gb288)); have n5_ := Zb.mk ((by rw [hg]; exact (Zi (by repeat (first | (with_reducible first | exact HB.out | apply Zc | apply Za | apply Zd) | exact HB.out))) : w0.heap.size ≤ gb288)); clear HO0_1; clear HK; clear HB; have HO0_1 := n0_; have HK := n1_; have HB := n2_; have BK288 := n3_; have GW288 := n4_; have GE288 := n5_; clear n0_ n1_ n2_ n3_ n4_ n5_; clear hb hbox hg) | ((with_reducible refine Zt (N := 2) rfl ?_); refine Zs ?hg (N := 2) ?hd (cs := #[.bool false, .slice none 0 0, .int .i64 0]) (t := 48) ?hr ?_; (case hd => rfl); (case hg => rfl); (case hr => first | (go_simp; done) | (go_simp; rfl)); intro gb289 hg w4 hbox hb; have n0_ := Zb.mk (Kd.Zz (by (with_reducible repeat (first | apply Kd.Zm | apply Kd.Zo)); exact HO0_1.out) hb); have n1_ := Zb.mk (Zn (g := gb288) (o := .cells #[.bool a0_0, .slice Ao2 l0_1.length co2, .int .i64 a0_2] 48 (0, 0)) (by (with_reducible repeat (first | refine Ze ?_ _ | refine Zg ?_ | refine Zf ?_ _)); exact BK288.out) hb); have n2_ := Zb.mk (Kept.below (S := (fun k_ => P0_1_ k_)) (by repeat (first | (with_reducible first | exact HK.out | apply Kept.alloc | apply Kept.drewN | apply Kept.drew | refine Kept.setCell ?_ (.inr GW288.out) _) | exact HK.out)) hb); have n3_ := Zb.mk (Zl (by repeat (first | (with_reducible first | exact HB.out | apply Zc | apply Za | apply Zd | refine Zh ?_ GE288.out) | exact HB.out)) hb); have n4_ := Zb.mk (hbox); have n5_ := Zb.mk ((by rw [hg]; exact (by first | exact HK.out.1 | exact (show Kept w _ (fun k_ => P0_1_ k_) from by repeat (first | (with_reducible first | exact HK.out | apply Kept.alloc | apply Kept.drewN | apply Kept.drew | refine Kept.setCell ?_ (.inr GW288.out) _) | exact HK.out)).1) : w.heap.size ≤ gb289)); have n6_ := Zb.mk ((by rw [hg]; exact (Zi (by repeat (first | (with_reducible first | exact HB.out | apply Zc | apply Za | apply Zd | refine Zh ?_ GE288.out) | exact HB.out))) : w0.heap.size ≤ gb289)); have n7_ := Zb.mk ((by rw [hg]; exact Nat.ne_of_lt (Zw (g := gb288) (o := .cells #[.bool a0_0, .slice Ao2 l0_1.length co2, .int .i64 a0_2] 48 (0, 0)) (by (with_reducible repeat (first | refine Ze ?_ _ | refine Zg ?_ | refine Zf ?_ _)); exact BK288.out)) : gb288 ≠ gb289)); have n8_ := Zb.mk ((by rw [hg]; exact Nat.ne_of_gt (Zw (g := gb288) (o := .cells #[.bool a0_0, .slice Ao2 l0_1.length co2, .int .i64 a0_2] 48 (0, 0)) (by (with_reducible repeat (first | refine Ze ?_ _ | refine Zg ?_ | refine Zf ?_ _)); exact BK288.out)) : gb289 ≠ gb288)); clear HO0_1; clear BK288; clear HK; clear HB; have HO0_1 := n0_; have BK288 := n1_; have HK := n2_; have HB := n3_; have BK289 := n4_; have GW289 := n5_; have GE289 := n6_; have NB288_289 := n7_; have NB289_288 := n8_; clear n0_ n1_ n2_ n3_ n4_ n5_ n6_ n7_ n8_; clear hb hbox hg; have hnb5 := NB288_289.out; have hnc5 := NB289_288.out; have hcz6_0 : w4.cell? ⟨gb288, 0, none⟩ = some (.bool a0_0) := (Zk BK288.out 0).trans rfl; have hcz6_1 : w4.cell? ⟨gb288, 1, none⟩ = some (.slice Ao2 l0_1.length co2) := (Zk BK288.out 1).trans rfl; have hcz6_2 : w4.cell? ⟨gb288, 2, none⟩ = some (.int .i64 a0_2) := (Zk BK288.out 2).trans rfl; have hfz6_0 := Zj BK288.out 0; have hfz6_1 := Zj BK288.out 1; have hfz6_2 := Zj BK288.out 2; have hcz7_0 : w4.cell? ⟨gb289, 0, none⟩ = some (.bool false) := (Zk BK289.out 0).trans rfl; have hcz7_1 : w4.cell? ⟨gb289, 1, none⟩ = some (.slice none 0 0) := (Zk BK289.out 1).trans rfl; have hcz7_2 : w4.cell? ⟨gb289, 2, none⟩ = some (.int .i64 0) := (Zk BK289.out 2).trans rfl; have hfz7_0 := Zj BK289.out 0; have hfz7_1 := Zj BK289.out 1; have hfz7_2 := Zj BK289.out 2))
 refine bodyPost_ret (results_cell_row rfl _ _ gb289 48 #[.bool (!a0_0), .slice Ao2 l0_1.length co2, .int .i64 a0_2] (0, 0) _ rfl (by (with_reducible repeat (first | refine Ze ?_ _ | refine Zg ?_ | refine Zf ?_ _)); refine Zu (cs := #[.bool (!a0_0), .slice Ao2 l0_1.length co2, .int .i64 0]) ?_ 2 _ rfl; (with_reducible repeat (first | refine Ze ?_ _ | refine Zg ?_ | refine Zf ?_ _)); refine Zu (cs := #[.bool (!a0_0), .slice none 0 0, .int .i64 0]) ?_ 1 _ rfl; (with_reducible repeat (first | refine Ze ?_ _ | refine Zg ?_ | refine Zf ?_ _)); refine Zu (cs := #[.bool false, .slice none 0 0, .int .i64 0]) ?_ 0 _ rfl; (with_reducible repeat (first | refine Ze ?_ _ | refine Zg ?_ | refine Zf ?_ _)); exact BK289.out) Try.underlying48 rfl (by kernel_rfl)) rfl ?_
 exact ⟨_, by first | rfl | (simp [errW_none, errW_some] <;> rfl) | (simp [*, errW_none, errW_some] <;> rfl), by (with_reducible repeat (first | apply Kd.Zm | apply Kd.Zo)); exact Kd.ZE (Kd.ZH (p := ⟨gb289, 2, none⟩) (Kd.ZH (p := ⟨gb289, 1, none⟩) (Kd.ZH (p := ⟨gb289, 0, none⟩) (Kd.ZI HO0_1.out BK289.out (by decide)) (fun _ hk => hk.2) (.bool (!a0_0))) (fun _ hk => hk.2) (.slice Ao2 l0_1.length co2)) (fun _ hk => hk.2) (.int .i64 a0_2)) (fun _ hk => hk.1), by repeat (first | (with_reducible first | exact HB.out | apply Zc | apply Za | apply Zd | refine Zh ?_ GE288.out | refine Zh ?_ GE289.out) | exact HB.out), by repeat (first | (with_reducible first | exact HK.out | apply Kept.alloc | apply Kept.drewN | apply Kept.drew | refine Kept.setCell ?_ (.inr GW288.out) _ | refine Kept.setCell ?_ (.inr GW289.out) _) | exact HK.out)⟩
def r13Told.f (k : Nat) (a0_0 : Bool) (l0_1 : List Int) (a0_2 : Int) : Option (Bool × List Int × Int) := (r00TellInt.f k a0_0 l0_1 a0_2).bind fun bt292 => (if bt292.2.2 = true then (some (bt292.1, bt292.2.1, 0)) else (some (false, ([] : List Int), 3)))
set_option maxHeartbeats 8000000 in
set_option maxRecDepth 100000 in
theorem r13Told.calls (k : Nat) (a0_0 : Bool) (A0_1 : Option Addr) (c0_1 : Nat) (l0_1 : List Int) (a0_2 : Int) (r1 : Bool) (r2 : List Int) (r3 : Int) (w : World) (hr0_1 : Kd.C (Kd.int .u64) w A0_1 l0_1.length l0_1) (hc0_1 : l0_1.length ≤ c0_1) (h : r13Told.f k a0_0 l0_1 a0_2 = some (r1, r2, r3)) :
  Calls Try.prog 51 #[.agg #[.bool a0_0, .slice A0_1 l0_1.length c0_1, .int .i64 a0_2]] w fun e w' => ∃ v1_ : Value, e = .returned (.tuple #[.agg #[.bool r1, v1_], .int .i64 r3]) ∧ Kd.R (Kd.int .u64) 46 w' w.heap.size (fun _ => True) v1_ r2 ∧ Below w.heap.size w w' := by
 have hu48 := Try.underlying48
 have hu24 := Try.underlying24
 have HR0_1 := Zb.mk hr0_1
 have HC0_1 := Zb.mk hc0_1
 clear hr0_1 hc0_1
 have HB := Zb.mk (Below.refl w.heap.size w)
 have H : ((r00TellInt.f k a0_0 l0_1 a0_2).bind fun bt292 => (if bt292.2.2 = true then (some (bt292.1, bt292.2.1, 0)) else (some (false, ([] : List Int), 3)))) = some (r1, r2, r3) := h
 clear h
 replace H := Option.bind_eq_some_iff.mp H
 obtain ⟨⟨t292, t293, t296⟩, A20, H⟩ := H
 replace H : (if t296 = true then (some (t292, t293, 0)) else (some (false, ([] : List Int), 3))) = some (r1, r2, r3) := H
 have A2 := Zb.mk A20
 clear A20
 by_cases c3 : t296 = true
 ·subst c3
  have H1 : (some (t292, t293, 0)) = some (r1, r2, r3) := by rw [if_pos rfl] at H; exact H
  clear H
  have H := H1
  clear H1
  simp only [Option.some.injEq, Prod.mk.injEq] at H
  obtain ⟨rfl, rfl, rfl⟩ := H
  go_enter Try.func51, Try.ntmps51
  go_wp2_with (first | ((with_reducible refine Zt (N := 1) rfl ?_); refine Zs ?hg (N := 1) ?hd (cs := #[.bool a0_0, .slice A0_1 l0_1.length c0_1, .int .i64 a0_2]) (t := 48) ?hr ?_; (case hd => rfl); (case hg => rfl); (case hr => first | (go_simp; done) | (go_simp; rfl)); intro gb290 hg w4 hbox hb; have n0_ := Zb.mk (Zl (by repeat (first | (with_reducible first | exact HB.out | apply Zc | apply Za | apply Zd) | exact HB.out)) hb); have n1_ := Zb.mk (hbox); have n2_ := Zb.mk ((by rw [hg]; exact (Zi (by repeat (first | (with_reducible first | exact HB.out | apply Zc | apply Za | apply Zd) | exact HB.out))) : w.heap.size ≤ gb290)); have n3_ := Zb.mk ((by rw [hg]; exact (Zi (by repeat (first | (with_reducible first | exact HB.out | apply Zc | apply Za | apply Zd) | exact HB.out))) : w.heap.size ≤ gb290)); clear HB; have HB := n0_; have BK290 := n1_; have GW290 := n2_; have GE290 := n3_; clear n0_ n1_ n2_ n3_; clear hb hbox hg) | ((with_reducible refine Zt (N := 2) rfl ?_); refine Zs ?hg (N := 2) ?hd (cs := #[.bool false, .slice none 0 0]) (t := 24) ?hr ?_; (case hd => rfl); (case hg => rfl); (case hr => first | (go_simp; done) | (go_simp; rfl)); intro gb291 hg w5 hbox hb; have n0_ := Zb.mk (Zn (g := gb290) (o := .cells #[.bool a0_0, .slice A0_1 l0_1.length c0_1, .int .i64 a0_2] 48 (0, 0)) (by (with_reducible repeat (first | refine Ze ?_ _ | refine Zg ?_ | refine Zf ?_ _)); exact BK290.out) hb); have n1_ := Zb.mk (Zl (by repeat (first | (with_reducible first | exact HB.out | apply Zc | apply Za | apply Zd | refine Zh ?_ GE290.out) | exact HB.out)) hb); have n2_ := Zb.mk (hbox); have n3_ := Zb.mk ((by rw [hg]; exact (Zi (by repeat (first | (with_reducible first | exact HB.out | apply Zc | apply Za | apply Zd | refine Zh ?_ GE290.out) | exact HB.out))) : w.heap.size ≤ gb291)); have n4_ := Zb.mk ((by rw [hg]; exact (Zi (by repeat (first | (with_reducible first | exact HB.out | apply Zc | apply Za | apply Zd | refine Zh ?_ GE290.out) | exact HB.out))) : w.heap.size ≤ gb291)); have n5_ := Zb.mk ((by rw [hg]; exact Nat.ne_of_lt (Zw (g := gb290) (o := .cells #[.bool a0_0, .slice A0_1 l0_1.length c0_1, .int .i64 a0_2] 48 (0, 0)) (by (with_reducible repeat (first | refine Ze ?_ _ | refine Zg ?_ | refine Zf ?_ _)); exact BK290.out)) : gb290 ≠ gb291)); have n6_ := Zb.mk ((by rw [hg]; exact Nat.ne_of_gt (Zw (g := gb290) (o := .cells #[.bool a0_0, .slice A0_1 l0_1.length c0_1, .int .i64 a0_2] 48 (0, 0)) (by (with_reducible repeat (first | refine Ze ?_ _ | refine Zg ?_ | refine Zf ?_ _)); exact BK290.out)) : gb291 ≠ gb290)); clear BK290; clear HB; have BK290 := n0_; have HB := n1_; have BK291 := n2_; have GW291 := n3_; have GE291 := n4_; have NB290_291 := n5_; have NB291_290 := n6_; clear n0_ n1_ n2_ n3_ n4_ n5_ n6_; clear hb hbox hg; have hnb6 := NB290_291.out; have hnc6 := NB291_290.out; have hcz7_0 : w5.cell? ⟨gb290, 0, none⟩ = some (.bool a0_0) := (Zk BK290.out 0).trans rfl; have hcz7_1 : w5.cell? ⟨gb290, 1, none⟩ = some (.slice A0_1 l0_1.length c0_1) := (Zk BK290.out 1).trans rfl; have hcz7_2 : w5.cell? ⟨gb290, 2, none⟩ = some (.int .i64 a0_2) := (Zk BK290.out 2).trans rfl; have hfz7_0 := Zj BK290.out 0; have hfz7_1 := Zj BK290.out 1; have hfz7_2 := Zj BK290.out 2) | ((with_reducible refine Zp (f := 73) rfl ?_); refine ZB (some 8) rfl rfl Try.func73 (by kernel_rfl) rfl #[.agg #[.bool a0_0, .slice A0_1 l0_1.length c0_1, .int .i64 a0_2]] rfl (by (try simp only [List.map_toArray, List.map_cons, List.map_nil]); first | done | rfl | (simp only [List.length_drop, List.length_take]; rfl)) ?_; (with_reducible refine (r00TellInt.calls k a0_0 _ _ l0_1 a0_2 t292 t293 true _ ?side1 ?side2 A2.out).mono ?_); (case side1 => repeat (first | exact (Kd.C_below HR0_1.out HB.out) | (with_reducible refine Kd.ZC ?_ _) | (with_reducible refine Kd.ZF ?_ _) | (with_reducible refine Kd.ZN ?_))); (case side2 => exact HC0_1.out); rintro e w8 ⟨v294, rfl, ho0, hb⟩; refine ⟨_, rfl, ?_⟩; have n0_ := Zb.mk (Kd.ZG ho0 (Zi (by repeat (first | (with_reducible first | exact HB.out | apply Zc | apply Za | apply Zd | refine Zh ?_ GE290.out | refine Zh ?_ GE291.out) | exact HB.out)))); have n1_ := Zb.mk (Zn (g := gb290) (o := .cells #[.bool a0_0, .slice A0_1 l0_1.length c0_1, .int .i64 a0_2] 48 (0, 0)) (by (with_reducible repeat (first | refine Ze ?_ _ | refine Zg ?_ | refine Zf ?_ _)); exact BK290.out) hb); have n2_ := Zb.mk (Zn (g := gb291) (o := .cells #[.bool false, .slice none 0 0] 24 (0, 0)) (by (with_reducible repeat (first | refine Ze ?_ _ | refine Zg ?_ | refine Zf ?_ _)); exact BK291.out) hb); have n3_ := Zb.mk (Zl (by repeat (first | (with_reducible first | exact HB.out | apply Zc | apply Za | apply Zd | refine Zh ?_ GE290.out | refine Zh ?_ GE291.out) | exact HB.out)) hb); clear BK290; clear BK291; clear HB; have HO295 := n0_; have BK290 := n1_; have BK291 := n2_; have HB := n3_; clear n0_ n1_ n2_ n3_; (try clear hb); (try clear hb2); (try clear hk); (try clear hi); (try clear ho0)) | ((with_reducible refine Zt (N := 4) rfl ?_); refine Zs ?hg (N := 4) ?hd (cs := #[.bool false, .slice none 0 0]) (t := 24) ?hr ?_; (case hd => rfl); (case hg => rfl); (case hr => first | (go_simp; done) | (go_simp; rfl)); intro gb297 hg w9 hbox hb; have n0_ := Zb.mk (Kd.Zz (by (with_reducible repeat (first | apply Kd.Zm | apply Kd.Zo)); exact HO295.out) hb); have n1_ := Zb.mk (Zn (g := gb290) (o := .cells #[.bool a0_0, .slice A0_1 l0_1.length c0_1, .int .i64 a0_2] 48 (0, 0)) (by (with_reducible repeat (first | refine Ze ?_ _ | refine Zg ?_ | refine Zf ?_ _)); exact BK290.out) hb); have n2_ := Zb.mk (Zn (g := gb291) (o := .cells #[.bool false, .slice none 0 0] 24 (0, 0)) (by (with_reducible repeat (first | refine Ze ?_ _ | refine Zg ?_ | refine Zf ?_ _)); exact BK291.out) hb); have n3_ := Zb.mk (Zl (by repeat (first | (with_reducible first | exact HB.out | apply Zc | apply Za | apply Zd | refine Zh ?_ GE290.out | refine Zh ?_ GE291.out) | exact HB.out)) hb); have n4_ := Zb.mk (hbox); have n5_ := Zb.mk ((by rw [hg]; exact (Zi (by repeat (first | (with_reducible first | exact HB.out | apply Zc | apply Za | apply Zd | refine Zh ?_ GE290.out | refine Zh ?_ GE291.out) | exact HB.out))) : w.heap.size ≤ gb297)); have n6_ := Zb.mk ((by rw [hg]; exact (Zi (by repeat (first | (with_reducible first | exact HB.out | apply Zc | apply Za | apply Zd | refine Zh ?_ GE290.out | refine Zh ?_ GE291.out) | exact HB.out))) : w.heap.size ≤ gb297)); have n7_ := Zb.mk ((by rw [hg]; exact Nat.ne_of_lt (Zw (g := gb290) (o := .cells #[.bool a0_0, .slice A0_1 l0_1.length c0_1, .int .i64 a0_2] 48 (0, 0)) (by (with_reducible repeat (first | refine Ze ?_ _ | refine Zg ?_ | refine Zf ?_ _)); exact BK290.out)) : gb290 ≠ gb297)); have n8_ := Zb.mk ((by rw [hg]; exact Nat.ne_of_gt (Zw (g := gb290) (o := .cells #[.bool a0_0, .slice A0_1 l0_1.length c0_1, .int .i64 a0_2] 48 (0, 0)) (by (with_reducible repeat (first | refine Ze ?_ _ | refine Zg ?_ | refine Zf ?_ _)); exact BK290.out)) : gb297 ≠ gb290)); have n9_ := Zb.mk ((by rw [hg]; exact Nat.ne_of_lt (Zw (g := gb291) (o := .cells #[.bool false, .slice none 0 0] 24 (0, 0)) (by (with_reducible repeat (first | refine Ze ?_ _ | refine Zg ?_ | refine Zf ?_ _)); exact BK291.out)) : gb291 ≠ gb297)); have n10_ := Zb.mk ((by rw [hg]; exact Nat.ne_of_gt (Zw (g := gb291) (o := .cells #[.bool false, .slice none 0 0] 24 (0, 0)) (by (with_reducible repeat (first | refine Ze ?_ _ | refine Zg ?_ | refine Zf ?_ _)); exact BK291.out)) : gb297 ≠ gb291)); clear HO295; clear BK290; clear BK291; clear HB; have HO295 := n0_; have BK290 := n1_; have BK291 := n2_; have HB := n3_; have BK297 := n4_; have GW297 := n5_; have GE297 := n6_; have NB290_297 := n7_; have NB297_290 := n8_; have NB291_297 := n9_; have NB297_291 := n10_; clear n0_ n1_ n2_ n3_ n4_ n5_ n6_ n7_ n8_ n9_ n10_; clear hb hbox hg; have hnb10 := NB297_290.out; have hnc10 := NB290_297.out; have hnb11 := NB297_291.out; have hnc11 := NB291_297.out; have hcz12_0 : w9.cell? ⟨gb297, 0, none⟩ = some (.bool false) := (Zk BK297.out 0).trans rfl; have hcz12_1 : w9.cell? ⟨gb297, 1, none⟩ = some (.slice none 0 0) := (Zk BK297.out 1).trans rfl; have hfz12_0 := Zj BK297.out 0; have hfz12_1 := Zj BK297.out 1; obtain ⟨Ao13, co13, eo13⟩ := Kd.Zy HO295.out; subst eo13; have hcz14_0 : w9.cell? ⟨gb291, 0, none⟩ = some (.bool false) := (Zk BK291.out 0).trans rfl; have hcz14_1 : w9.cell? ⟨gb291, 1, none⟩ = some (.slice none 0 0) := (Zk BK291.out 1).trans rfl; have hfz14_0 := Zj BK291.out 0; have hfz14_1 := Zj BK291.out 1))
  refine bodyPost_ret (results_ct rfl _ _ gb291 24 #[.bool t292, .slice Ao13 t293.length co13] (0, 0) _ rfl (by (with_reducible repeat (first | refine Ze ?_ _ | refine Zg ?_ | refine Zf ?_ _)); refine Zu (cs := #[.bool t292, .slice none 0 0]) ?_ 1 _ rfl; (with_reducible repeat (first | refine Ze ?_ _ | refine Zg ?_ | refine Zf ?_ _)); refine Zu (cs := #[.bool false, .slice none 0 0]) ?_ 0 _ rfl; (with_reducible repeat (first | refine Ze ?_ _ | refine Zg ?_ | refine Zf ?_ _)); refine Zr ?_ NB291_297.out _; (with_reducible repeat (first | refine Ze ?_ _ | refine Zg ?_ | refine Zf ?_ _)); refine Zr ?_ NB291_297.out _; (with_reducible repeat (first | refine Ze ?_ _ | refine Zg ?_ | refine Zf ?_ _)); exact BK291.out) Try.underlying24 rfl (by kernel_rfl)) rfl ?_
  exact ⟨_, by first | rfl | (simp [errW_none, errW_some] <;> rfl) | (simp [*, errW_none, errW_some] <;> rfl), by (with_reducible repeat (first | apply Kd.Zm | apply Kd.Zo)); exact Kd.ZE (Kd.ZH (p := ⟨gb291, 1, none⟩) (Kd.ZH (p := ⟨gb291, 0, none⟩) (Kd.ZH (p := ⟨gb297, 1, none⟩) (Kd.ZH (p := ⟨gb297, 0, none⟩) (Kd.ZI (Kd.ZI HO295.out BK297.out (by decide)) BK291.out (by decide)) (fun _ hk => hk.1.2) (.bool t292)) (fun _ hk => hk.1.2) (.slice Ao13 t293.length co13)) (fun _ hk => hk.2) (.bool t292)) (fun _ hk => hk.2) (.slice Ao13 t293.length co13)) (fun _ hk => trivial), by repeat (first | (with_reducible first | exact HB.out | apply Zc | apply Za | apply Zd | refine Zh ?_ GE290.out | refine Zh ?_ GE291.out | refine Zh ?_ GE297.out) | exact HB.out)⟩
 ·replace c3 := Bool.eq_false_iff.mpr c3
  subst c3
  have H1 : (some (false, ([] : List Int), 3)) = some (r1, r2, r3) := by rw [if_neg (show ¬ (false = true) by decide)] at H; exact H
  clear H
  have H := H1
  clear H1
  simp only [Option.some.injEq, Prod.mk.injEq] at H
  obtain ⟨rfl, rfl, rfl⟩ := H
  go_enter Try.func51, Try.ntmps51
  go_wp2_with (first | ((with_reducible refine Zt (N := 1) rfl ?_); refine Zs ?hg (N := 1) ?hd (cs := #[.bool a0_0, .slice A0_1 l0_1.length c0_1, .int .i64 a0_2]) (t := 48) ?hr ?_; (case hd => rfl); (case hg => rfl); (case hr => first | (go_simp; done) | (go_simp; rfl)); intro gb290 hg w15 hbox hb; have n0_ := Zb.mk (Zl (by repeat (first | (with_reducible first | exact HB.out | apply Zc | apply Za | apply Zd) | exact HB.out)) hb); have n1_ := Zb.mk (hbox); have n2_ := Zb.mk ((by rw [hg]; exact (Zi (by repeat (first | (with_reducible first | exact HB.out | apply Zc | apply Za | apply Zd) | exact HB.out))) : w.heap.size ≤ gb290)); have n3_ := Zb.mk ((by rw [hg]; exact (Zi (by repeat (first | (with_reducible first | exact HB.out | apply Zc | apply Za | apply Zd) | exact HB.out))) : w.heap.size ≤ gb290)); clear HB; have HB := n0_; have BK290 := n1_; have GW290 := n2_; have GE290 := n3_; clear n0_ n1_ n2_ n3_; clear hb hbox hg) | ((with_reducible refine Zt (N := 2) rfl ?_); refine Zs ?hg (N := 2) ?hd (cs := #[.bool false, .slice none 0 0]) (t := 24) ?hr ?_; (case hd => rfl); (case hg => rfl); (case hr => first | (go_simp; done) | (go_simp; rfl)); intro gb291 hg w16 hbox hb; have n0_ := Zb.mk (Zn (g := gb290) (o := .cells #[.bool a0_0, .slice A0_1 l0_1.length c0_1, .int .i64 a0_2] 48 (0, 0)) (by (with_reducible repeat (first | refine Ze ?_ _ | refine Zg ?_ | refine Zf ?_ _)); exact BK290.out) hb); have n1_ := Zb.mk (Zl (by repeat (first | (with_reducible first | exact HB.out | apply Zc | apply Za | apply Zd | refine Zh ?_ GE290.out) | exact HB.out)) hb); have n2_ := Zb.mk (hbox); have n3_ := Zb.mk ((by rw [hg]; exact (Zi (by repeat (first | (with_reducible first | exact HB.out | apply Zc | apply Za | apply Zd | refine Zh ?_ GE290.out) | exact HB.out))) : w.heap.size ≤ gb291)); have n4_ := Zb.mk ((by rw [hg]; exact (Zi (by repeat (first | (with_reducible first | exact HB.out | apply Zc | apply Za | apply Zd | refine Zh ?_ GE290.out) | exact HB.out))) : w.heap.size ≤ gb291)); have n5_ := Zb.mk ((by rw [hg]; exact Nat.ne_of_lt (Zw (g := gb290) (o := .cells #[.bool a0_0, .slice A0_1 l0_1.length c0_1, .int .i64 a0_2] 48 (0, 0)) (by (with_reducible repeat (first | refine Ze ?_ _ | refine Zg ?_ | refine Zf ?_ _)); exact BK290.out)) : gb290 ≠ gb291)); have n6_ := Zb.mk ((by rw [hg]; exact Nat.ne_of_gt (Zw (g := gb290) (o := .cells #[.bool a0_0, .slice A0_1 l0_1.length c0_1, .int .i64 a0_2] 48 (0, 0)) (by (with_reducible repeat (first | refine Ze ?_ _ | refine Zg ?_ | refine Zf ?_ _)); exact BK290.out)) : gb291 ≠ gb290)); clear BK290; clear HB; have BK290 := n0_; have HB := n1_; have BK291 := n2_; have GW291 := n3_; have GE291 := n4_; have NB290_291 := n5_; have NB291_290 := n6_; clear n0_ n1_ n2_ n3_ n4_ n5_ n6_; clear hb hbox hg; have hnb17 := NB290_291.out; have hnc17 := NB291_290.out; have hcz18_0 : w16.cell? ⟨gb290, 0, none⟩ = some (.bool a0_0) := (Zk BK290.out 0).trans rfl; have hcz18_1 : w16.cell? ⟨gb290, 1, none⟩ = some (.slice A0_1 l0_1.length c0_1) := (Zk BK290.out 1).trans rfl; have hcz18_2 : w16.cell? ⟨gb290, 2, none⟩ = some (.int .i64 a0_2) := (Zk BK290.out 2).trans rfl; have hfz18_0 := Zj BK290.out 0; have hfz18_1 := Zj BK290.out 1; have hfz18_2 := Zj BK290.out 2) | ((with_reducible refine Zp (f := 73) rfl ?_); refine ZB (some 8) rfl rfl Try.func73 (by kernel_rfl) rfl #[.agg #[.bool a0_0, .slice A0_1 l0_1.length c0_1, .int .i64 a0_2]] rfl (by (try simp only [List.map_toArray, List.map_cons, List.map_nil]); first | done | rfl | (simp only [List.length_drop, List.length_take]; rfl)) ?_; (with_reducible refine (r00TellInt.calls k a0_0 _ _ l0_1 a0_2 t292 t293 false _ ?side1 ?side2 A2.out).mono ?_); (case side1 => repeat (first | exact (Kd.C_below HR0_1.out HB.out) | (with_reducible refine Kd.ZC ?_ _) | (with_reducible refine Kd.ZF ?_ _) | (with_reducible refine Kd.ZN ?_))); (case side2 => exact HC0_1.out); rintro e w19 ⟨v294, rfl, ho0, hb⟩; refine ⟨_, rfl, ?_⟩; have n0_ := Zb.mk (Kd.ZG ho0 (Zi (by repeat (first | (with_reducible first | exact HB.out | apply Zc | apply Za | apply Zd | refine Zh ?_ GE290.out | refine Zh ?_ GE291.out) | exact HB.out)))); have n1_ := Zb.mk (Zn (g := gb290) (o := .cells #[.bool a0_0, .slice A0_1 l0_1.length c0_1, .int .i64 a0_2] 48 (0, 0)) (by (with_reducible repeat (first | refine Ze ?_ _ | refine Zg ?_ | refine Zf ?_ _)); exact BK290.out) hb); have n2_ := Zb.mk (Zn (g := gb291) (o := .cells #[.bool false, .slice none 0 0] 24 (0, 0)) (by (with_reducible repeat (first | refine Ze ?_ _ | refine Zg ?_ | refine Zf ?_ _)); exact BK291.out) hb); have n3_ := Zb.mk (Zl (by repeat (first | (with_reducible first | exact HB.out | apply Zc | apply Za | apply Zd | refine Zh ?_ GE290.out | refine Zh ?_ GE291.out) | exact HB.out)) hb); clear BK290; clear BK291; clear HB; have HO295 := n0_; have BK290 := n1_; have BK291 := n2_; have HB := n3_; clear n0_ n1_ n2_ n3_; (try clear hb); (try clear hb2); (try clear hk); (try clear hi); (try clear ho0)) | ((with_reducible refine Zt (N := 4) rfl ?_); refine Zs ?hg (N := 4) ?hd (cs := #[.bool false, .slice none 0 0]) (t := 24) ?hr ?_; (case hd => rfl); (case hg => rfl); (case hr => first | (go_simp; done) | (go_simp; rfl)); intro gb297 hg w20 hbox hb; have n0_ := Zb.mk (Kd.Zz (by (with_reducible repeat (first | apply Kd.Zm | apply Kd.Zo)); exact HO295.out) hb); have n1_ := Zb.mk (Zn (g := gb290) (o := .cells #[.bool a0_0, .slice A0_1 l0_1.length c0_1, .int .i64 a0_2] 48 (0, 0)) (by (with_reducible repeat (first | refine Ze ?_ _ | refine Zg ?_ | refine Zf ?_ _)); exact BK290.out) hb); have n2_ := Zb.mk (Zn (g := gb291) (o := .cells #[.bool false, .slice none 0 0] 24 (0, 0)) (by (with_reducible repeat (first | refine Ze ?_ _ | refine Zg ?_ | refine Zf ?_ _)); exact BK291.out) hb); have n3_ := Zb.mk (Zl (by repeat (first | (with_reducible first | exact HB.out | apply Zc | apply Za | apply Zd | refine Zh ?_ GE290.out | refine Zh ?_ GE291.out) | exact HB.out)) hb); have n4_ := Zb.mk (hbox); have n5_ := Zb.mk ((by rw [hg]; exact (Zi (by repeat (first | (with_reducible first | exact HB.out | apply Zc | apply Za | apply Zd | refine Zh ?_ GE290.out | refine Zh ?_ GE291.out) | exact HB.out))) : w.heap.size ≤ gb297)); have n6_ := Zb.mk ((by rw [hg]; exact (Zi (by repeat (first | (with_reducible first | exact HB.out | apply Zc | apply Za | apply Zd | refine Zh ?_ GE290.out | refine Zh ?_ GE291.out) | exact HB.out))) : w.heap.size ≤ gb297)); have n7_ := Zb.mk ((by rw [hg]; exact Nat.ne_of_lt (Zw (g := gb290) (o := .cells #[.bool a0_0, .slice A0_1 l0_1.length c0_1, .int .i64 a0_2] 48 (0, 0)) (by (with_reducible repeat (first | refine Ze ?_ _ | refine Zg ?_ | refine Zf ?_ _)); exact BK290.out)) : gb290 ≠ gb297)); have n8_ := Zb.mk ((by rw [hg]; exact Nat.ne_of_gt (Zw (g := gb290) (o := .cells #[.bool a0_0, .slice A0_1 l0_1.length c0_1, .int .i64 a0_2] 48 (0, 0)) (by (with_reducible repeat (first | refine Ze ?_ _ | refine Zg ?_ | refine Zf ?_ _)); exact BK290.out)) : gb297 ≠ gb290)); have n9_ := Zb.mk ((by rw [hg]; exact Nat.ne_of_lt (Zw (g := gb291) (o := .cells #[.bool false, .slice none 0 0] 24 (0, 0)) (by (with_reducible repeat (first | refine Ze ?_ _ | refine Zg ?_ | refine Zf ?_ _)); exact BK291.out)) : gb291 ≠ gb297)); have n10_ := Zb.mk ((by rw [hg]; exact Nat.ne_of_gt (Zw (g := gb291) (o := .cells #[.bool false, .slice none 0 0] 24 (0, 0)) (by (with_reducible repeat (first | refine Ze ?_ _ | refine Zg ?_ | refine Zf ?_ _)); exact BK291.out)) : gb297 ≠ gb291)); clear HO295; clear BK290; clear BK291; clear HB; have HO295 := n0_; have BK290 := n1_; have BK291 := n2_; have HB := n3_; have BK297 := n4_; have GW297 := n5_; have GE297 := n6_; have NB290_297 := n7_; have NB297_290 := n8_; have NB291_297 := n9_; have NB297_291 := n10_; clear n0_ n1_ n2_ n3_ n4_ n5_ n6_ n7_ n8_ n9_ n10_; clear hb hbox hg; have hnb21 := NB297_290.out; have hnc21 := NB290_297.out; have hnb22 := NB297_291.out; have hnc22 := NB291_297.out; have hcz23_0 : w20.cell? ⟨gb297, 0, none⟩ = some (.bool false) := (Zk BK297.out 0).trans rfl; have hcz23_1 : w20.cell? ⟨gb297, 1, none⟩ = some (.slice none 0 0) := (Zk BK297.out 1).trans rfl; have hfz23_0 := Zj BK297.out 0; have hfz23_1 := Zj BK297.out 1; obtain ⟨Ao24, co24, eo24⟩ := Kd.Zy HO295.out; subst eo24; have hcz25_0 : w20.cell? ⟨gb291, 0, none⟩ = some (.bool false) := (Zk BK291.out 0).trans rfl; have hcz25_1 : w20.cell? ⟨gb291, 1, none⟩ = some (.slice none 0 0) := (Zk BK291.out 1).trans rfl; have hfz25_0 := Zj BK291.out 0; have hfz25_1 := Zj BK291.out 1))
  refine bodyPost_ret (results_ct rfl _ _ gb291 24 #[.bool false, .slice none 0 0] (0, 0) _ rfl (by (with_reducible repeat (first | refine Ze ?_ _ | refine Zg ?_ | refine Zf ?_ _)); refine Zu (cs := #[.bool false, .slice none 0 0]) ?_ 1 _ rfl; (with_reducible repeat (first | refine Ze ?_ _ | refine Zg ?_ | refine Zf ?_ _)); refine Zu (cs := #[.bool false, .slice none 0 0]) ?_ 0 _ rfl; (with_reducible repeat (first | refine Ze ?_ _ | refine Zg ?_ | refine Zf ?_ _)); refine Zr ?_ NB291_297.out _; (with_reducible repeat (first | refine Ze ?_ _ | refine Zg ?_ | refine Zf ?_ _)); refine Zr ?_ NB291_297.out _; (with_reducible repeat (first | refine Ze ?_ _ | refine Zg ?_ | refine Zf ?_ _)); exact BK291.out) Try.underlying24 rfl (by kernel_rfl)) rfl ?_
  exact ⟨_, by first | rfl | (simp [errW_none, errW_some] <;> rfl) | (simp [*, errW_none, errW_some] <;> rfl), by first | exact Kd.R_nil _ _ _ _ _ | exact Kd.V_nil _ _ _ _ _ | exact Kd.S_nil _ _ _ _ _, by repeat (first | (with_reducible first | exact HB.out | apply Zc | apply Za | apply Zd | refine Zh ?_ GE290.out | refine Zh ?_ GE291.out | refine Zh ?_ GE297.out) | exact HB.out)⟩
end Go.Proofs.Ytokmpejgfkfmbaa.BB
end

/- Part of the proof that what is read twice of the text of a number of at most 40 limbs lies apart, spare room and all, and what is read a third time is what was read first. -/
import Derived.WalkSpells
import Derived.Test.YtbmddlldadbfnaaCG3
section
namespace Go.Proofs.Ytbmddlldadbfnaa.BA
open Go.RowKit Go.Proofs.YtbmddlldadbfnaaW.PrintWords Go.Proofs.YtbmddlldadbfnaaW.PrintLast Go.Proofs.YtbmddlldadbfnaaW.PrintMore
attribute [local go_sem] ZU ZS max_two min_two ZP ZO ZT ZR
set_option linter.unusedVariables false
set_option linter.unusedSimpArgs false
theorem big_apart {α : Type} {d : Kd α} {e : Nat} {w1 : World} {B g : Nat} {ok : Nat → Prop} {v : Value} {xs : List α} (hg : g < B) (ho : Kd.R d e w1 B ok v xs) : ∀ k, some k = v.ownBlock → k ≠ g := by
 intro k hk
 obtain ⟨_, cs, hown, _⟩ := ho
 have := own_base hown k hk.symm
 omega
theorem PutPost.after {w w1 w' : World} {g : Nat} {n : Bool} {r : List Int} (h : PutPost w1 w' g n r) (hb : Below w.heap.size w w1) : PutPost w w' g n r := by
 obtain ⟨h0, hk, h1, h2, h3⟩ := h
 exact ⟨h0, (KeepBut.of_below hb g none).trans hk (.inl rfl), h1.trans hb.os, h2.trans hb.tape, h3.trans hb.output⟩
def bISetBytes.l0 : Nat → List Int → List Int → Int → Int → Option (List Int)
 | 0, _, _, _, _ => none
 | k + 1, x1, x5, x14, x15 => if x15 < x14 then (if 0 ≤ (wrap64 (Int.tdiv (wrap64 ((wrap64 ((x1.length : Int) - 1)) - x15)) 8)) then (if (wrap64 (Int.tdiv (wrap64 ((wrap64 ((x1.length : Int) - 1)) - x15)) 8)) < (x5.length : Int) then (if 0 ≤ x15 then (if x15 < (x1.length : Int) then (if 0 ≤ (wrap64 (8 * (Int.tmod (wrap64 ((wrap64 ((x1.length : Int) - 1)) - x15)) 8))) then (bISetBytes.l0 k x1 (x5.set ((wrap64 (Int.tdiv (wrap64 ((wrap64 ((x1.length : Int) - 1)) - x15)) 8)) : Int).toNat (Go.bits .or .u64 (rd x5 (wrap64 (Int.tdiv (wrap64 ((wrap64 ((x1.length : Int) - 1)) - x15)) 8))) (shl .u64 (IntKind.u64.wrap (rd x1 x15)) (wrap64 (8 * (Int.tmod (wrap64 ((wrap64 ((x1.length : Int) - 1)) - x15)) 8)))))) x14 (wrap64 (x15 + 1))) else (none)) else (none)) else (none)) else (none)) else (none)) else (some x5)
def bISetBytes.f (k : Nat) (_a0 : Int) (l1 : List Int) : Option (List Int) := if 0 ≤ (wrap64 ((wrap64 ((l1.length : Int) / 8)) + 1)) then (if (wrap64 ((wrap64 ((l1.length : Int) / 8)) + 1) : Int).toNat ≤ 35184372088832 then (bISetBytes.l0 k l1 (List.replicate (wrap64 ((wrap64 ((l1.length : Int) / 8)) + 1) : Int).toNat 0) (l1.length : Int) 0) else (none)) else (none)
theorem bISetBytes.mono_l : ∀ k, (∀ y0 y1 y2 y3, LeO (bISetBytes.l0 k y0 y1 y2 y3) (bISetBytes.l0 (k + 1) y0 y1 y2 y3))
 | 0 => fun _ _ _ _ r h => by simp [bISetBytes.l0] at h
 | k + 1 => by
  have ih0 := bISetBytes.mono_l k
  ·intro y0 y1 y2 y3
   unfold bISetBytes.l0
   repeat' first
   | (with_reducible exact ih0 _ _ _ _)
   | (with_reducible exact LeO.refl _)
   | (with_reducible exact LeO.none _)
   | (with_reducible refine LeO.ite ?_ ?_)
   | (with_reducible refine LeO.bind ?_ (fun _ => ?_))
   | exact ih0 _ _ _ _
   | exact LeO.none _
   | refine LeO.ite ?_ ?_
   | refine LeO.bind ?_ (fun _ => ?_)
theorem bISetBytes.mono : ∀ a0 a1 k, LeO (bISetBytes.f k a0 a1) (bISetBytes.f (k + 1) a0 a1) := by
 intro a0 a1 k
 have ih0 := bISetBytes.mono_l k
 unfold bISetBytes.f
 repeat' first
   | (with_reducible exact ih0 _ _ _ _)
   | (with_reducible exact LeO.refl _)
   | (with_reducible exact LeO.none _)
   | (with_reducible refine LeO.ite ?_ ?_)
   | (with_reducible refine LeO.bind ?_ (fun _ => ?_))
   | exact ih0 _ _ _ _
   | exact LeO.none _
   | refine LeO.ite ?_ ?_
   | refine LeO.bind ?_ (fun _ => ?_)
def bISetBytes.T6 : Bool × List (List Nat × List Nat) := (true, [([], []), ([], []), ([1], [1]), ([0, 2], [0, 2]), ([3], [3]), ([], []), ([], []), ([5, 6], [5, 6]), ([7], [7]), ([8], [8]), ([], []), ([10], [10]), ([11], [11]), ([9, 12], [9, 12]), ([4, 13], [4, 13]), ([0, 2, 0, 1, 2, 3, 4, 5, 6, 7, 8, 9, 10, 11, 12, 13, 14], [0, 2]), ([15, 14, 0, 1, 2, 3, 4, 5, 6, 7, 8, 9, 10, 11, 12, 13, 14], [14, 15])])
def bISetBytes.B6 : List Nat := [0, 0, 2, 7, 15, 0, 0, 96, 224, 480, 0, 1024, 3072, 8160, 16383, 32767, 65535]
theorem bISetBytes.tab6 : rtab .any (opsOf Try.f114 6) = bISetBytes.T6 := by kernel_rfl
theorem bISetBytes.bits6 : waitsOk bISetBytes.T6.2 bISetBytes.B6 = true := by kernel_rfl
set_option maxHeartbeats 8000000 in
set_option maxRecDepth 100000 in
theorem bISetBytes.calls (g : Nat) (f0 : Bool) (vo : Value) (k : Nat) (a0 : Int) (A1 : Option Addr) (c1 : Nat) (l1 : List Int) (r r2 : List Int) (w : World) (hg : w.heap[g]? = some (.cells #[.bool f0, vo] 74 (0, 0))) (hr1 : Kd.C (Kd.int .u8) w A1 l1.length l1) (hc1 : l1.length ≤ c1) (h : bISetBytes.f k a0 l1 = some r) (h2 : big_trim.f k r = some r2) :
  Calls Try.prog 114 #[.pointer (some ⟨g, 0, none⟩), .slice A1 l1.length c1] w fun e w' => e = .returned (.pointer (some ⟨g, 0, none⟩)) ∧ PutPost w w' g false r2 := by
 have HG := Zb.mk hg
 have HT2 := Zb.mk h2
 clear hg h2
 have HR1 := Zb.mk hr1
 have HC1 := Zb.mk hc1
 clear hr1 hc1
 have HB := Zb.mk (Below.refl w.heap.size w)
 have H : (if 0 ≤ (wrap64 ((wrap64 ((l1.length : Int) / 8)) + 1)) then (if (wrap64 ((wrap64 ((l1.length : Int) / 8)) + 1) : Int).toNat ≤ 35184372088832 then (bISetBytes.l0 k l1 (List.replicate (wrap64 ((wrap64 ((l1.length : Int) / 8)) + 1) : Int).toNat 0) (l1.length : Int) 0) else (none)) else (none)) = some r := h
 clear h
 obtain ⟨ji3, hji3⟩ : ∃ j_ : Int, (wrap64 ((wrap64 ((l1.length : Int) / 8)) + 1)) = j_ := ⟨_, rfl⟩
 replace H : (if 0 ≤ (ji3) then (if (ji3 : Int).toNat ≤ 35184372088832 then (bISetBytes.l0 k l1 (List.replicate (ji3 : Int).toNat 0) (l1.length : Int) 0) else (none)) else (none)) = some r := by first | (rw [hji3] at H; exact H) | (simp only [hji3] at H ⊢; exact H)
 have hji3w : (IntKind.i64.wrap ((wrap64 ((l1.length : Int) / 8)) + 1)) = ji3 := (Zx _).trans hji3
 by_cases c4 : 0 ≤ (ji3)
 ·rw [if_pos c4] at H
  have c4b0 := eq_true c4
  have c4b1 : decide (0 ≤ (ji3)) = true := decide_eq_true c4
  clear c4
  by_cases c5 : (ji3 : Int).toNat ≤ 35184372088832
  ·rw [if_pos c5] at H
   have c5b0 := eq_true c5
   have c5b1 : decide ((ji3 : Int).toNat ≤ 35184372088832) = true := decide_eq_true c5
   clear c5
   obtain ⟨y101, hy101⟩ : ∃ y_ : List Int, y_ = (List.replicate (ji3 : Int).toNat 0) := ⟨_, rfl⟩
   replace H : (bISetBytes.l0 k l1 y101 (l1.length : Int) 0) = some r := by first | (rw [hy101]; with_reducible exact H) | (have H2_ := (Option.bind_some _ _).symm.trans H; rw [hy101]; with_reducible exact H2_) | (have H2_ := (Option.bind_some _ _).symm.trans H; with_reducible exact H2_) | with_reducible exact H | (rw [hy101]; exact H) | exact H
   have Ny101 := Zb.mk hy101
   clear hy101
   have H' := Zb.mk H
   clear H
   go_enter Try.func114, Try.ntmps114
   go_wp2_with (first | ((with_reducible refine Zt (N := 12) rfl ?_); refine Kd.R_make (Kd.int .u64) _ 46 rfl (N := 12) rfl 22 _ _ rfl ji3 rfl rfl Try.underlying22 (.int .u64 0) 8 info46 rfl (by decide) (by omega) 0 (ok := fun _ => True) (okp := fun _ => True) rfl (fun _ hk => hk) trivial (of_decide_eq_true (by first | (with_reducible assumption) | assumption)) (Nat.le_trans (Nat.mul_le_mul_right _ (of_decide_eq_true (by first | (with_reducible assumption) | assumption) : ji3.toNat ≤ 35184372088832)) (by omega)) (Below.refl _ _) (Nat.le_refl _) ?_; intro v102 w6 ho7 hb hg_ hnew_; clear hg_ hnew_; (first | rw [← Ny101.out] at ho7 | (simp only [Int.reduceToNat] at ho7; rw [← Ny101.out] at ho7)); have n0_ := Zb.mk (Kd.ZG ho7 (Zi (by repeat (with_reducible first | exact HB.out | apply Zc | apply Za | apply Zd)))); have n1_ := Zb.mk (Zl (by repeat (with_reducible first | exact HB.out | apply Zc | apply Za | apply Zd)) hb); clear HB; have HO103 := n0_; have HB := n1_; clear n0_ n1_; clear hb ho7))
   go_loopg [15] k (fun kq v15 w' => ∃ (x5_1 : List Int) (x15_1 : Int), v15 = .int .i64 x15_1 ∧ Zb (bISetBytes.l0 kq l1 x5_1 (l1.length : Int) x15_1 = some r) ∧ Zb (kq ≤ k) ∧ Zb (Kd.R (Kd.int .u64) 46 w' w.heap.size (fun _ => True) v102 x5_1) ∧ Zb (Below w.heap.size w w'))
   case atStart => exact ⟨(y101), (0), (by first | rfl | (simp; done) | (simp [*]; done)), H', ⟨Nat.le_refl _⟩, ⟨by (with_reducible repeat first | apply Kd.Zm | apply Kd.Zo); exact HO103.out⟩, ⟨by repeat (with_reducible first | exact HB.out | apply Zc | apply Za | apply Zd)⟩⟩
   case round =>
    clear H'
    try clear c1
    try clear p2
    try clear c4
    try clear c4b0
    try clear c4b1
    try clear c5
    try clear c5b0
    try clear c5b1
    try clear p6
    obtain ⟨x5_1, x15_1, rfl, HA, HK1, HO_5, HB⟩ := hrel
    cases gk with
    | zero => exact absurd HA.out (by simp [bISetBytes.l0])
    | succ k1 =>
     have H := HA.out
     clear HA
     simp only [bISetBytes.l0] at H
     by_cases c8 : x15_1 < (l1.length : Int)
     ·rw [if_pos c8] at H
      have c8b0 : decide (x15_1 < (l1.length : Int)) = true := decide_eq_true c8
      clear c8
      obtain ⟨ji9, hji9⟩ : ∃ j_ : Int, (wrap64 (Int.tdiv (wrap64 ((wrap64 ((l1.length : Int) - 1)) - x15_1)) 8)) = j_ := ⟨_, rfl⟩
      replace H : (if 0 ≤ (ji9) then (if (ji9) < (x5_1.length : Int) then (if 0 ≤ x15_1 then (if x15_1 < (l1.length : Int) then (if 0 ≤ (wrap64 (8 * (Int.tmod (wrap64 ((wrap64 ((l1.length : Int) - 1)) - x15_1)) 8))) then (bISetBytes.l0 k1 l1 (x5_1.set ((ji9) : Int).toNat (Go.bits .or .u64 (rd x5_1 (ji9)) (shl .u64 (IntKind.u64.wrap (rd l1 x15_1)) (wrap64 (8 * (Int.tmod (wrap64 ((wrap64 ((l1.length : Int) - 1)) - x15_1)) 8)))))) (l1.length : Int) (wrap64 (x15_1 + 1))) else (none)) else (none)) else (none)) else (none)) else (none)) = some r := by first | (rw [hji9] at H; exact H) | (simp only [hji9] at H ⊢; exact H)
      have hji9w : (IntKind.i64.wrap (Int.tdiv (wrap64 ((wrap64 ((l1.length : Int) - 1)) - x15_1)) 8)) = ji9 := (Zx _).trans hji9
      by_cases c10 : 0 ≤ (ji9)
      ·rw [if_pos c10] at H
       have c10b0 : decide (0 ≤ (ji9)) = true := decide_eq_true c10
       clear c10
       by_cases c11 : (ji9) < (x5_1.length : Int)
       ·rw [if_pos c11] at H
        have c11b0 : decide ((ji9) < (x5_1.length : Int)) = true := decide_eq_true c11
        clear c11
        by_cases c12 : 0 ≤ x15_1
        ·rw [if_pos c12] at H
         have c12b0 : decide (0 ≤ x15_1) = true := decide_eq_true c12
         clear c12
         by_cases c13 : x15_1 < (l1.length : Int)
         ·rw [if_pos c13] at H
          have c13b0 : decide (x15_1 < (l1.length : Int)) = true := decide_eq_true c13
          clear c13
          obtain ⟨ji14, hji14⟩ : ∃ j_ : Int, (wrap64 (8 * (Int.tmod (wrap64 ((wrap64 ((l1.length : Int) - 1)) - x15_1)) 8))) = j_ := ⟨_, rfl⟩
          replace H : (if 0 ≤ (ji14) then (bISetBytes.l0 k1 l1 (x5_1.set ((ji9) : Int).toNat (Go.bits .or .u64 (rd x5_1 (ji9)) (shl .u64 (IntKind.u64.wrap (rd l1 x15_1)) (ji14)))) (l1.length : Int) (wrap64 (x15_1 + 1))) else (none)) = some r := by first | (rw [hji14] at H; exact H) | (simp only [hji14] at H ⊢; exact H)
          have hji14w : (IntKind.i64.wrap (8 * (Int.tmod (wrap64 ((wrap64 ((l1.length : Int) - 1)) - x15_1)) 8))) = ji14 := (Zx _).trans hji14
          by_cases c15 : 0 ≤ (ji14)
          ·rw [if_pos c15] at H
           have c15b0 := eq_true c15
           have c15b1 : decide (0 ≤ (ji14)) = true := decide_eq_true c15
           clear c15
           obtain ⟨ji16, hji16⟩ : ∃ j_ : Int, (shl .u64 (IntKind.u64.wrap (rd l1 x15_1)) (ji14)) = j_ := ⟨_, rfl⟩
           replace H : (bISetBytes.l0 k1 l1 (x5_1.set ((ji9) : Int).toNat (Go.bits .or .u64 (rd x5_1 (ji9)) (ji16))) (l1.length : Int) (wrap64 (x15_1 + 1))) = some r := by first | (rw [hji16] at H; exact H) | (simp only [hji16] at H ⊢; exact H)
           have hji16_ : (IntKind.u64.wrap ((IntKind.u64.wrap (rd l1 x15_1)) * 2 ^ min (ji14).toNat 64)) = ji16 := hji16
           have hji16z : (ji14) ≤ 64 → (IntKind.u64.wrap ((IntKind.u64.wrap (rd l1 x15_1)) * 2 ^ (ji14).toNat)) = ji16 := shl_small hji16
           obtain ⟨y106, hy106⟩ : ∃ y_ : List Int, y_ = (x5_1.set ((ji9) : Int).toNat (Go.bits .or .u64 (rd x5_1 (ji9)) (ji16))) := ⟨_, rfl⟩
           replace H : (bISetBytes.l0 k1 l1 y106 (l1.length : Int) (wrap64 (x15_1 + 1))) = some r := by first | (rw [hy106]; with_reducible exact H) | (have H2_ := (Option.bind_some _ _).symm.trans H; rw [hy106]; with_reducible exact H2_) | (have H2_ := (Option.bind_some _ _).symm.trans H; with_reducible exact H2_) | with_reducible exact H | (rw [hy106]; exact H) | exact H
           have Ny106 := Zb.mk hy106
           clear hy106
           have H' := Zb.mk H
           clear H
           try go_wp2
           have n0_ := Zb.mk (Kd.Zo HO_5.out)
           have n1_ := Zb.mk (Zd HB.out)
           clear HO_5
           clear HB
           have HO_5 := n0_
           have HB := n1_
           clear n0_ n1_
           obtain ⟨Ao19, co19, eo19⟩ := Kd.Zy HO_5.out
           (first | subst eo19 | (injection eo19 with f1_ f2_ f3_; have f4_ := f1_.symm; have f5_ := f3_.symm; clear f1_ f2_ f3_; subst f4_; subst f5_))
           have p104 : 0 ≤ ((ji9) : Int) := of_decide_eq_true (by first | (with_reducible assumption) | assumption)
           have q104 : (ji9) < (x5_1.length : Int) := of_decide_eq_true (by first | (with_reducible assumption) | assumption)
           obtain ⟨ad104, e104, hx104_0⟩ := Kd.at_int (Kd.Zv HO_5.out).2.2 (ji9) p104 q104
           cases e104
           replace p104 := eq_true p104
           replace q104 := eq_true q104
           have p105 : 0 ≤ (x15_1 : Int) := of_decide_eq_true (by first | (with_reducible assumption) | assumption)
           have q105 : x15_1 < (l1.length : Int) := of_decide_eq_true (by first | (with_reducible assumption) | assumption)
           obtain ⟨ad105, e105, hx105_0⟩ := Kd.at_int HR1.out x15_1 p105 q105
           have hw105_0 := hx105_0
           cases e105
           replace hx105_0 := (HB.out.cell (World.block_lt_of_cell? w _ hx105_0)).trans hx105_0
           replace p105 := eq_true p105
           replace q105 := eq_true q105
           have p17 : 0 ≤ ((ji9) : Int) := of_decide_eq_true (by first | (with_reducible assumption) | assumption)
           have q17 : ((ji9) : Int) < ((x5_1.length : Int) : Int) := of_decide_eq_true (by first | (with_reducible assumption) | assumption)
           obtain ⟨go17, co17, eo17, gb17, gl17, cl17, HG17⟩ := Kd.R_form HO_5.out (by omega)
           (first | cases eo17 | (injection eo17 with ea_ en_ ec_; (first | subst ea_ | (injection ea_ with ea_; subst ea_)); subst ec_; clear en_))
           have GB17 := Zb.mk gb17
           have GG17 := Zb.mk HG17
           clear gb17 gl17 HG17
           (first | simp only [add_plain] at hx104_0 | skip)
           obtain ⟨hx17_0, hf17_0⟩ := Kd.R_celln 0 HO_5.out ((ji9) : Int) p17 q17
           replace p17 := eq_true p17
           replace q17 := eq_true q17
           have HP20 := Kd.R_putn HO_5.out ((ji9) : Int) (Go.bits .or .u64 (rd x5_1 (ji9)) (ji16))
           rw [← Ny106.out] at HP20
           have HQ20 := Zb.mk HP20
           clear HP20
           refine start_ (n := 17) (S := fun w' => w'.cell? ⟨go17, ((ji9)).toNat, none⟩ = some (.int .u64 (rd x5_1 (ji9))) ∧ w'.cell? (ad105.add (x15_1).toNat) = some (.int .u8 (rd l1 x15_1))) (ds := [16]) #[false, false, false, false, false, false, false, false, false, false, false, false, false, false, false, false, false] (by kernel_rfl) rfl rfl ⟨hx104_0, ((HB.out.cell (World.block_lt_of_cell? w _ hw105_0)).trans hw105_0)⟩ (fun hHeld => ?_); refine with_tabW bISetBytes.tab6 bISetBytes.bits6 (fun HT_ HW_ => ?_)
           generalize wr.drew = w18 at HO_5 HB GG17 HQ20 hf17_0 hx104_0 hx105_0 hx17_0 hHeld ⊢
           refine ZM (i := 0) (N := some 23) (v := ?_) (a' := ?_) #[true, false, false, false, false, false, false, false, false, false, false, false, false, false, false, false, false] rfl rfl (ZD HT_.out (by kernel_rfl)) (fun _ _ _ h => h) (Or.inl ⟨by rfl, ?_⟩) ?_ ?_
           rotate_left
           ·intro w'
            go_simp
            with_reducible rfl
           rotate_left
           ·simp only [Act.put, List.setIfInBounds_toArray, List.set_cons_zero, List.set_cons_succ, Zx, ZA]
            rfl
           refine ZM (i := 1) (N := some 24) (v := ?_) (a' := ?_) #[true, true, false, false, false, false, false, false, false, false, false, false, false, false, false, false, false] rfl rfl (ZD HT_.out (by kernel_rfl)) (fun _ _ _ h => h) (Or.inl ⟨by rfl, ?_⟩) ?_ ?_
           rotate_left
           ·intro w'
            go_simp
            with_reducible rfl
           rotate_left
           ·simp only [Act.put, List.setIfInBounds_toArray, List.set_cons_zero, List.set_cons_succ, Zx, ZA]
            rfl
           refine ZM (i := 2) (N := some 25) (v := ?_) (a' := ?_) #[true, true, true, false, false, false, false, false, false, false, false, false, false, false, false, false, false] rfl rfl (ZD HT_.out (by kernel_rfl)) (fun _ _ _ h => h) (Or.inl ⟨by rfl, ?_⟩) ?_ ?_
           rotate_left
           ·intro w'
            go_simp
            with_reducible rfl
           rotate_left
           ·simp only [Act.put, List.setIfInBounds_toArray, List.set_cons_zero, List.set_cons_succ, Zx, ZA]
            rfl
           refine ZM (i := 3) (N := some 26) (v := ?_) (a' := ?_) #[true, true, true, true, false, false, false, false, false, false, false, false, false, false, false, false, false] rfl rfl (ZD HT_.out (by kernel_rfl)) (fun _ _ _ h => h) (Or.inl ⟨by rfl, ?_⟩) ?_ ?_
           rotate_left
           ·intro w'
            go_simp
            with_reducible rfl
           rotate_left
           ·simp only [Act.put, List.setIfInBounds_toArray, List.set_cons_zero, List.set_cons_succ, Zx, ZA]
            rfl
           refine ZM (i := 5) (N := some 28) (v := ?_) (a' := ?_) #[true, true, true, true, false, true, false, false, false, false, false, false, false, false, false, false, false] rfl rfl (ZD HT_.out (by kernel_rfl)) (fun _ _ _ h => h) (Or.inl ⟨by rfl, ?_⟩) ?_ ?_
           rotate_left
           ·intro w'
            go_simp
            with_reducible rfl
           rotate_left
           ·simp only [Act.put, List.setIfInBounds_toArray, List.set_cons_zero, List.set_cons_succ, Zx, ZA]
            rfl
           refine ZM (i := 6) (N := some 29) (v := ?_) (a' := ?_) #[true, true, true, true, false, true, true, false, false, false, false, false, false, false, false, false, false] rfl rfl (ZD HT_.out (by kernel_rfl)) (fun _ _ _ h => h) (Or.inl ⟨by rfl, ?_⟩) ?_ ?_
           rotate_left
           ·intro w'
            go_simp
            with_reducible rfl
           rotate_left
           ·simp only [Act.put, List.setIfInBounds_toArray, List.set_cons_zero, List.set_cons_succ, Zx, ZA]
            rfl
           refine ZM (i := 7) (N := some 30) (v := ?_) (a' := ?_) #[true, true, true, true, false, true, true, true, false, false, false, false, false, false, false, false, false] rfl rfl (ZD HT_.out (by kernel_rfl)) (fun _ _ _ h => h) (Or.inl ⟨by rfl, ?_⟩) ?_ ?_
           rotate_left
           ·intro w'
            go_simp
            with_reducible rfl
           rotate_left
           ·simp only [Act.put, List.setIfInBounds_toArray, List.set_cons_zero, List.set_cons_succ, Zx, ZA]
            rfl
           refine ZM (i := 10) (N := some 33) (v := ?_) (a' := ?_) #[true, true, true, true, false, true, true, true, false, false, true, false, false, false, false, false, false] rfl rfl (ZD HT_.out (by kernel_rfl)) (fun _ _ _ h => h) (Or.inl ⟨by rfl, ?_⟩) ?_ ?_
           rotate_left
           ·intro w'
            go_simp
            with_reducible rfl
           rotate_left
           ·simp only [Act.put, List.setIfInBounds_toArray, List.set_cons_zero, List.set_cons_succ, Zx, ZA]
            rfl
           refine ZM (i := 11) (N := some 34) (v := ?_) (a' := ?_) #[true, true, true, true, false, true, true, true, false, false, true, true, false, false, false, false, false] rfl rfl (ZD HT_.out (by kernel_rfl)) (fun _ _ _ h => h) (Or.inl ⟨by rfl, ?_⟩) ?_ ?_
           rotate_left
           ·intro w'
            go_simp
            with_reducible rfl
           rotate_left
           ·simp only [Act.put, List.setIfInBounds_toArray, List.set_cons_zero, List.set_cons_succ, Zx, ZA]
            rfl
           refine ZM (i := 12) (N := some 35) (v := ?_) (a' := ?_) #[true, true, true, true, false, true, true, true, false, false, true, true, true, false, false, false, false] rfl rfl (ZD HT_.out (by kernel_rfl)) (fun _ _ _ h => h) (Or.inl ⟨by rfl, ?_⟩) ?_ ?_
           rotate_left
           ·intro w'
            go_simp
            with_reducible rfl
           rotate_left
           ·simp only [Act.put, List.setIfInBounds_toArray, List.set_cons_zero, List.set_cons_succ, Zx, ZA]
            rfl
           refine take_ (i := 4) (N := some 27) (v := ?_) (a' := ?_) #[true, true, true, true, true, true, true, true, false, false, true, true, true, false, false, false, false] rfl rfl (take_ofW HT_.out HW_.out (by kernel_rfl)) (fun _ _ _ h => h) (Or.inl ⟨by rfl, ?_⟩) hHeld ?_ ?_
           rotate_left
           ·rintro w' ⟨s0, s1⟩
            go_simp
            with_reducible rfl
           rotate_left
           ·simp only [Act.put, List.setIfInBounds_toArray, List.set_cons_zero, List.set_cons_succ, Zx, ZA]
            rfl
           refine take_ (i := 8) (N := some 31) (v := ?_) (a' := ?_) #[true, true, true, true, true, true, true, true, true, false, true, true, true, false, false, false, false] rfl rfl (take_ofW HT_.out HW_.out (by kernel_rfl)) (fun _ _ _ h => h) (Or.inl ⟨by rfl, ?_⟩) hHeld ?_ ?_
           rotate_left
           ·rintro w' ⟨s0, s1⟩
            go_simp
            with_reducible rfl
           rotate_left
           ·simp only [Act.put, List.setIfInBounds_toArray, List.set_cons_zero, List.set_cons_succ, Zx, ZA]
            rfl
           refine ZM (i := 9) (N := some 32) (v := ?_) (a' := ?_) #[true, true, true, true, true, true, true, true, true, true, true, true, true, false, false, false, false] rfl rfl (ZD HT_.out (by kernel_rfl)) (fun _ _ _ h => h) (Or.inl ⟨by rfl, ?_⟩) ?_ ?_
           rotate_left
           ·intro w'
            go_simp
            with_reducible rfl
           rotate_left
           ·simp only [Act.put, List.setIfInBounds_toArray, List.set_cons_zero, List.set_cons_succ, Zx, ZA]
            rfl
           refine ZM (i := 13) (N := some 36) (v := ?_) (a' := ?_) #[true, true, true, true, true, true, true, true, true, true, true, true, true, true, false, false, false] rfl rfl (ZD HT_.out (by kernel_rfl)) (fun _ _ _ h => h) (Or.inl ⟨by rfl, ?_⟩) ?_ ?_
           rotate_left
           ·intro w'
            go_simp
            with_reducible rfl
           rotate_left
           ·simp only [Act.put, List.setIfInBounds_toArray, List.set_cons_zero, List.set_cons_succ, Zx, ZA]
            rfl
           refine ZM (i := 14) (N := some 37) (v := ?_) (a' := ?_) #[true, true, true, true, true, true, true, true, true, true, true, true, true, true, true, false, false] rfl rfl (ZD HT_.out (by kernel_rfl)) (fun _ _ _ h => h) (Or.inl ⟨by rfl, ?_⟩) ?_ ?_
           rotate_left
           ·intro w'
            go_simp
            with_reducible rfl
           rotate_left
           ·simp only [Act.put, List.setIfInBounds_toArray, List.set_cons_zero, List.set_cons_succ, Zx, ZA]
            rfl
           refine ZM (i := 15) (N := some 38) (v := ?_) (a' := ?_) #[true, true, true, true, true, true, true, true, true, true, true, true, true, true, true, true, false] rfl rfl (ZD HT_.out (by kernel_rfl)) (fun _ _ _ h => h) (Or.inl ⟨by rfl, ?_⟩) ?_ ?_
           rotate_left
           ·intro w'
            go_simp
            with_reducible rfl
           rotate_left
           ·simp only [Act.put, List.setIfInBounds_toArray, List.set_cons_zero, List.set_cons_succ, Zx, ZA]
            rfl
           refine last_ (i := 16) (N := none) #[true, true, true, true, true, true, true, true, true, true, true, true, true, true, true, true, true] rfl rfl (one_of HT_.out (by kernel_rfl)) (by decide) (fun K hK => ?_)
           refine skip_ (w1 := ?_) (by rfl) rfl ?_ ?_
           rotate_left
           ·go_simp
            rfl
           refine hK.out _ _ ?_
           clear hK K
           refine done_ (done_of HT_.out (by kernel_rfl)) ?_
           try go_wp2
           go_roundg k1
           case measure => have := HK1.out; omega
           case rel => exact ⟨(y106), (wrap64 (x15_1 + 1)), (by first | rfl | (simp; done) | (simp [*]; done)), H', ⟨by have := HK1.out; omega⟩, ⟨by (with_reducible repeat first | apply Kd.Zm | apply Kd.Zo); exact HQ20.out⟩, ⟨by repeat (with_reducible first | exact HB.out | apply Zc | apply Za | apply Zd | refine Zh ?_ GB17.out)⟩⟩
          ·rw [if_neg c15] at H
           exact absurd H (by simp)
         ·rw [if_neg c13] at H
          exact absurd H (by simp)
        ·rw [if_neg c12] at H
         exact absurd H (by simp)
       ·rw [if_neg c11] at H
        exact absurd H (by simp)
      ·rw [if_neg c10] at H
       exact absurd H (by simp)
     ·rw [if_neg c8] at H
      have c8b0 : decide (x15_1 < (l1.length : Int)) = false := decide_eq_false c8
      clear c8
      obtain rfl := (Option.some.inj H).symm
      obtain ⟨Az, cz, ez⟩ := Kd.Zy HO_5.out
      subst ez
      have HAP := Zb.mk (big_apart (Zw HG.out) HO_5.out)
      have HTI := Zb.mk (Kd.R_V (base' := wr.heap.size) (Kd.R_tight rfl HO_5.out))
      have HGB := Zb.mk (Zn HG.out HB.out)
      clear HO_5
      go_wp2_with fail
      (with_reducible refine (put_calls g f0 vo false Az cz r r2 k _ _ HGB.out HAP.out HTI.out HT2.out).mono ?_)
      rintro e w1 ⟨rfl, hp⟩
      have HPP := Zb.mk (hp.after HB.out)
      clear hp
      go_wp2_with fail
      go_ret
      exact ⟨rfl, HPP.out⟩
  ·rw [if_neg c5] at H
   exact absurd H (by simp)
 ·rw [if_neg c4] at H
  exact absurd H (by simp)
end Go.Proofs.Ytbmddlldadbfnaa.BA
end
section
namespace Go.Proofs.Ytbmddlldadbfnaa.BA
open Go.RowKit Go.Proofs.YtbmddlldadbfnaaW.PrintWords Go.Proofs.YtbmddlldadbfnaaW.PrintLast Go.Proofs.YtbmddlldadbfnaaW.PrintMore
attribute [local go_sem] ZU ZS max_two min_two ZP ZO ZT ZR
set_option linter.unusedVariables false
set_option linter.unusedSimpArgs false
def sClone.f (l0 : List Int) : Option (List Int) := (some (([] : List Int) : List Int)).bind fun y101 => (if y101.length + l0.length < 17592186044416 then (some (y101 ++ l0)) else (none))
set_option maxHeartbeats 8000000 in
set_option maxRecDepth 100000 in
theorem sClone.calls_some (Ax : Addr) (c0 : Nat) (l0 : List Int) (r : List Int) (w : World) (hr0 : Kd.C (Kd.int .u64) w (some Ax) l0.length l0) (hc0 : l0.length ≤ c0) (h : sClone.f l0 = some r) :
  Calls Try.prog 115 #[.slice (some Ax) l0.length c0] w fun e w' => ∃ v0_ : Value, e = .returned (v0_) ∧ Kd.R (Kd.int .u64) 46 w' w.heap.size (fun _ => True) v0_ r ∧ Below w.heap.size w w' := by
 have HR0 := Zb.mk hr0
 have HC0 := Zb.mk hc0
 clear hr0 hc0
 have HB := Zb.mk (Below.refl w.heap.size w)
 have H : ((some (([] : List Int) : List Int)).bind fun y101 => (if y101.length + l0.length < 17592186044416 then (some (y101 ++ l0)) else (none))) = some r := h
 clear h
 obtain ⟨y101, hy101⟩ : ∃ y_ : List Int, y_ = (([] : List Int)) := ⟨_, rfl⟩
 replace H : (if y101.length + l0.length < 17592186044416 then (some (y101 ++ l0)) else (none)) = some r := by first | (rw [hy101]; with_reducible exact H) | (have H2_ := (Option.bind_some _ _).symm.trans H; rw [hy101]; with_reducible exact H2_) | (have H2_ := (Option.bind_some _ _).symm.trans H; with_reducible exact H2_) | with_reducible exact H | (rw [hy101]; exact H) | exact H
 have Ny101 := Zb.mk hy101
 clear hy101
 by_cases c2 : y101.length + l0.length < 17592186044416
 ·rw [if_pos c2] at H
  have LMc2 := Zb.mk c2
  clear c2
  obtain ⟨y104, hy104⟩ : ∃ y_ : List Int, y_ = (y101 ++ l0) := ⟨_, rfl⟩
  replace H : (some y104) = some r := by first | (rw [hy104]; with_reducible exact H) | (have H2_ := (Option.bind_some _ _).symm.trans H; rw [hy104]; with_reducible exact H2_) | (have H2_ := (Option.bind_some _ _).symm.trans H; with_reducible exact H2_) | with_reducible exact H | (rw [hy104]; exact H) | exact H
  have Ny104 := Zb.mk hy104
  clear hy104
  obtain rfl := Option.some.inj H
  have hq1 := fun (W : World) => Lib.run_eql_slice_nil (P := Try.prog) W 22 46 (some Ax) l0.length c0 0 0 Try.underlying22
  go_enter Try.func115, Try.ntmps115
  go_wp2_with (first | ((with_reducible refine Zt (N := 5) rfl ?_); refine Kd.R_lit (Kd.int .u64) _ 46 ?hg (N := 5) ?hd (xs := ([] : List Int)) (inner := []) (ok := fun _ => True) (okp := fun _ => True) ?hr ?hp (fun _ hk => hk) trivial (Below.refl _ _) (Nat.le_refl _) (by simp) ?_; (case hd => rfl); (case hg => rfl); (case hr => first | (go_simp; done) | (go_simp; rfl)); (case hp => exact (Reps.none _ _)); intro v102 w3 ho4 hb hg_ hnew_; clear hg_ hnew_; (first | rw [← Ny101.out] at ho4 | (simp only [Int.reduceToNat] at ho4; rw [← Ny101.out] at ho4)); have n0_ := Zb.mk (Kd.ZG ho4 (Zi (by repeat (with_reducible first | exact HB.out | apply Zc | apply Za | apply Zd)))); have n1_ := Zb.mk (Zl (by repeat (with_reducible first | exact HB.out | apply Zc | apply Za | apply Zd)) hb); clear HB; have HO103 := n0_; have HB := n1_; clear n0_ n1_; clear hb ho4) | ((with_reducible refine gate_builtin (b := .append) (xs := #[.tmp 5, .tmp 6]) rfl ?_); at_builtin; refine Kd.R_append_rows (Kd.int .u64) (w0 := w) w.heap.size rfl (.tmp 5) (.tmp 6) 22 46 (.int .u64 0) 8 rfl Try.underlying22 info46 rfl (by decide) (by omega) v102 y101 l0 _ _ _ (fun _ => True) (fun _ => False) rfl rfl ?aO ?aR (fun _ _ h => h) (fun _ h => h.elim) ?aF ?aB ?aS ?aL ?_; (case aR => repeat (first | exact (Kd.C_below HR0.out HB.out) | (with_reducible refine Kd.ZC ?_ _) | (with_reducible refine Kd.ZF ?_ _) | (with_reducible refine Kd.ZN ?_))); (case aB => exact (by repeat (with_reducible first | exact HB.out | apply Zc | apply Za | apply Zd))); (case aF => exact (fun _ _ => trivial)); (case aO => exact (by (with_reducible repeat first | apply Kd.Zm | apply Kd.Zo); exact HO103.out)); (case aS => exact (Zi (by repeat (with_reducible first | exact HB.out | apply Zc | apply Za | apply Zd)))); (case aL => have := LMc2.out; omega); intro v105 w5 ho hb hg hat; rw [← Ny104.out] at ho; have n0_ := Zb.mk (hb); have n1_ := Zb.mk (ho); clear HB; clear HO103; have HB := n0_; have HO106 := n1_; clear n0_ n1_; clear ho hb hg hat))
  go_ret
  exact ⟨_, by first | rfl | (simp [errW_none, errW_some] <;> rfl) | (simp [*, errW_none, errW_some] <;> rfl), by (with_reducible repeat first | apply Kd.Zm | apply Kd.Zo); exact HO106.out, by repeat (with_reducible first | exact HB.out | apply Zc | apply Za | apply Zd)⟩
 ·rw [if_neg c2] at H
  exact absurd H (by simp)
set_option maxHeartbeats 1000000 in
theorem sClone.calls (A0 : Option Addr) (c0 : Nat) (l0 : List Int) (r : List Int) (w : World) (hr0 : Kd.C (Kd.int .u64) w A0 l0.length l0) (hc0 : l0.length ≤ c0) (h : sClone.f l0 = some r) :
  Calls Try.prog 115 #[.slice A0 l0.length c0] w fun e w' => ∃ v0_ : Value, e = .returned (v0_) ∧ Kd.R (Kd.int .u64) 46 w' w.heap.size (fun _ => True) v0_ r ∧ Below w.heap.size w w' := by
 cases A0 with
 | some Ax => exact sClone.calls_some Ax c0 l0 r w hr0 hc0 h
 | none =>
  have hl : l0 = [] := by
   rcases l0 with _ | ⟨x, l⟩
   ·rfl
   ·obtain ⟨_, _, h3⟩ := hr0
    obtain ⟨ad, h4, _⟩ := h3 (by simp)
    exact absurd h4 (by simp)
  subst hl
  have hr : r = [] := by
   have := h
   simp [sClone.f] at this
   first | exact this.symm | exact this
  subst hr
  clear h hr0
  have hq1 := fun (W : World) => Lib.run_eql_slice_nil (P := Try.prog) W 22 46 none 0 c0 0 0 Try.underlying22
  go_enter Try.func115, Try.ntmps115
  go_wp2_with fail
  go_ret
  exact ⟨_, rfl, Kd.R_nil _ _ _ _ _, Below.refl _ _⟩
def NewBig (w w' : World) (g : Nat) (n : Bool) (r : List Int) : Prop := w.heap.size ≤ g ∧ IsBig w' g n r ∧ Below w.heap.size w w'
theorem NewBig.size {w w' : World} {g : Nat} {n : Bool} {r : List Int} (h : NewBig w w' g n r) : w.heap.size ≤ g := by
 obtain ⟨h, _⟩ := h
 exact h
theorem NewBig.big {w w' : World} {g : Nat} {n : Bool} {r : List Int} (h : NewBig w w' g n r) : IsBig w' g n r := by
 obtain ⟨_, h, _⟩ := h
 exact h
theorem NewBig.below {w w' : World} {g : Nat} {n : Bool} {r : List Int} (h : NewBig w w' g n r) : Below w.heap.size w w' := by
 obtain ⟨_, _, h⟩ := h
 exact h
theorem NewBig.of_put {w W w1 : World} {o : Obj} {n : Bool} {r : List Int} (hb : Below w.heap.size w W) (h : PutPost (W.alloc o) w1 W.heap.size n r) : NewBig w w1 W.heap.size n r :=
 ⟨hb.size, h.1, h.below (hb.alloc hb.size o) hb.size⟩
set_option maxHeartbeats 1000000 in
theorem abs_calls (g gx : Nat) (f0 nx : Bool) (vo : Value) (l r r2 : List Int) (k : Nat) (w : World)
  (hg : w.heap[g]? = some (.cells #[.bool f0, vo] 74 (0, 0))) (hx : IsBig w gx nx l) (h : sClone.f l = some r) (h2 : big_trim.f k r = some r2) :
  Calls Try.prog 120 #[.pointer (some ⟨g, 0, none⟩), .pointer (some ⟨gx, 0, none⟩)] w fun e w' =>
   e = .returned (.pointer (some ⟨g, 0, none⟩)) ∧ PutPost w w' g false r2 := by
 obtain ⟨vx, hgx, hvx⟩ := hx
 obtain ⟨A0, c0, rfl⟩ := Kd.V_slice hvx
 have HG := Zb.mk hg
 have HC := Zb.mk (Kd.V_reads' hvx)
 have HT := Zb.mk h
 have HT2 := Zb.mk h2
 have hc1 : w.cell? ⟨gx, 1, none⟩ = some (.slice A0 l.length c0) := Zk hgx 1
 clear hg hgx hvx h h2
 go_enter Try.func120, Try.ntmps120
 go_wp2_with fail
 (with_reducible refine (sClone.calls A0 c0 l r _ HC.out.2.2 HC.out.2.1 HT.out).mono ?_)
 rintro e w1 ⟨v, rfl, hv, hb⟩
 obtain ⟨Az, cz, rfl⟩ := Kd.Zy hv
 have HB := Zb.mk hb
 have HAP := Zb.mk (big_apart (Zw HG.out) hv)
 have HTI := Zb.mk (Kd.R_V (base' := w1.heap.size) (Kd.R_tight rfl hv))
 have HGB := Zb.mk (Zn HG.out HB.out)
 clear hv hb
 go_wp2_with fail
 (with_reducible refine (put_calls g f0 vo false Az cz r r2 k _ _ HGB.out HAP.out HTI.out HT2.out).mono ?_)
 rintro e w2 ⟨rfl, hp⟩
 have HPP := Zb.mk (hp.after HB.out)
 clear hp
 go_wp2_with fail
 go_ret
 exact ⟨rfl, HPP.out⟩
end Go.Proofs.Ytbmddlldadbfnaa.BA
end
section
namespace Go.Proofs.Ytbmddlldadbfnaa.BA
open Go.RowKit Go.Proofs.YtbmddlldadbfnaaW.PrintWords Go.Proofs.YtbmddlldadbfnaaW.PrintLast Go.Proofs.YtbmddlldadbfnaaW.PrintMore
attribute [local go_sem] ZU ZS max_two min_two ZP ZO ZT ZR
set_option linter.unusedVariables false
set_option linter.unusedSimpArgs false
theorem info5 : (Try.prog.info? 5).map (fun i => (i.zero, i.size, i.bytes)) = some (some (.int .u8 0), 1, 1) := by kernel_rfl
def exact_Whole.l0 : Nat → List Int → List Int → Int → Int → Option (List Int)
 | 0, _, _, _, _ => none
 | k + 1, x0, x3, x11, x12 => if x12 < x11 then (if 0 ≤ (wrap64 (Int.tdiv (wrap64 ((wrap64 ((x3.length : Int) - 1)) - x12)) 8)) then (if (wrap64 (Int.tdiv (wrap64 ((wrap64 ((x3.length : Int) - 1)) - x12)) 8)) < (x0.length : Int) then (if 0 ≤ (wrap64 (8 * (Int.tmod (wrap64 ((wrap64 ((x3.length : Int) - 1)) - x12)) 8))) then (if 0 ≤ x12 then (if x12 < (x3.length : Int) then (exact_Whole.l0 k x0 (x3.set (x12 : Int).toNat ((shr .u64 (rd x0 (wrap64 (Int.tdiv (wrap64 ((wrap64 ((x3.length : Int) - 1)) - x12)) 8))) (wrap64 (8 * (Int.tmod (wrap64 ((wrap64 ((x3.length : Int) - 1)) - x12)) 8)))) % 256)) x11 (wrap64 (x12 + 1))) else (none)) else (none)) else (none)) else (none)) else (none)) else (some x3)
def exact_Whole.f (k : Nat) (l0 : List Int) : Option (List Int) := if 0 ≤ (wrap64 (8 * (l0.length : Int))) then (if (wrap64 (8 * (l0.length : Int)) : Int).toNat ≤ 281474976710656 then ((some (List.replicate (wrap64 (8 * (l0.length : Int)) : Int).toNat 0 : List Int)).bind fun y113 => (exact_Whole.l0 k l0 y113 (y113.length : Int) 0)) else (none)) else (none)
theorem exact_Whole.mono_l : ∀ k, (∀ y0 y1 y2 y3, LeO (exact_Whole.l0 k y0 y1 y2 y3) (exact_Whole.l0 (k + 1) y0 y1 y2 y3))
 | 0 => fun _ _ _ _ r h => by simp [exact_Whole.l0] at h
 | k + 1 => by
  have ih0 := exact_Whole.mono_l k
  ·intro y0 y1 y2 y3
   unfold exact_Whole.l0
   repeat' first
   | (with_reducible exact ih0 _ _ _ _)
   | (with_reducible exact LeO.refl _)
   | (with_reducible exact LeO.none _)
   | (with_reducible refine LeO.ite ?_ ?_)
   | (with_reducible refine LeO.bind ?_ (fun _ => ?_))
   | exact ih0 _ _ _ _
   | exact LeO.none _
   | refine LeO.ite ?_ ?_
   | refine LeO.bind ?_ (fun _ => ?_)
theorem exact_Whole.mono : ∀ a0 k, LeO (exact_Whole.f k a0) (exact_Whole.f (k + 1) a0) := by
 intro a0 k
 have ih0 := exact_Whole.mono_l k
 unfold exact_Whole.f
 repeat' first
   | (with_reducible exact ih0 _ _ _ _)
   | (with_reducible exact LeO.refl _)
   | (with_reducible exact LeO.none _)
   | (with_reducible refine LeO.ite ?_ ?_)
   | (with_reducible refine LeO.bind ?_ (fun _ => ?_))
   | exact ih0 _ _ _ _
   | exact LeO.none _
   | refine LeO.ite ?_ ?_
   | refine LeO.bind ?_ (fun _ => ?_)
set_option maxHeartbeats 8000000 in
set_option maxRecDepth 100000 in
theorem exact_Whole.calls (k : Nat) (A0 : Option Addr) (c0 : Nat) (l0 : List Int) (r r2 r3 : List Int) (w : World) (hr0 : Kd.C (Kd.int .u64) w A0 l0.length l0) (hc0 : l0.length ≤ c0) (h : exact_Whole.f k l0 = some r) (h2 : bISetBytes.f k 0 r = some r2) (h3 : big_trim.f k r2 = some r3) :
  Calls Try.prog 75 #[.slice A0 l0.length c0] w fun e w' => ∃ g, e = .returned (.pointer (some ⟨g, 0, none⟩)) ∧ NewBig w w' g false r3 := by
 have HZ2 := Zb.mk h2
 have HZ3 := Zb.mk h3
 clear h2 h3
 have HR0 := Zb.mk hr0
 have HC0 := Zb.mk hc0
 clear hr0 hc0
 have HB := Zb.mk (Below.refl w.heap.size w)
 have H : (if 0 ≤ (wrap64 (8 * (l0.length : Int))) then (if (wrap64 (8 * (l0.length : Int)) : Int).toNat ≤ 281474976710656 then ((some (List.replicate (wrap64 (8 * (l0.length : Int)) : Int).toNat 0 : List Int)).bind fun y113 => (exact_Whole.l0 k l0 y113 (y113.length : Int) 0)) else (none)) else (none)) = some r := h
 clear h
 obtain ⟨ji2, hji2⟩ : ∃ j_ : Int, (wrap64 (8 * (l0.length : Int))) = j_ := ⟨_, rfl⟩
 replace H : (if 0 ≤ (ji2) then (if (ji2 : Int).toNat ≤ 281474976710656 then ((some (List.replicate (ji2 : Int).toNat 0 : List Int)).bind fun y113 => (exact_Whole.l0 k l0 y113 (y113.length : Int) 0)) else (none)) else (none)) = some r := by first | (rw [hji2] at H; exact H) | (simp only [hji2] at H ⊢; exact H)
 have hji2w : (IntKind.i64.wrap (8 * (l0.length : Int))) = ji2 := (Zx _).trans hji2
 by_cases c3 : 0 ≤ (ji2)
 ·rw [if_pos c3] at H
  have c3b0 := eq_true c3
  have c3b1 : decide (0 ≤ (ji2)) = true := decide_eq_true c3
  clear c3
  by_cases c4 : (ji2 : Int).toNat ≤ 281474976710656
  ·rw [if_pos c4] at H
   have c4b0 := eq_true c4
   have c4b1 : decide ((ji2 : Int).toNat ≤ 281474976710656) = true := decide_eq_true c4
   clear c4
   obtain ⟨y113, hy113⟩ : ∃ y_ : List Int, y_ = (List.replicate (ji2 : Int).toNat 0) := ⟨_, rfl⟩
   replace H : (exact_Whole.l0 k l0 y113 (y113.length : Int) 0) = some r := by first | (rw [hy113]; with_reducible exact H) | (have H2_ := (Option.bind_some _ _).symm.trans H; rw [hy113]; with_reducible exact H2_) | (have H2_ := (Option.bind_some _ _).symm.trans H; with_reducible exact H2_) | with_reducible exact H | (rw [hy113]; exact H) | exact H
   have Ny113 := Zb.mk hy113
   clear hy113
   have H' := Zb.mk H
   clear H
   go_enter Try.func75, Try.ntmps75
   go_wp2_with (first | ((with_reducible refine Zt (N := 9) rfl ?_); refine Kd.R_make (Kd.int .u8) _ 5 rfl (N := 9) rfl 107 _ _ rfl ji2 rfl rfl Try.underlying107 (.int .u8 0) 1 info5 rfl (by decide) (by omega) 0 (ok := fun _ => True) (okp := fun _ => True) rfl (fun _ hk => hk) trivial (of_decide_eq_true (by first | (with_reducible assumption) | assumption)) (Nat.le_trans (Nat.mul_le_mul_right _ (of_decide_eq_true (by first | (with_reducible assumption) | assumption) : ji2.toNat ≤ 281474976710656)) (by omega)) (Below.refl _ _) (Nat.le_refl _) ?_; intro v114 w5 ho6 hb hg_ hnew_; clear hg_ hnew_; (first | rw [← Ny113.out] at ho6 | (simp only [Int.reduceToNat] at ho6; rw [← Ny113.out] at ho6)); have n0_ := Zb.mk (Kd.ZG ho6 (Zi (by repeat (with_reducible first | exact HB.out | apply Zc | apply Za | apply Zd)))); have n1_ := Zb.mk (Zl (by repeat (with_reducible first | exact HB.out | apply Zc | apply Za | apply Zd)) hb); clear HB; have HO115 := n0_; have HB := n1_; clear n0_ n1_; clear hb ho6; obtain ⟨Ao7, co7, eo7⟩ := Kd.Zy HO115.out; subst eo7))
   go_loopg [12] k (fun kq v12 w' => ∃ (x3_1 : List Int) (x12_1 : Int), v12 = .int .i64 x12_1 ∧ Zb (exact_Whole.l0 kq l0 x3_1 (y113.length : Int) x12_1 = some r) ∧ Zb (kq ≤ k) ∧ Zb (Kd.R (Kd.int .u8) 5 w' w.heap.size (fun _ => True) (.slice Ao7 y113.length co7) x3_1) ∧ Zb (Below w.heap.size w w'))
   case atStart => exact ⟨(y113), (0), (by first | rfl | (simp; done) | (simp [*]; done)), H', ⟨Nat.le_refl _⟩, ⟨by (with_reducible repeat first | apply Kd.Zm | apply Kd.Zo); exact HO115.out⟩, ⟨by repeat (with_reducible first | exact HB.out | apply Zc | apply Za | apply Zd)⟩⟩
   case round =>
    clear H'
    try clear p2
    try clear c3
    try clear c3b0
    try clear c3b1
    try clear c4
    try clear c4b0
    try clear c4b1
    try clear p6
    try clear c7
    obtain ⟨x3_1, x12_1, rfl, HA, HK1, HO_3, HB⟩ := hrel
    have hl3_1 := (Kd.Zv HO_3.out).1
    rw [hl3_1] at HO_3
    (try simp only [hl3_1])
    cases gk with
    | zero => exact absurd HA.out (by simp [exact_Whole.l0])
    | succ k1 =>
     have H := HA.out
     clear HA
     simp only [exact_Whole.l0] at H
     by_cases c8 : x12_1 < (y113.length : Int)
     ·rw [if_pos c8] at H
      have c8b0 : decide (x12_1 < (y113.length : Int)) = true := decide_eq_true c8
      clear c8
      obtain ⟨ji9, hji9⟩ : ∃ j_ : Int, (wrap64 (Int.tdiv (wrap64 ((wrap64 ((x3_1.length : Int) - 1)) - x12_1)) 8)) = j_ := ⟨_, rfl⟩
      replace H : (if 0 ≤ (ji9) then (if (ji9) < (l0.length : Int) then (if 0 ≤ (wrap64 (8 * (Int.tmod (wrap64 ((wrap64 ((x3_1.length : Int) - 1)) - x12_1)) 8))) then (if 0 ≤ x12_1 then (if x12_1 < (x3_1.length : Int) then (exact_Whole.l0 k1 l0 (x3_1.set (x12_1 : Int).toNat ((shr .u64 (rd l0 (ji9)) (wrap64 (8 * (Int.tmod (wrap64 ((wrap64 ((x3_1.length : Int) - 1)) - x12_1)) 8)))) % 256)) (y113.length : Int) (wrap64 (x12_1 + 1))) else (none)) else (none)) else (none)) else (none)) else (none)) = some r := by first | (rw [hji9] at H; exact H) | (simp only [hji9] at H ⊢; exact H)
      have hji9w : (IntKind.i64.wrap (Int.tdiv (wrap64 ((wrap64 ((x3_1.length : Int) - 1)) - x12_1)) 8)) = ji9 := (Zx _).trans hji9
      by_cases c10 : 0 ≤ (ji9)
      ·rw [if_pos c10] at H
       have c10b0 : decide (0 ≤ (ji9)) = true := decide_eq_true c10
       clear c10
       by_cases c11 : (ji9) < (l0.length : Int)
       ·rw [if_pos c11] at H
        have c11b0 : decide ((ji9) < (l0.length : Int)) = true := decide_eq_true c11
        clear c11
        obtain ⟨ji12, hji12⟩ : ∃ j_ : Int, (wrap64 (8 * (Int.tmod (wrap64 ((wrap64 ((x3_1.length : Int) - 1)) - x12_1)) 8))) = j_ := ⟨_, rfl⟩
        replace H : (if 0 ≤ (ji12) then (if 0 ≤ x12_1 then (if x12_1 < (x3_1.length : Int) then (exact_Whole.l0 k1 l0 (x3_1.set (x12_1 : Int).toNat ((shr .u64 (rd l0 (ji9)) (ji12)) % 256)) (y113.length : Int) (wrap64 (x12_1 + 1))) else (none)) else (none)) else (none)) = some r := by first | (rw [hji12] at H; exact H) | (simp only [hji12] at H ⊢; exact H)
        have hji12w : (IntKind.i64.wrap (8 * (Int.tmod (wrap64 ((wrap64 ((x3_1.length : Int) - 1)) - x12_1)) 8))) = ji12 := (Zx _).trans hji12
        by_cases c13 : 0 ≤ (ji12)
        ·rw [if_pos c13] at H
         have c13b0 := eq_true c13
         have c13b1 : decide (0 ≤ (ji12)) = true := decide_eq_true c13
         clear c13
         obtain ⟨ji14, hji14⟩ : ∃ j_ : Int, (shr .u64 (rd l0 (ji9)) (ji12)) = j_ := ⟨_, rfl⟩
         replace H : (if 0 ≤ x12_1 then (if x12_1 < (x3_1.length : Int) then (exact_Whole.l0 k1 l0 (x3_1.set (x12_1 : Int).toNat ((ji14) % 256)) (y113.length : Int) (wrap64 (x12_1 + 1))) else (none)) else (none)) = some r := by first | (rw [hji14] at H; exact H) | (simp only [hji14] at H ⊢; exact H)
         have hji14_ : ((rd l0 (ji9)) / 2 ^ min (ji12).toNat 64) = ji14 := hji14
         have hji14z : (ji12) ≤ 64 → ((rd l0 (ji9)) / 2 ^ (ji12).toNat) = ji14 := shr_small hji14
         by_cases c15 : 0 ≤ x12_1
         ·rw [if_pos c15] at H
          have c15b0 : decide (0 ≤ x12_1) = true := decide_eq_true c15
          clear c15
          by_cases c16 : x12_1 < (x3_1.length : Int)
          ·rw [if_pos c16] at H
           have c16b0 : decide (x12_1 < (x3_1.length : Int)) = true := decide_eq_true c16
           clear c16
           obtain ⟨y117, hy117⟩ : ∃ y_ : List Int, y_ = (x3_1.set (x12_1 : Int).toNat ((ji14) % 256)) := ⟨_, rfl⟩
           replace H : (exact_Whole.l0 k1 l0 y117 (y113.length : Int) (wrap64 (x12_1 + 1))) = some r := by first | (rw [hy117]; with_reducible exact H) | (have H2_ := (Option.bind_some _ _).symm.trans H; rw [hy117]; with_reducible exact H2_) | (have H2_ := (Option.bind_some _ _).symm.trans H; with_reducible exact H2_) | with_reducible exact H | (rw [hy117]; exact H) | exact H
           have Ny117 := Zb.mk hy117
           clear hy117
           have H' := Zb.mk H
           clear H
           have p116 : 0 ≤ ((ji9) : Int) := of_decide_eq_true (by first | (with_reducible assumption) | assumption)
           have q116 : (ji9) < (l0.length : Int) := of_decide_eq_true (by first | (with_reducible assumption) | assumption)
           obtain ⟨ad116, e116, hx116_0⟩ := Kd.at_int HR0.out (ji9) p116 q116
           cases e116
           replace hx116_0 := (HB.out.cell (World.block_lt_of_cell? w _ hx116_0)).trans hx116_0
           replace p116 := eq_true p116
           replace q116 := eq_true q116
           have p17 : 0 ≤ (x12_1 : Int) := of_decide_eq_true (by first | (with_reducible assumption) | assumption)
           have q17 : (x12_1 : Int) < ((x3_1.length : Int) : Int) := of_decide_eq_true (by first | (with_reducible assumption) | assumption)
           obtain ⟨go17, co17, eo17, gb17, gl17, cl17, HG17⟩ := Kd.R_form HO_3.out (by omega)
           (first | cases eo17 | (injection eo17 with ea_ en_ ec_; (first | subst ea_ | (injection ea_ with ea_; subst ea_)); subst ec_; clear en_))
           have GB17 := Zb.mk gb17
           have GG17 := Zb.mk HG17
           clear gb17 gl17 HG17
           obtain ⟨hx17_0, hf17_0⟩ := Kd.R_celln 0 HO_3.out (x12_1 : Int) p17 q17
           replace p17 := eq_true p17
           replace q17 := eq_true q17
           have HP18 := Kd.R_putg HO_3.out (x12_1 : Int) ((ji14) % 256)
           go_wp2_with (first | ((with_reducible refine gate_store (t := 5) (p := 32) rfl ?_); refine ZQ (t := 5) (p := 32) (v := ?vo_w19) (w1 := (wr.setCell ⟨go17, (x12_1 : Int).toNat, none⟩ (.int .u8 ((ji14) % 256)))) ?hg ?ho ?hn ?hr ?_; (case ho => rfl); (case hg => rfl); (case hn => rfl); (case hr => first | (go_simp; done) | (go_simp; rfl)); intro w19 hw; have hg : wr.grownBy w19 (some go17) := (by rw [hw]; exact HP18.2); have hp_ : Kd.R (Kd.int .u8) 5 w19 w.heap.size (fun _ => True) (.slice (some ⟨go17, 0, none⟩) x3_1.length co7) y117 := (by rw [hw, Ny117.out]; exact HP18.1); clear HP18; have n0_ := Zb.mk (hp_); have n1_ := Zb.mk ((by rw [hw]; exact Zh (HB.out) GB17.out : Below w.heap.size w w19)); clear HO_3; clear HB; have HO_3 := n0_; have HB := n1_; clear n0_ n1_; clear hg hw hp_))
           (try simp only [← hl3_1])
           go_roundg k1
           case measure => have := HK1.out; omega
           case rel => exact ⟨(y117), (wrap64 (x12_1 + 1)), (by first | rfl | (simp; done) | (simp [*]; done)), H', ⟨by have := HK1.out; omega⟩, ⟨by (try simp only [hl3_1]); (with_reducible repeat first | apply Kd.Zm | apply Kd.Zo); exact HO_3.out⟩, ⟨by repeat (with_reducible first | exact HB.out | apply Zc | apply Za | apply Zd)⟩⟩
          ·rw [if_neg c16] at H
           exact absurd H (by simp)
         ·rw [if_neg c15] at H
          exact absurd H (by simp)
        ·rw [if_neg c13] at H
         exact absurd H (by simp)
       ·rw [if_neg c11] at H
        exact absurd H (by simp)
      ·rw [if_neg c10] at H
       exact absurd H (by simp)
     ·rw [if_neg c8] at H
      have c8b0 : decide (x12_1 < (y113.length : Int)) = false := decide_eq_false c8
      clear c8
      obtain rfl := Option.some.inj H
      (try rw [hl3_1] at c8b0)
      have HRZ := Zb.mk (Kd.Zv HO_3.out)
      clear HO_3
      go_wp2_with fail
      (with_reducible refine (bISetBytes.calls wr.heap.size false (.slice none 0 0) k 0 _ _ _ r2 r3 _ (blk_new _ _) (Kd.ZC HRZ.out.2.2 _) HRZ.out.2.1 HZ2.out HZ3.out).mono ?_)
      rintro e w1 ⟨rfl, hp⟩
      have HPP := Zb.mk (NewBig.of_put HB.out hp)
      clear hp
      go_wp2_with fail
      go_ret
      exact ⟨_, rfl, HPP.out⟩
  ·rw [if_neg c4] at H
   exact absurd H (by simp)
 ·rw [if_neg c3] at H
  exact absurd H (by simp)
end Go.Proofs.Ytbmddlldadbfnaa.BA
end
section
namespace Go.Proofs.Ytbmddlldadbfnaa.BA
open Go.RowKit Go.Proofs.YtbmddlldadbfnaaW.PrintWords Go.Proofs.YtbmddlldadbfnaaW.PrintLast Go.Proofs.YtbmddlldadbfnaaW.PrintMore
attribute [local go_sem] ZU ZS max_two min_two ZP ZO ZT ZR
set_option linter.unusedVariables false
set_option linter.unusedSimpArgs false
def bIBytes.l0 : Nat → List Int → Int → List Int → Int → Int → Option (List Int)
 | 0, _, _, _, _, _ => none
 | k + 1, x0, x3, x4, x16, x17 => if x17 < x16 then (if 0 ≤ (wrap64 (Int.tdiv (wrap64 ((wrap64 (x3 - 1)) - x17)) 8)) then (if (wrap64 (Int.tdiv (wrap64 ((wrap64 (x3 - 1)) - x17)) 8)) < (x0.length : Int) then (if 0 ≤ (wrap64 (8 * (Int.tmod (wrap64 ((wrap64 (x3 - 1)) - x17)) 8))) then (if 0 ≤ x17 then (if x17 < (x4.length : Int) then (bIBytes.l0 k x0 x3 (x4.set (x17 : Int).toNat ((shr .u64 (rd x0 (wrap64 (Int.tdiv (wrap64 ((wrap64 (x3 - 1)) - x17)) 8))) (wrap64 (8 * (Int.tmod (wrap64 ((wrap64 (x3 - 1)) - x17)) 8)))) % 256)) x16 (wrap64 (x17 + 1))) else (none)) else (none)) else (none)) else (none)) else (none)) else (some x4)
def bIBytes.f (k : Nat) (l0 : List Int) : Option (List Int) := (big_size.f k l0).bind fun t121 => (if 0 ≤ (wrap64 (Int.tdiv (wrap64 (t121 + 7)) 8)) then (if (wrap64 (Int.tdiv (wrap64 (t121 + 7)) 8) : Int).toNat ≤ 281474976710656 then (bIBytes.l0 k l0 (wrap64 (Int.tdiv (wrap64 (t121 + 7)) 8)) (List.replicate (wrap64 (Int.tdiv (wrap64 (t121 + 7)) 8) : Int).toNat 0) (wrap64 (Int.tdiv (wrap64 (t121 + 7)) 8)) 0) else (none)) else (none))
theorem bIBytes.mono_l : ∀ k, (∀ y0 y1 y2 y3 y4, LeO (bIBytes.l0 k y0 y1 y2 y3 y4) (bIBytes.l0 (k + 1) y0 y1 y2 y3 y4))
 | 0 => fun _ _ _ _ _ r h => by simp [bIBytes.l0] at h
 | k + 1 => by
  have ih0 := bIBytes.mono_l k
  ·intro y0 y1 y2 y3 y4
   unfold bIBytes.l0
   repeat' first
   | (with_reducible exact ih0 _ _ _ _ _)
   | (with_reducible exact big_size.mono _ _)
   | (with_reducible exact LeO.refl _)
   | (with_reducible exact LeO.none _)
   | (with_reducible refine LeO.ite ?_ ?_)
   | (with_reducible refine LeO.bind ?_ (fun _ => ?_))
   | exact ih0 _ _ _ _ _
   | exact big_size.mono _ _
   | exact LeO.none _
   | refine LeO.ite ?_ ?_
   | refine LeO.bind ?_ (fun _ => ?_)
theorem bIBytes.mono : ∀ a0 k, LeO (bIBytes.f k a0) (bIBytes.f (k + 1) a0) := by
 intro a0 k
 have ih0 := bIBytes.mono_l k
 unfold bIBytes.f
 repeat' first
   | (with_reducible exact ih0 _ _ _ _ _)
   | (with_reducible exact big_size.mono _ _)
   | (with_reducible exact LeO.refl _)
   | (with_reducible exact LeO.none _)
   | (with_reducible refine LeO.ite ?_ ?_)
   | (with_reducible refine LeO.bind ?_ (fun _ => ?_))
   | exact ih0 _ _ _ _ _
   | exact big_size.mono _ _
   | exact LeO.none _
   | refine LeO.ite ?_ ?_
   | refine LeO.bind ?_ (fun _ => ?_)
set_option maxHeartbeats 8000000 in
set_option maxRecDepth 100000 in
theorem bIBytes.calls (g : Nat) (n0 : Bool) (k : Nat) (l0 : List Int) (r : List Int) (w : World) (hx : IsBig w g n0 l0) (h : bIBytes.f k l0 = some r) :
  Calls Try.prog 121 #[.pointer (some ⟨g, 0, none⟩)] w fun e w' => ∃ v0_ : Value, e = .returned (v0_) ∧ Kd.R (Kd.int .u8) 5 w' w.heap.size (fun _ => True) v0_ r ∧ Below w.heap.size w w' := by
 obtain ⟨vx, hgx, hvx⟩ := hx
 obtain ⟨A0, c0, rfl⟩ := Kd.V_slice hvx
 have hr0 := (Kd.V_reads' hvx).2.2
 have hc0 := (Kd.V_reads' hvx).2.1
 have HG := Zb.mk hgx
 have hgc1 : w.cell? ⟨g, 1, none⟩ = some (.slice A0 l0.length c0) := Zk hgx 1
 clear hgx hvx
 have HR0 := Zb.mk hr0
 have HC0 := Zb.mk hc0
 clear hr0 hc0
 have HB := Zb.mk (Below.refl w.heap.size w)
 have H : ((big_size.f k l0).bind fun t121 => (if 0 ≤ (wrap64 (Int.tdiv (wrap64 (t121 + 7)) 8)) then (if (wrap64 (Int.tdiv (wrap64 (t121 + 7)) 8) : Int).toNat ≤ 281474976710656 then (bIBytes.l0 k l0 (wrap64 (Int.tdiv (wrap64 (t121 + 7)) 8)) (List.replicate (wrap64 (Int.tdiv (wrap64 (t121 + 7)) 8) : Int).toNat 0) (wrap64 (Int.tdiv (wrap64 (t121 + 7)) 8)) 0) else (none)) else (none))) = some r := h
 clear h
 replace H := Option.bind_eq_some_iff.mp H
 obtain ⟨t121, A20, H⟩ := H
 replace H : (if 0 ≤ (wrap64 (Int.tdiv (wrap64 (t121 + 7)) 8)) then (if (wrap64 (Int.tdiv (wrap64 (t121 + 7)) 8) : Int).toNat ≤ 281474976710656 then (bIBytes.l0 k l0 (wrap64 (Int.tdiv (wrap64 (t121 + 7)) 8)) (List.replicate (wrap64 (Int.tdiv (wrap64 (t121 + 7)) 8) : Int).toNat 0) (wrap64 (Int.tdiv (wrap64 (t121 + 7)) 8)) 0) else (none)) else (none)) = some r := H
 have A2 := Zb.mk A20
 clear A20
 obtain ⟨ji3, hji3⟩ : ∃ j_ : Int, (wrap64 (Int.tdiv (wrap64 (t121 + 7)) 8)) = j_ := ⟨_, rfl⟩
 replace H : (if 0 ≤ (ji3) then (if (ji3 : Int).toNat ≤ 281474976710656 then (bIBytes.l0 k l0 ji3 (List.replicate (ji3 : Int).toNat 0) ji3 0) else (none)) else (none)) = some r := by first | (rw [hji3] at H; exact H) | (simp only [hji3] at H ⊢; exact H)
 (try rw [hji3] at A2)
 have hji3w : (IntKind.i64.wrap (Int.tdiv (wrap64 (t121 + 7)) 8)) = ji3 := (Zx _).trans hji3
 by_cases c4 : 0 ≤ (ji3)
 ·rw [if_pos c4] at H
  have c4b0 := eq_true c4
  have c4b1 : decide (0 ≤ (ji3)) = true := decide_eq_true c4
  clear c4
  by_cases c5 : (ji3 : Int).toNat ≤ 281474976710656
  ·rw [if_pos c5] at H
   have c5b0 := eq_true c5
   have c5b1 : decide ((ji3 : Int).toNat ≤ 281474976710656) = true := decide_eq_true c5
   clear c5
   obtain ⟨y122, hy122⟩ : ∃ y_ : List Int, y_ = (List.replicate (ji3 : Int).toNat 0) := ⟨_, rfl⟩
   replace H : (bIBytes.l0 k l0 ji3 y122 ji3 0) = some r := by first | (rw [hy122]; with_reducible exact H) | (have H2_ := (Option.bind_some _ _).symm.trans H; rw [hy122]; with_reducible exact H2_) | (have H2_ := (Option.bind_some _ _).symm.trans H; with_reducible exact H2_) | with_reducible exact H | (rw [hy122]; exact H) | exact H
   have Ny122 := Zb.mk hy122
   clear hy122
   have H' := Zb.mk H
   clear H
   go_enter Try.func121, Try.ntmps121
   go_wp2_with (first | ((with_reducible refine Zp (f := 143) rfl ?_); refine ZB (some 11) rfl rfl Try.func143 (by kernel_rfl) rfl #[.slice A0 l0.length c0] rfl (by (try simp only [List.map_toArray, List.map_cons, List.map_nil]); first | done | rfl | (simp only [List.length_drop, List.length_take]; rfl)) ?_; (with_reducible refine (big_size.calls k _ _ l0 t121 _ ?side1 ?side2 A2.out).mono ?_); (case side1 => repeat (first | exact HR0.out | (with_reducible refine Kd.ZC ?_ _) | (with_reducible refine Kd.ZF ?_ _) | (with_reducible refine Kd.ZN ?_))); (case side2 => exact HC0.out); rintro e w' ⟨rfl, ⟨nd, rfl⟩⟩; refine ⟨_, rfl, ?_⟩) | ((with_reducible refine Zt (N := 15) rfl ?_); refine Kd.R_make (Kd.int .u8) _ 5 rfl (N := 15) rfl 107 _ _ rfl ji3 rfl rfl Try.underlying107 (.int .u8 0) 1 info5 rfl (by decide) (by omega) 0 (ok := fun _ => True) (okp := fun _ => True) rfl (fun _ hk => hk) trivial (of_decide_eq_true (by first | (with_reducible assumption) | assumption)) (Nat.le_trans (Nat.mul_le_mul_right _ (of_decide_eq_true (by first | (with_reducible assumption) | assumption) : ji3.toNat ≤ 281474976710656)) (by omega)) (Below.refl _ _) (Nat.le_refl _) ?_; intro v123 w6 ho7 hb hg_ hnew_; clear hg_ hnew_; (first | rw [← Ny122.out] at ho7 | (simp only [Int.reduceToNat] at ho7; rw [← Ny122.out] at ho7)); have n0_ := Zb.mk (Kd.ZG ho7 (Zi (by repeat (with_reducible first | exact HB.out | apply Zc | apply Za | apply Zd)))); have n1_ := Zb.mk (Zl (by repeat (with_reducible first | exact HB.out | apply Zc | apply Za | apply Zd)) hb); clear HB; have HO124 := n0_; have HB := n1_; clear n0_ n1_; clear hb ho7))
   go_loopg [17] k (fun kq v17 w' => ∃ (x4_1 : List Int) (x17_1 : Int), v17 = .int .i64 x17_1 ∧ Zb (bIBytes.l0 kq l0 ji3 x4_1 ji3 x17_1 = some r) ∧ Zb (kq ≤ k) ∧ Zb (Kd.R (Kd.int .u8) 5 w' w.heap.size (fun _ => True) v123 x4_1) ∧ Zb (Below w.heap.size w w'))
   case atStart => exact ⟨(y122), (0), (by first | rfl | (simp; done) | (simp [*]; done)), H', ⟨Nat.le_refl _⟩, ⟨by (with_reducible repeat first | apply Kd.Zm | apply Kd.Zo); exact HO124.out⟩, ⟨by repeat (with_reducible first | exact HB.out | apply Zc | apply Za | apply Zd)⟩⟩
   case round =>
    clear H'
    try clear c1
    try clear p2
    try clear c4
    try clear c4b0
    try clear c4b1
    try clear c5
    try clear c5b0
    try clear c5b1
    try clear p6
    obtain ⟨x4_1, x17_1, rfl, HA, HK1, HO_4, HB⟩ := hrel
    cases gk with
    | zero => exact absurd HA.out (by simp [bIBytes.l0])
    | succ k1 =>
     have H := HA.out
     clear HA
     simp only [bIBytes.l0] at H
     by_cases c8 : x17_1 < ji3
     ·rw [if_pos c8] at H
      have c8b0 : decide (x17_1 < ji3) = true := decide_eq_true c8
      clear c8
      obtain ⟨ji9, hji9⟩ : ∃ j_ : Int, (wrap64 (Int.tdiv (wrap64 ((wrap64 (ji3 - 1)) - x17_1)) 8)) = j_ := ⟨_, rfl⟩
      replace H : (if 0 ≤ (ji9) then (if (ji9) < (l0.length : Int) then (if 0 ≤ (wrap64 (8 * (Int.tmod (wrap64 ((wrap64 (ji3 - 1)) - x17_1)) 8))) then (if 0 ≤ x17_1 then (if x17_1 < (x4_1.length : Int) then (bIBytes.l0 k1 l0 ji3 (x4_1.set (x17_1 : Int).toNat ((shr .u64 (rd l0 (ji9)) (wrap64 (8 * (Int.tmod (wrap64 ((wrap64 (ji3 - 1)) - x17_1)) 8)))) % 256)) ji3 (wrap64 (x17_1 + 1))) else (none)) else (none)) else (none)) else (none)) else (none)) = some r := by first | (rw [hji9] at H; exact H) | (simp only [hji9] at H ⊢; exact H)
      have hji9w : (IntKind.i64.wrap (Int.tdiv (wrap64 ((wrap64 (ji3 - 1)) - x17_1)) 8)) = ji9 := (Zx _).trans hji9
      by_cases c10 : 0 ≤ (ji9)
      ·rw [if_pos c10] at H
       have c10b0 : decide (0 ≤ (ji9)) = true := decide_eq_true c10
       clear c10
       by_cases c11 : (ji9) < (l0.length : Int)
       ·rw [if_pos c11] at H
        have c11b0 : decide ((ji9) < (l0.length : Int)) = true := decide_eq_true c11
        clear c11
        obtain ⟨ji12, hji12⟩ : ∃ j_ : Int, (wrap64 (8 * (Int.tmod (wrap64 ((wrap64 (ji3 - 1)) - x17_1)) 8))) = j_ := ⟨_, rfl⟩
        replace H : (if 0 ≤ (ji12) then (if 0 ≤ x17_1 then (if x17_1 < (x4_1.length : Int) then (bIBytes.l0 k1 l0 ji3 (x4_1.set (x17_1 : Int).toNat ((shr .u64 (rd l0 (ji9)) (ji12)) % 256)) ji3 (wrap64 (x17_1 + 1))) else (none)) else (none)) else (none)) = some r := by first | (rw [hji12] at H; exact H) | (simp only [hji12] at H ⊢; exact H)
        have hji12w : (IntKind.i64.wrap (8 * (Int.tmod (wrap64 ((wrap64 (ji3 - 1)) - x17_1)) 8))) = ji12 := (Zx _).trans hji12
        by_cases c13 : 0 ≤ (ji12)
        ·rw [if_pos c13] at H
         have c13b0 := eq_true c13
         have c13b1 : decide (0 ≤ (ji12)) = true := decide_eq_true c13
         clear c13
         obtain ⟨ji14, hji14⟩ : ∃ j_ : Int, (shr .u64 (rd l0 (ji9)) (ji12)) = j_ := ⟨_, rfl⟩
         replace H : (if 0 ≤ x17_1 then (if x17_1 < (x4_1.length : Int) then (bIBytes.l0 k1 l0 ji3 (x4_1.set (x17_1 : Int).toNat ((ji14) % 256)) ji3 (wrap64 (x17_1 + 1))) else (none)) else (none)) = some r := by first | (rw [hji14] at H; exact H) | (simp only [hji14] at H ⊢; exact H)
         have hji14_ : ((rd l0 (ji9)) / 2 ^ min (ji12).toNat 64) = ji14 := hji14
         have hji14z : (ji12) ≤ 64 → ((rd l0 (ji9)) / 2 ^ (ji12).toNat) = ji14 := shr_small hji14
         by_cases c15 : 0 ≤ x17_1
         ·rw [if_pos c15] at H
          have c15b0 : decide (0 ≤ x17_1) = true := decide_eq_true c15
          clear c15
          by_cases c16 : x17_1 < (x4_1.length : Int)
          ·rw [if_pos c16] at H
           have c16b0 : decide (x17_1 < (x4_1.length : Int)) = true := decide_eq_true c16
           clear c16
           obtain ⟨y126, hy126⟩ : ∃ y_ : List Int, y_ = (x4_1.set (x17_1 : Int).toNat ((ji14) % 256)) := ⟨_, rfl⟩
           replace H : (bIBytes.l0 k1 l0 ji3 y126 ji3 (wrap64 (x17_1 + 1))) = some r := by first | (rw [hy126]; with_reducible exact H) | (have H2_ := (Option.bind_some _ _).symm.trans H; rw [hy126]; with_reducible exact H2_) | (have H2_ := (Option.bind_some _ _).symm.trans H; with_reducible exact H2_) | with_reducible exact H | (rw [hy126]; exact H) | exact H
           have Ny126 := Zb.mk hy126
           clear hy126
           have H' := Zb.mk H
           clear H
           have p125 : 0 ≤ ((ji9) : Int) := of_decide_eq_true (by first | (with_reducible assumption) | assumption)
           have q125 : (ji9) < (l0.length : Int) := of_decide_eq_true (by first | (with_reducible assumption) | assumption)
           obtain ⟨ad125, e125, hx125_0⟩ := Kd.at_int HR0.out (ji9) p125 q125
           cases e125
           replace hx125_0 := (HB.out.cell (World.block_lt_of_cell? w _ hx125_0)).trans hx125_0
           replace p125 := eq_true p125
           replace q125 := eq_true q125
           have p17 : 0 ≤ (x17_1 : Int) := of_decide_eq_true (by first | (with_reducible assumption) | assumption)
           have q17 : (x17_1 : Int) < ((x4_1.length : Int) : Int) := of_decide_eq_true (by first | (with_reducible assumption) | assumption)
           obtain ⟨go17, co17, eo17, gb17, gl17, cl17, HG17⟩ := Kd.R_form HO_4.out (by omega)
           (first | cases eo17 | (injection eo17 with ea_ en_ ec_; (first | subst ea_ | (injection ea_ with ea_; subst ea_)); subst ec_; clear en_))
           have GB17 := Zb.mk gb17
           have GG17 := Zb.mk HG17
           clear gb17 gl17 HG17
           obtain ⟨hx17_0, hf17_0⟩ := Kd.R_celln 0 HO_4.out (x17_1 : Int) p17 q17
           replace p17 := eq_true p17
           replace q17 := eq_true q17
           have HP18 := Kd.R_putg HO_4.out (x17_1 : Int) ((ji14) % 256)
           have hgc2 : wr.cell? ⟨g, 1, none⟩ = some (.slice _ l0.length c0) := Zk (Zn HG.out HB.out) 1
           go_wp2_with (first | ((with_reducible refine gate_store (t := 5) (p := 39) rfl ?_); refine ZQ (t := 5) (p := 39) (v := ?vo_w19) (w1 := (wr.setCell ⟨go17, (x17_1 : Int).toNat, none⟩ (.int .u8 ((ji14) % 256)))) ?hg ?ho ?hn ?hr ?_; (case ho => rfl); (case hg => rfl); (case hn => rfl); (case hr => first | (go_simp; done) | (go_simp; rfl)); intro w19 hw; have hg : wr.grownBy w19 (some go17) := (by rw [hw]; exact HP18.2); have hp_ : Kd.R (Kd.int .u8) 5 w19 w.heap.size (fun _ => True) (.slice (some ⟨go17, 0, none⟩) x4_1.length co17) y126 := (by rw [hw, Ny126.out]; exact HP18.1); clear HP18; have n0_ := Zb.mk (hp_); have n1_ := Zb.mk ((by rw [hw]; exact Zh (HB.out) GB17.out : Below w.heap.size w w19)); clear HO_4; clear HB; have HO_4 := n0_; have HB := n1_; clear n0_ n1_; clear hg hw hp_))
           go_roundg k1
           case measure => have := HK1.out; omega
           case rel => exact ⟨(y126), (wrap64 (x17_1 + 1)), (by first | rfl | (simp; done) | (simp [*]; done)), H', ⟨by have := HK1.out; omega⟩, ⟨by (with_reducible repeat first | apply Kd.Zm | apply Kd.Zo); exact HO_4.out⟩, ⟨by repeat (with_reducible first | exact HB.out | apply Zc | apply Za | apply Zd)⟩⟩
          ·rw [if_neg c16] at H
           exact absurd H (by simp)
         ·rw [if_neg c15] at H
          exact absurd H (by simp)
        ·rw [if_neg c13] at H
         exact absurd H (by simp)
       ·rw [if_neg c11] at H
        exact absurd H (by simp)
      ·rw [if_neg c10] at H
       exact absurd H (by simp)
     ·rw [if_neg c8] at H
      have c8b0 : decide (x17_1 < ji3) = false := decide_eq_false c8
      clear c8
      obtain rfl := Option.some.inj H
      go_wp2
      go_ret
      exact ⟨_, by first | rfl | (simp [errW_none, errW_some] <;> rfl) | (simp only [← hji3]; first | rfl | (simp [errW_none, errW_some] <;> rfl)) | (simp [*, errW_none, errW_some] <;> rfl), by (with_reducible repeat first | apply Kd.Zm | apply Kd.Zo); exact HO_4.out, by repeat (with_reducible first | exact HB.out | apply Zc | apply Za | apply Zd)⟩
  ·rw [if_neg c5] at H
   exact absurd H (by simp)
 ·rw [if_neg c4] at H
  exact absurd H (by simp)
end Go.Proofs.Ytbmddlldadbfnaa.BA
end
section
namespace Go.Proofs.Ytbmddlldadbfnaa.BA
open Go.RowKit Go.Proofs.YtbmddlldadbfnaaW.PrintWords Go.Proofs.YtbmddlldadbfnaaW.PrintLast Go.Proofs.YtbmddlldadbfnaaW.PrintMore
attribute [local go_sem] ZU ZS max_two min_two ZP ZO ZT ZR
set_option linter.unusedVariables false
set_option linter.unusedSimpArgs false
mutual
def exact_Limbs.l0 : Nat → List Int → List Int → Int → Option (List Int)
 | 0, _, _, _ => none
 | k + 1, x3, x4, x5 => if x5 > 0 then (if 0 ≤ (mx (wrap64 (x5 - 8)) 0) then (if (mx (wrap64 (x5 - 8)) 0) ≤ x5 then (if x5 ≤ (x4.length : Int) then (exact_Limbs.l1 k x3 x4 x5 0 ((x4.take (x5 : Int).toNat).drop ((mx (wrap64 (x5 - 8)) 0) : Int).toNat) (((x4.take (x5 : Int).toNat).drop ((mx (wrap64 (x5 - 8)) 0) : Int).toNat).length : Int) 0) else (none)) else (none)) else (none)) else (some x3)
def exact_Limbs.l1 : Nat → List Int → List Int → Int → Int → List Int → Int → Int → Option (List Int)
 | 0, _, _, _, _, _, _, _ => none
 | k + 1, x3, x4, x5, x6, x24, x25, x26 => if x26 < x25 then (if 0 ≤ x26 then (if x26 < (x24.length : Int) then (exact_Limbs.l1 k x3 x4 x5 (Go.bits .or .u64 (IntKind.u64.wrap (x6 * 256)) (IntKind.u64.wrap (rd x24 x26))) x24 x25 (wrap64 (x26 + 1))) else (none)) else (none)) else (if x3.length < 17592186044416 then (exact_Limbs.l0 k (x3 ++ [x6]) x4 (wrap64 (x5 - 8))) else (none))
end
def exact_Limbs.f (k : Nat) (l0 : List Int) : Option (List Int) := exact_Limbs.l0 k ([] : List Int) l0 (l0.length : Int)
theorem exact_Limbs.mono_l : ∀ k, (∀ y0 y1 y2, LeO (exact_Limbs.l0 k y0 y1 y2) (exact_Limbs.l0 (k + 1) y0 y1 y2)) ∧ (∀ y0 y1 y2 y3 y4 y5 y6, LeO (exact_Limbs.l1 k y0 y1 y2 y3 y4 y5 y6) (exact_Limbs.l1 (k + 1) y0 y1 y2 y3 y4 y5 y6))
 | 0 => ⟨fun _ _ _ r h => by simp [exact_Limbs.l0] at h, fun _ _ _ _ _ _ _ r h => by simp [exact_Limbs.l1] at h⟩
 | k + 1 => by
  obtain ⟨ih0, ih1⟩ := exact_Limbs.mono_l k
  refine ⟨?_, ?_⟩
  ·intro y0 y1 y2
   unfold exact_Limbs.l0
   repeat' first
   | (with_reducible exact ih0 _ _ _)
   | (with_reducible exact ih1 _ _ _ _ _ _ _)
   | (with_reducible exact LeO.refl _)
   | (with_reducible exact LeO.none _)
   | (with_reducible refine LeO.ite ?_ ?_)
   | (with_reducible refine LeO.bind ?_ (fun _ => ?_))
   | exact ih0 _ _ _
   | exact ih1 _ _ _ _ _ _ _
   | exact LeO.none _
   | refine LeO.ite ?_ ?_
   | refine LeO.bind ?_ (fun _ => ?_)
  ·intro y0 y1 y2 y3 y4 y5 y6
   unfold exact_Limbs.l1
   repeat' first
   | (with_reducible exact ih0 _ _ _)
   | (with_reducible exact ih1 _ _ _ _ _ _ _)
   | (with_reducible exact LeO.refl _)
   | (with_reducible exact LeO.none _)
   | (with_reducible refine LeO.ite ?_ ?_)
   | (with_reducible refine LeO.bind ?_ (fun _ => ?_))
   | exact ih0 _ _ _
   | exact ih1 _ _ _ _ _ _ _
   | exact LeO.none _
   | refine LeO.ite ?_ ?_
   | refine LeO.bind ?_ (fun _ => ?_)
theorem exact_Limbs.mono : ∀ a0 k, LeO (exact_Limbs.f k a0) (exact_Limbs.f (k + 1) a0) := by
 intro a0 k
 obtain ⟨ih0, ih1⟩ := exact_Limbs.mono_l k
 unfold exact_Limbs.f
 repeat' first
   | (with_reducible exact ih0 _ _ _)
   | (with_reducible exact ih1 _ _ _ _ _ _ _)
   | (with_reducible exact LeO.refl _)
   | (with_reducible exact LeO.none _)
   | (with_reducible refine LeO.ite ?_ ?_)
   | (with_reducible refine LeO.bind ?_ (fun _ => ?_))
   | exact ih0 _ _ _
   | exact ih1 _ _ _ _ _ _ _
   | exact LeO.none _
   | refine LeO.ite ?_ ?_
   | refine LeO.bind ?_ (fun _ => ?_)
set_option maxHeartbeats 8000000 in
set_option maxRecDepth 100000 in
theorem exact_Limbs.calls (g : Nat) (n0 : Bool) (k : Nat) (l l1 l2 l0 : List Int) (r : List Int) (w00 : World) (hx : IsBig w00 g n0 l) (h1 : sClone.f l = some l1) (h2 : big_trim.f k l1 = some l2) (h3 : bIBytes.f k l2 = some l0) (h : exact_Limbs.f k l0 = some r) :
  Calls Try.prog 90 #[.pointer (some ⟨g, 0, none⟩)] w00 fun e w' => ∃ v0_ : Value, e = .returned (v0_) ∧ Kd.R (Kd.int .u64) 46 w' w00.heap.size (fun _ => True) v0_ r ∧ Below w00.heap.size w00 w' := by
 have HX := Zb.mk hx
 have HZ1 := Zb.mk h1
 have HZ2 := Zb.mk h2
 have HZ3 := Zb.mk h3
 clear hx h1 h2 h3
 have H : (exact_Limbs.l0 k ([] : List Int) l0 (l0.length : Int)) = some r := h
 clear h
 have H' := Zb.mk H
 clear H
 go_enter Try.func90, Try.ntmps90
 go_wp2_with fail
 (with_reducible refine (abs_calls w00.heap.size g false n0 (.slice none 0 0) l l1 l2 k _ (blk_new _ _) (HX.out.below (Zc (Below.refl _ _) _)) HZ1.out HZ2.out).mono ?_)
 rintro e w01 ⟨rfl, hp⟩
 have HN := Zb.mk (NewBig.of_put (Below.refl _ _) hp)
 clear hp
 go_wp2_with fail
 (with_reducible refine (bIBytes.calls w00.heap.size false k l2 l0 _ HN.out.big HZ3.out).mono ?_)
 rintro e w ⟨v, rfl, hv, hb⟩
 obtain ⟨A0, c0, rfl⟩ := Kd.Zy hv
 have HBW := Zb.mk (HN.out.below.trans (hb.mono HN.out.below.size))
 have HR0 := Zb.mk (Kd.Zv hv).2.2
 have HC0 := Zb.mk (Kd.Zv hv).2.1
 have HB := Zb.mk (Below.refl w.heap.size w)
 clear hv hb HN HX HZ1 HZ2 HZ3
 go_wp2
 go_loopg [3, 5] k (fun kq v3 v5 w' => ∃ (x3_1 : List Int) (x5_1 : Int), v5 = .int .i64 x5_1 ∧ Zb (exact_Limbs.l0 kq x3_1 l0 x5_1 = some r) ∧ Zb (kq ≤ k) ∧ Zb (Kd.R (Kd.int .u64) 46 w' w.heap.size (fun _ => True) v3 x3_1) ∧ Zb (Below w.heap.size w w'))
 case atStart => exact ⟨(([] : List Int)), ((l0.length : Int)), (by first | rfl | (simp; done) | (simp [*]; done)), H', ⟨Nat.le_refl _⟩, ⟨by first | exact Kd.R_nil _ _ _ _ _ | exact Kd.V_nil _ _ _ _ _ | exact Kd.S_nil _ _ _ _ _⟩, ⟨by repeat (with_reducible first | exact HB.out | apply Zc | apply Za | apply Zd)⟩⟩
 case round =>
  clear H'
  obtain ⟨x3_1, x5_1, rfl, HA, HK1, HO_3, HB⟩ := hrel
  cases gk with
  | zero => exact absurd HA.out (by simp [exact_Limbs.l0])
  | succ k1 =>
   have H := HA.out
   clear HA
   simp only [exact_Limbs.l0] at H
   by_cases c2 : x5_1 > 0
   ·rw [if_pos c2] at H
    have c2b0 : decide (0 < x5_1) = true := decide_eq_true c2
    clear c2
    obtain ⟨ji3, hji3⟩ : ∃ j_ : Int, (mx (wrap64 (x5_1 - 8)) 0) = j_ := ⟨_, rfl⟩
    replace H : (if 0 ≤ (ji3) then (if (ji3) ≤ x5_1 then (if x5_1 ≤ (l0.length : Int) then (exact_Limbs.l1 k1 x3_1 l0 x5_1 0 ((l0.take (x5_1 : Int).toNat).drop ((ji3) : Int).toNat) (((l0.take (x5_1 : Int).toNat).drop ((ji3) : Int).toNat).length : Int) 0) else (none)) else (none)) else (none)) = some r := by first | (rw [hji3] at H; exact H) | (simp only [hji3] at H ⊢; exact H)
    have hji3_ : (if (wrap64 (x5_1 - 8)) < 0 then 0 else (wrap64 (x5_1 - 8))) = ji3 := hji3
    by_cases c4 : 0 ≤ (ji3)
    ·rw [if_pos c4] at H
     have c4b0 := eq_true c4
     have c4b1 : decide (0 ≤ (ji3)) = true := decide_eq_true c4
     clear c4
     by_cases c5 : (ji3) ≤ x5_1
     ·rw [if_pos c5] at H
      have c5b0 := eq_true c5
      have c5b1 : decide ((ji3) ≤ x5_1) = true := decide_eq_true c5
      clear c5
      by_cases c6 : x5_1 ≤ (l0.length : Int)
      ·rw [if_pos c6] at H
       have c6b0 := eq_true c6
       have c6b1 : decide (x5_1 ≤ (l0.length : Int)) = true := decide_eq_true c6
       clear c6
       have H' := Zb.mk H
       clear H
       obtain ⟨i07, hi07, _, hsz7, _⟩ := info_parts info5
       obtain ⟨A7, hcut7, hA7, hC7⟩ := print_mid_of (P := Try.prog) (Value.int .u8) 0 107 5 .i64 .i64 Try.underlying107 hi07 hsz7 A0 c0 l0 (ji3) x5_1 (of_decide_eq_true (by first | (with_reducible assumption) | assumption)) (by first | omega | exact of_decide_eq_true (by first | (with_reducible assumption) | assumption)) (of_decide_eq_true (by first | (with_reducible assumption) | assumption)) HC0.out
       have HR127 := Zb.mk (Kd.C_of_reads (h1 := fun _ => rfl) (hA7 _ (Kd.reads_of_C HR0.out)))
       have HC127 := Zb.mk hC7
       clear hA7 hC7 hi07 hsz7
       obtain ⟨y7, hy7⟩ : ∃ y_ : List Int, y_ = ((l0.take (x5_1 : Int).toNat).drop ((ji3) : Int).toNat) := ⟨_, rfl⟩
       rw [← hy7] at hcut7 HR127 HC127 H'
       have Ny7 := Zb.mk hy7
       clear hy7
       go_wp2
       go_loopg [6, 26] k1 (fun kq v6 v26 w' => ∃ (x6_2 : Int) (x26_2 : Int), v6 = .int .u64 x6_2 ∧ v26 = .int .i64 x26_2 ∧ Zb (exact_Limbs.l1 kq x3_1 l0 x5_1 x6_2 y7 (y7.length : Int) x26_2 = some r) ∧ Zb (kq ≤ k1) ∧ Zb (Kd.R (Kd.int .u64) 46 w' w.heap.size (fun _ => True) u3 x3_1) ∧ Zb (Below w.heap.size w w'))
       case atStart => exact ⟨(0), (0), (by first | rfl | (simp; done) | (simp [*]; done)), (by first | rfl | (simp; done) | (simp [*]; done)), H', ⟨Nat.le_refl _⟩, ⟨by (with_reducible repeat first | apply Kd.Zm | apply Kd.Zo); exact HO_3.out⟩, ⟨by repeat (with_reducible first | exact HB.out | apply Zc | apply Za | apply Zd)⟩⟩
       case round =>
        clear H'
        try clear c2
        try clear c2b0
        try clear p2
        try clear c4
        try clear c4b0
        try clear c4b1
        try clear c5
        try clear c5b0
        try clear c5b1
        try clear c6
        try clear c6b0
        try clear c6b1
        try clear p6
        obtain ⟨x6_2, x26_2, rfl, rfl, HA, HK2, HO_3, HB⟩ := hrel
        cases gk with
        | zero => exact absurd HA.out (by simp [exact_Limbs.l1])
        | succ k2 =>
         have H := HA.out
         clear HA
         simp only [exact_Limbs.l1] at H
         by_cases c8 : x26_2 < (y7.length : Int)
         ·rw [if_pos c8] at H
          have c8b0 : decide (x26_2 < (y7.length : Int)) = true := decide_eq_true c8
          clear c8
          by_cases c9 : 0 ≤ x26_2
          ·rw [if_pos c9] at H
           have c9b0 : decide (0 ≤ x26_2) = true := decide_eq_true c9
           clear c9
           by_cases c10 : x26_2 < (y7.length : Int)
           ·rw [if_pos c10] at H
            have c10b0 : decide (x26_2 < (y7.length : Int)) = true := decide_eq_true c10
            clear c10
            have H' := Zb.mk H
            clear H
            have p128 : 0 ≤ (x26_2 : Int) := of_decide_eq_true (by first | (with_reducible assumption) | assumption)
            have q128 : x26_2 < (y7.length : Int) := of_decide_eq_true (by first | (with_reducible assumption) | assumption)
            obtain ⟨ad128, e128, hx128_0⟩ := Kd.at_int HR127.out x26_2 p128 q128
            cases e128
            replace hx128_0 := (HB.out.cell (World.block_lt_of_cell? w _ hx128_0)).trans hx128_0
            replace p128 := eq_true p128
            replace q128 := eq_true q128
            go_wp2
            go_roundg k2
            case measure => have := HK1.out; have := HK2.out; omega
            case rel => exact ⟨(Go.bits .or .u64 (IntKind.u64.wrap (x6_2 * 256)) (IntKind.u64.wrap (rd y7 x26_2))), (wrap64 (x26_2 + 1)), (by first | rfl | (simp; done) | (simp only [← hji3] <;> (first | rfl | simp)) | (simp [*]; done)), (by first | rfl | (simp; done) | (simp [*]; done)), H', ⟨by have := HK1.out; have := HK2.out; omega⟩, ⟨by (with_reducible repeat first | apply Kd.Zm | apply Kd.Zo); exact HO_3.out⟩, ⟨by repeat (with_reducible first | exact HB.out | apply Zc | apply Za | apply Zd)⟩⟩
           ·rw [if_neg c10] at H
            exact absurd H (by simp)
          ·rw [if_neg c9] at H
           exact absurd H (by simp)
         ·rw [if_neg c8] at H
          have c8b0 : decide (x26_2 < (y7.length : Int)) = false := decide_eq_false c8
          clear c8
          by_cases c11 : x3_1.length < 17592186044416
          ·rw [if_pos c11] at H
           have LMc11 := Zb.mk c11
           clear c11
           obtain ⟨y129, hy129⟩ : ∃ y_ : List Int, y_ = (x3_1 ++ [x6_2]) := ⟨_, rfl⟩
           replace H : (exact_Limbs.l0 k2 y129 l0 (wrap64 (x5_1 - 8))) = some r := by first | (rw [hy129]; with_reducible exact H) | (have H2_ := (Option.bind_some _ _).symm.trans H; rw [hy129]; with_reducible exact H2_) | (have H2_ := (Option.bind_some _ _).symm.trans H; with_reducible exact H2_) | with_reducible exact H | (rw [hy129]; exact H) | exact H
           have Ny129 := Zb.mk hy129
           clear hy129
           have H' := Zb.mk H
           clear H
           go_wp2_with (first | ((with_reducible refine gate_builtin (b := .append) (xs := #[.tmp 36, .tmp 38]) rfl ?_); at_builtin; refine Kd.R_append (Kd.int .u64) (w0 := w) w.heap.size rfl (.tmp 36) (.tmp 38) 22 46 (.int .u64 0) 8 rfl Try.underlying22 info46 rfl (by decide) (by omega) u3 x3_1 x6_2 [.int .u64 x6_2] (fun _ => True) (fun _ => False) rfl rfl ?aP (fun _ hk => hk.elim) ?aF ?aO ?aB ?aS ?aL ?_; (case aP => exact rfl); (case aB => exact (by repeat (with_reducible first | exact HB.out | apply Zc | apply Za | apply Zd))); (case aF => exact (fun _ _ => trivial)); (case aO => exact (by (with_reducible repeat first | apply Kd.Zm | apply Kd.Zo); exact HO_3.out)); (case aS => exact (Zi (by repeat (with_reducible first | exact HB.out | apply Zc | apply Za | apply Zd)))); (case aL => have := LMc11.out; omega); intro v130 w12 ho hb hg hat; rw [← Ny129.out] at ho; have n0_ := Zb.mk (hb); have n1_ := Zb.mk (ho); clear HB; clear HO_3; have HB := n0_; have HO131 := n1_; clear n0_ n1_; clear ho hb hg hat))
           go_roundg k2
           case measure => have := HK1.out; have := HK2.out; omega
           case rel => exact ⟨(y129), (wrap64 (x5_1 - 8)), (by first | rfl | (simp; done) | (simp [*]; done)), H', ⟨by have := HK1.out; have := HK2.out; omega⟩, ⟨by (with_reducible repeat first | apply Kd.Zm | apply Kd.Zo); exact HO131.out⟩, ⟨by repeat (with_reducible first | exact HB.out | apply Zc | apply Za | apply Zd)⟩⟩
          ·rw [if_neg c11] at H
           exact absurd H (by simp)
      ·rw [if_neg c6] at H
       exact absurd H (by simp)
     ·rw [if_neg c5] at H
      exact absurd H (by simp)
    ·rw [if_neg c4] at H
     exact absurd H (by simp)
   ·rw [if_neg c2] at H
    have c2b0 : decide (0 < x5_1) = false := decide_eq_false c2
    clear c2
    obtain rfl := Option.some.inj H
    go_wp2
    go_ret
    exact ⟨_, rfl, Kd.ZG HO_3.out HBW.out.size, HBW.out.trans (HB.out.mono HBW.out.size)⟩
end Go.Proofs.Ytbmddlldadbfnaa.BA
end
section
namespace Go.Proofs.Ytbmddlldadbfnaa.BA
open Go.RowKit Go.Proofs.YtbmddlldadbfnaaW.PrintWords Go.Proofs.YtbmddlldadbfnaaW.PrintLast Go.Proofs.YtbmddlldadbfnaaW.PrintMore
attribute [local go_sem] ZU ZS max_two min_two ZP ZO ZT ZR
set_option linter.unusedVariables false
set_option linter.unusedSimpArgs false
mutual
def bIText.l0 : Nat → Int → Bool → Int → Int → List Int → List Int → Option (ByteArray)
 | 0, _, _, _, _, _, _ => none
 | k + 1, x1, x2, x5, x6, x7, x8 => if (x8.length : Int) > 0 then ((big_short.f k x8 x5).bind fun bt162 => (bIText.l1 k x1 x2 x5 x6 x7 bt162.1 bt162.2 x6 0)) else (if x2 = true then (if x7.length < 140737488355328 then ((sRev.f k (x7 ++ [45])).bind fun t160 => (some (strOfNums t160))) else (none)) else ((sRev.f k x7).bind fun t161 => (some (strOfNums t161))))
def bIText.l1 : Nat → Int → Bool → Int → Int → List Int → List Int → Int → Int → Int → Option (ByteArray)
 | 0, _, _, _, _, _, _, _, _, _ => none
 | k + 1, x1, x2, x5, x6, x7, x8, x9, x34, x35 => if x35 < x34 then (if (x8.length : Int) = 0 then (if x9 = 0 then (bIText.l0 k x1 x2 x5 x6 x7 x8) else (if (IntKind.u64.wrap (x1)) = 0 then (none) else (if 0 ≤ (Int.tmod x9 (IntKind.u64.wrap (x1))) then (if (Int.tmod x9 (IntKind.u64.wrap (x1))) < 36 then (if x7.length < 140737488355328 then (bIText.l1 k x1 x2 x5 x6 (x7 ++ [bt (⟨#[48, 49, 50, 51, 52, 53, 54, 55, 56, 57, 97, 98, 99, 100, 101, 102, 103, 104, 105, 106, 107, 108, 109, 110, 111, 112, 113, 114, 115, 116, 117, 118, 119, 120, 121, 122]⟩ : ByteArray) (Int.tmod x9 (IntKind.u64.wrap (x1)))]) x8 (IntKind.u64.wrap (Int.tdiv x9 (IntKind.u64.wrap (x1)))) x34 (wrap64 (x35 + 1))) else (none)) else (none)) else (none)))) else (if (IntKind.u64.wrap (x1)) = 0 then (none) else (if 0 ≤ (Int.tmod x9 (IntKind.u64.wrap (x1))) then (if (Int.tmod x9 (IntKind.u64.wrap (x1))) < 36 then (if x7.length < 140737488355328 then (bIText.l1 k x1 x2 x5 x6 (x7 ++ [bt (⟨#[48, 49, 50, 51, 52, 53, 54, 55, 56, 57, 97, 98, 99, 100, 101, 102, 103, 104, 105, 106, 107, 108, 109, 110, 111, 112, 113, 114, 115, 116, 117, 118, 119, 120, 121, 122]⟩ : ByteArray) (Int.tmod x9 (IntKind.u64.wrap (x1)))]) x8 (IntKind.u64.wrap (Int.tdiv x9 (IntKind.u64.wrap (x1)))) x34 (wrap64 (x35 + 1))) else (none)) else (none)) else (none)))) else (bIText.l0 k x1 x2 x5 x6 x7 x8)
end
def bIText.f (k : Nat) (l0 : List Int) (a1 : Int) (a2 : Bool) : Option (ByteArray) := if (l0.length : Int) = 0 then (some (⟨#[48]⟩ : ByteArray)) else ((big_chunk.f k a1).bind fun bt155 => (bIText.l0 k a1 a2 bt155.1 bt155.2 ([] : List Int) l0))
theorem bIText.mono_l : ∀ k, (∀ y0 y1 y2 y3 y4 y5, LeO (bIText.l0 k y0 y1 y2 y3 y4 y5) (bIText.l0 (k + 1) y0 y1 y2 y3 y4 y5)) ∧ (∀ y0 y1 y2 y3 y4 y5 y6 y7 y8, LeO (bIText.l1 k y0 y1 y2 y3 y4 y5 y6 y7 y8) (bIText.l1 (k + 1) y0 y1 y2 y3 y4 y5 y6 y7 y8))
 | 0 => ⟨fun _ _ _ _ _ _ r h => by simp [bIText.l0] at h, fun _ _ _ _ _ _ _ _ _ r h => by simp [bIText.l1] at h⟩
 | k + 1 => by
  obtain ⟨ih0, ih1⟩ := bIText.mono_l k
  refine ⟨?_, ?_⟩
  ·intro y0 y1 y2 y3 y4 y5
   unfold bIText.l0
   repeat' first
   | (with_reducible exact ih0 _ _ _ _ _ _)
   | (with_reducible exact ih1 _ _ _ _ _ _ _ _ _)
   | (with_reducible exact big_chunk.mono _ _)
   | (with_reducible exact big_short.mono _ _ _)
   | (with_reducible exact sRev.mono _ _)
   | (with_reducible exact LeO.refl _)
   | (with_reducible exact LeO.none _)
   | (with_reducible refine LeO.ite ?_ ?_)
   | (with_reducible refine LeO.bind ?_ (fun _ => ?_))
   | exact ih0 _ _ _ _ _ _
   | exact ih1 _ _ _ _ _ _ _ _ _
   | exact big_chunk.mono _ _
   | exact big_short.mono _ _ _
   | exact sRev.mono _ _
   | exact LeO.none _
   | refine LeO.ite ?_ ?_
   | refine LeO.bind ?_ (fun _ => ?_)
  ·intro y0 y1 y2 y3 y4 y5 y6 y7 y8
   unfold bIText.l1
   repeat' first
   | (with_reducible exact ih0 _ _ _ _ _ _)
   | (with_reducible exact ih1 _ _ _ _ _ _ _ _ _)
   | (with_reducible exact big_chunk.mono _ _)
   | (with_reducible exact big_short.mono _ _ _)
   | (with_reducible exact sRev.mono _ _)
   | (with_reducible exact LeO.refl _)
   | (with_reducible exact LeO.none _)
   | (with_reducible refine LeO.ite ?_ ?_)
   | (with_reducible refine LeO.bind ?_ (fun _ => ?_))
   | exact ih0 _ _ _ _ _ _
   | exact ih1 _ _ _ _ _ _ _ _ _
   | exact big_chunk.mono _ _
   | exact big_short.mono _ _ _
   | exact sRev.mono _ _
   | exact LeO.none _
   | refine LeO.ite ?_ ?_
   | refine LeO.bind ?_ (fun _ => ?_)
theorem bIText.mono : ∀ a0 a1 a2 k, LeO (bIText.f k a0 a1 a2) (bIText.f (k + 1) a0 a1 a2) := by
 intro a0 a1 a2 k
 obtain ⟨ih0, ih1⟩ := bIText.mono_l k
 unfold bIText.f
 repeat' first
   | (with_reducible exact ih0 _ _ _ _ _ _)
   | (with_reducible exact ih1 _ _ _ _ _ _ _ _ _)
   | (with_reducible exact big_chunk.mono _ _)
   | (with_reducible exact big_short.mono _ _ _)
   | (with_reducible exact sRev.mono _ _)
   | (with_reducible exact LeO.refl _)
   | (with_reducible exact LeO.none _)
   | (with_reducible refine LeO.ite ?_ ?_)
   | (with_reducible refine LeO.bind ?_ (fun _ => ?_))
   | exact ih0 _ _ _ _ _ _
   | exact ih1 _ _ _ _ _ _ _ _ _
   | exact big_chunk.mono _ _
   | exact big_short.mono _ _ _
   | exact sRev.mono _ _
   | exact LeO.none _
   | refine LeO.ite ?_ ?_
   | refine LeO.bind ?_ (fun _ => ?_)
set_option maxHeartbeats 8000000 in
set_option maxRecDepth 100000 in
theorem bIText.calls (g : Nat) (k : Nat) (l0 : List Int) (a1 : Int) (a2 : Bool) (r : ByteArray) (w : World) (hx : IsBig w g a2 l0) (h : bIText.f k l0 a1 a2 = some r) :
  Calls Try.prog 40 #[.pointer (some ⟨g, 0, none⟩), .int .i64 a1] w fun e w' => e = .returned (.string r) ∧ Below w.heap.size w w' := by
 obtain ⟨vx, hgx, hvx⟩ := hx
 obtain ⟨A0, c0, rfl⟩ := Kd.V_slice hvx
 have HG := Zb.mk hgx
 have hgc0 : w.cell? ⟨g, 0, none⟩ = some (.bool a2) := Zk hgx 0
 have hgc1 : w.cell? ⟨g, 1, none⟩ = some (.slice A0 l0.length c0) := Zk hgx 1
 obtain ⟨P0_, hs0⟩ : ∃ P0_ : Nat → Prop, Kd.V (Kd.int .u64) 46 w w.heap.size (fun k_ => P0_ k_) (.slice A0 l0.length c0) l0 := ⟨_, hvx⟩
 clear hgx hvx
 have HO0 := Zb.mk (show Kd.V (Kd.int .u64) 46 w w.heap.size (fun k_ => (P0_ k_ ∨ w.heap.size ≤ k_)) (.slice A0 l0.length c0) l0 from Kd.V_mono hs0 (fun k_ hk => .inl hk))
 have HB := Zb.mk (Below.refl w.heap.size w)
 have H : (if (l0.length : Int) = 0 then (some (⟨#[48]⟩ : ByteArray)) else ((big_chunk.f k a1).bind fun bt155 => (bIText.l0 k a1 a2 bt155.1 bt155.2 ([] : List Int) l0))) = some r := h
 clear h
 by_cases c4 : (l0.length : Int) = 0
 ·rw [if_pos c4] at H
  have c4b0 : ((l0.length : Int) == 0) = true := beq_iff_eq.mpr c4
  have c4b1 : ((l0.length : Int) != 0) = false := bne_eq_false_iff_eq.mpr c4
  clear c4
  obtain rfl := Option.some.inj H
  go_enter Try.func40, Try.ntmps40
  go_wp2
  go_ret
  exact ⟨by first | rfl | (simp [errW_none, errW_some] <;> rfl) | (simp [*, errW_none, errW_some] <;> rfl), by repeat (with_reducible first | exact HB.out | apply Zc | apply Za | apply Zd)⟩
 ·rw [if_neg c4] at H
  have c4b0 : ((l0.length : Int) == 0) = false := beq_eq_false_iff_ne.mpr c4
  have c4b1 : ((l0.length : Int) != 0) = true := bne_iff_ne.mpr c4
  have c4b2 : ¬ (l0 = []) := fun h_ => c4 (by rw [h_]; rfl)
  replace H := Option.bind_eq_some_iff.mp H
  obtain ⟨⟨t155, t156⟩, A50, H⟩ := H
  replace H : (bIText.l0 k a1 a2 t155 t156 ([] : List Int) l0) = some r := H
  have A5 := Zb.mk A50
  clear A50
  have H' := Zb.mk H
  clear H
  go_enter Try.func40, Try.ntmps40
  go_wp2_with (first | ((with_reducible refine Zp (f := 77) rfl ?_); refine ZB (some 18) rfl rfl Try.func77 (by kernel_rfl) rfl #[.int .i64 a1] rfl (by (try simp only [List.map_toArray, List.map_cons, List.map_nil]); first | done | rfl | (simp only [List.length_drop, List.length_take]; rfl)) ?_; (with_reducible refine (big_chunk.calls k a1 t155 t156 _ A5.out).mono ?_); rintro e w' ⟨rfl, ⟨nd, rfl⟩⟩; refine ⟨_, rfl, ?_⟩))
  go_loopg [7, 8] k (fun kq v7 v8 w' => ∃ (x7_1 : List Int) (x8_1 : List Int), Zb (bIText.l0 kq a1 a2 t155 t156 x7_1 x8_1 = some r) ∧ Zb (kq ≤ k) ∧ Zb (Kd.R (Kd.int .u8) 5 w' w.heap.size (fun k_ => (w.heap.size ≤ k_)) v7 x7_1) ∧ Zb (Kd.V (Kd.int .u64) 46 w' w.heap.size (fun k_ => (P0_ k_ ∨ w.heap.size ≤ k_) ∧ some k_ ≠ (v7 : Value).ownBlock) v8 x8_1) ∧ Zb (Below w.heap.size w w'))
  case atStart => exact ⟨(([] : List Int)), (l0), H', ⟨Nat.le_refl _⟩, ⟨by first | exact Kd.R_nil _ _ _ _ _ | exact Kd.V_nil _ _ _ _ _ | exact Kd.S_nil _ _ _ _ _⟩, ⟨by (with_reducible repeat first | apply Kd.V_drewN); exact Kd.V_mono HO0.out (fun _ hk => ⟨hk, (by simp [Value.ownBlock])⟩)⟩, ⟨by repeat (with_reducible first | exact HB.out | apply Zc | apply Za | apply Zd)⟩⟩
  case round =>
   clear H'
   try clear p2
   try clear c4
   try clear c4b0
   try clear c4b1
   try clear c4b2
   obtain ⟨x7_1, x8_1, HA, HK1, HO_7, HO_8, HB⟩ := hrel
   cases gk with
   | zero => exact absurd HA.out (by simp [bIText.l0])
   | succ k1 =>
    have H := HA.out
    clear HA
    simp only [bIText.l0] at H
    by_cases c6 : (x8_1.length : Int) > 0
    ·rw [if_pos c6] at H
     have c6b0 : decide (0 < (x8_1.length : Int)) = true := decide_eq_true c6
     have c6b1 : decide (0 < x8_1.length) = true := decide_eq_true (by omega)
     clear c6
     replace H := Option.bind_eq_some_iff.mp H
     obtain ⟨⟨t162, t165⟩, A70, H⟩ := H
     replace H : (bIText.l1 k1 a1 a2 t155 t156 x7_1 t162 t165 t156 0) = some r := H
     have A7 := Zb.mk A70
     clear A70
     have H' := Zb.mk H
     clear H
     obtain ⟨Ao8, co8, eo8⟩ := Kd.V_slice HO_8.out
     subst eo8
     go_wp2_with (first | ((with_reducible refine Zp (f := 78) rfl ?_); refine ZB (some 31) rfl rfl Try.func78 (by kernel_rfl) rfl #[.slice Ao8 x8_1.length co8, .int .u64 t155] rfl (by (try simp only [List.map_toArray, List.map_cons, List.map_nil]); first | done | rfl | (simp only [List.length_drop, List.length_take]; rfl)) ?_; (with_reducible refine (big_short.calls k1 _ _ x8_1 t155 t162 t165 _ ?side1 ?side2 A7.out).mono ?_); (case side1 => repeat (first | exact (Kd.V_reads' HO_8.out).2.2 | (with_reducible refine Kd.ZC ?_ _) | (with_reducible refine Kd.ZF ?_ _) | (with_reducible refine Kd.ZN ?_))); (case side2 => exact (Kd.V_reads' HO_8.out).2.1); rintro e w9 ⟨v163, rfl, ho0, hb⟩; refine ⟨_, rfl, ?_⟩; have n0_ := Zb.mk (Kd.Zz (by (with_reducible repeat first | apply Kd.Zm | apply Kd.Zo); exact HO_7.out) hb); have n1_ := Zb.mk (Kd.V_below (by (with_reducible repeat first | apply Kd.V_drewN); exact HO_8.out) hb); have n2_ := Zb.mk (Kd.V_lower (Kd.V_mono (ok' := fun k_ => (P0_ k_ ∨ w.heap.size ≤ k_) ∧ some k_ ≠ (u7 : Value).ownBlock) ho0 (fun k_ hk_ => ⟨(.inr (Nat.le_trans (Zi (by repeat (with_reducible first | exact HB.out | apply Zc | apply Za | apply Zd))) hk_)), (Kd.fresh' (Kd.R_lt (by (with_reducible repeat first | apply Kd.Zm | apply Kd.Zo); exact HO_7.out)) k_ hk_)⟩)) (Zi (by repeat (with_reducible first | exact HB.out | apply Zc | apply Za | apply Zd)))); have n3_ := Zb.mk (Zl (by repeat (with_reducible first | exact HB.out | apply Zc | apply Za | apply Zd)) hb); clear HO_7; clear HO_8; clear HB; have HO_7 := n0_; have HO_8 := n1_; have HO164 := n2_; have HB := n3_; clear n0_ n1_ n2_ n3_; (try clear hb); (try clear hb2); (try clear hk); (try clear hi); (try clear ho0)))
     go_loopg [7, 9, 35] k1 (fun kq v7 v9 v35 w' => ∃ (x7_2 : List Int) (x9_2 : Int) (x35_2 : Int), v9 = .int .u64 x9_2 ∧ v35 = .int .i64 x35_2 ∧ Zb (bIText.l1 kq a1 a2 t155 t156 x7_2 t162 x9_2 t156 x35_2 = some r) ∧ Zb (kq ≤ k1) ∧ Zb (Kd.R (Kd.int .u8) 5 w' w.heap.size (fun k_ => (w.heap.size ≤ k_)) v7 x7_2) ∧ Zb (Kd.V (Kd.int .u64) 46 w' w.heap.size (fun k_ => (P0_ k_ ∨ w.heap.size ≤ k_) ∧ some k_ ≠ (v7 : Value).ownBlock) v163 t162) ∧ Zb (Below w.heap.size w w'))
     case atStart => exact ⟨(x7_1), (t165), (0), (by first | rfl | (simp; done) | (simp [*]; done)), (by first | rfl | (simp; done) | (simp [*]; done)), H', ⟨Nat.le_refl _⟩, ⟨by (with_reducible repeat first | apply Kd.Zm | apply Kd.Zo); exact HO_7.out⟩, ⟨by (with_reducible repeat first | apply Kd.V_drewN); exact HO164.out⟩, ⟨by repeat (with_reducible first | exact HB.out | apply Zc | apply Za | apply Zd)⟩⟩
     case round =>
      clear H'
      try clear p2
      try clear c4
      try clear c4b0
      try clear c4b1
      try clear c4b2
      try clear c6
      try clear c6b0
      try clear c6b1
      try clear c7
      try clear p2
      obtain ⟨x7_2, x9_2, x35_2, rfl, rfl, HA, HK2, HO_7, HO_8, HB⟩ := hrel
      cases gk with
      | zero => exact absurd HA.out (by simp [bIText.l1])
      | succ k2 =>
       have H := HA.out
       clear HA
       simp only [bIText.l1] at H
       by_cases c10 : x35_2 < t156
       ·rw [if_pos c10] at H
        have c10b0 : decide (x35_2 < t156) = true := decide_eq_true c10
        clear c10
        by_cases c11 : (t162.length : Int) = 0
        ·rw [if_pos c11] at H
         have c11b0 : ((t162.length : Int) == 0) = true := beq_iff_eq.mpr c11
         have c11b1 : ((t162.length : Int) != 0) = false := bne_eq_false_iff_eq.mpr c11
         clear c11
         by_cases c12 : x9_2 = 0
         ·rw [if_pos c12] at H
          have c12b0 : (x9_2 == 0) = true := beq_iff_eq.mpr c12
          have c12b1 : (x9_2 != 0) = false := bne_eq_false_iff_eq.mpr c12
          clear c12
          have H' := Zb.mk H
          clear H
          obtain ⟨Ao13, co13, eo13⟩ := Kd.V_slice HO_8.out
          subst eo13
          go_wp2
          go_roundg k2
          case measure => have := HK1.out; have := HK2.out; omega
          case rel => exact ⟨(x7_2), (t162), H', ⟨by have := HK1.out; have := HK2.out; omega⟩, ⟨by (with_reducible repeat first | apply Kd.Zm | apply Kd.Zo); exact HO_7.out⟩, ⟨by (with_reducible repeat first | apply Kd.V_drewN); exact HO_8.out⟩, ⟨by repeat (with_reducible first | exact HB.out | apply Zc | apply Za | apply Zd)⟩⟩
         ·rw [if_neg c12] at H
          have c12b0 : (x9_2 == 0) = false := beq_eq_false_iff_ne.mpr c12
          have c12b1 : (x9_2 != 0) = true := bne_iff_ne.mpr c12
          by_cases c14 : (IntKind.u64.wrap (a1)) = 0
          ·rw [if_pos c14] at H
           exact absurd H (by simp)
          ·rw [if_neg c14] at H
           have c14b0 : ((IntKind.u64.wrap (a1)) == 0) = false := beq_eq_false_iff_ne.mpr c14
           have c14b1 : ((IntKind.u64.wrap (a1)) != 0) = true := bne_iff_ne.mpr c14
           obtain ⟨ji15, hji15⟩ : ∃ j_ : Int, (Int.tmod x9_2 (IntKind.u64.wrap (a1))) = j_ := ⟨_, rfl⟩
           replace H : (if 0 ≤ (ji15) then (if (ji15) < 36 then (if x7_2.length < 140737488355328 then (bIText.l1 k2 a1 a2 t155 t156 (x7_2 ++ [bt (⟨#[48, 49, 50, 51, 52, 53, 54, 55, 56, 57, 97, 98, 99, 100, 101, 102, 103, 104, 105, 106, 107, 108, 109, 110, 111, 112, 113, 114, 115, 116, 117, 118, 119, 120, 121, 122]⟩ : ByteArray) (ji15)]) t162 (IntKind.u64.wrap (Int.tdiv x9_2 (IntKind.u64.wrap (a1)))) t156 (wrap64 (x35_2 + 1))) else (none)) else (none)) else (none)) = some r := by first | (rw [hji15] at H; exact H) | (simp only [hji15] at H ⊢; exact H)
           by_cases c16 : 0 ≤ (ji15)
           ·rw [if_pos c16] at H
            have c16b0 : decide (0 ≤ (ji15)) = true := decide_eq_true c16
            clear c16
            by_cases c17 : (ji15) < 36
            ·rw [if_pos c17] at H
             have c17b0 : decide ((ji15) < 36) = true := decide_eq_true c17
             clear c17
             by_cases c19 : x7_2.length < 140737488355328
             ·rw [if_pos c19] at H
              have LMc19 := Zb.mk c19
              clear c19
              obtain ⟨y166, hy166⟩ : ∃ y_ : List Int, y_ = (x7_2 ++ [bt (⟨#[48, 49, 50, 51, 52, 53, 54, 55, 56, 57, 97, 98, 99, 100, 101, 102, 103, 104, 105, 106, 107, 108, 109, 110, 111, 112, 113, 114, 115, 116, 117, 118, 119, 120, 121, 122]⟩ : ByteArray) (ji15)]) := ⟨_, rfl⟩
              replace H : (bIText.l1 k2 a1 a2 t155 t156 y166 t162 (IntKind.u64.wrap (Int.tdiv x9_2 (IntKind.u64.wrap (a1)))) t156 (wrap64 (x35_2 + 1))) = some r := by first | (rw [hy166]; with_reducible exact H) | (have H2_ := (Option.bind_some _ _).symm.trans H; rw [hy166]; with_reducible exact H2_) | (have H2_ := (Option.bind_some _ _).symm.trans H; with_reducible exact H2_) | with_reducible exact H | (rw [hy166]; exact H) | exact H
              have Ny166 := Zb.mk hy166
              clear hy166
              have H' := Zb.mk H
              clear H
              obtain ⟨Ao20, co20, eo20⟩ := Kd.V_slice HO_8.out
              subst eo20
              have p18 : 0 ≤ ((ji15) : Int) := of_decide_eq_true (by first | (with_reducible assumption) | assumption)
              have q18 : (ji15) < (36 : Int) := of_decide_eq_true (by first | (with_reducible assumption) | assumption)
              have hx18 := bt_at (⟨#[48, 49, 50, 51, 52, 53, 54, 55, 56, 57, 97, 98, 99, 100, 101, 102, 103, 104, 105, 106, 107, 108, 109, 110, 111, 112, 113, 114, 115, 116, 117, 118, 119, 120, 121, 122]⟩ : ByteArray) (ji15)
              replace p18 := eq_true p18
              replace q18 := eq_true q18
              go_wp2_with (first | ((with_reducible refine gate_builtin (b := .append) (xs := #[.tmp 44, .tmp 50]) rfl ?_); at_builtin; refine Kd.R_append (Kd.int .u8) (w0 := w) w.heap.size rfl (.tmp 44) (.tmp 50) 107 5 (.int .u8 0) 1 rfl Try.underlying107 info5 rfl (by decide) (by omega) u7 x7_2 (bt (⟨#[48, 49, 50, 51, 52, 53, 54, 55, 56, 57, 97, 98, 99, 100, 101, 102, 103, 104, 105, 106, 107, 108, 109, 110, 111, 112, 113, 114, 115, 116, 117, 118, 119, 120, 121, 122]⟩ : ByteArray) (ji15)) [.int .u8 (bt (⟨#[48, 49, 50, 51, 52, 53, 54, 55, 56, 57, 97, 98, 99, 100, 101, 102, 103, 104, 105, 106, 107, 108, 109, 110, 111, 112, 113, 114, 115, 116, 117, 118, 119, 120, 121, 122]⟩ : ByteArray) (ji15))] (fun k_ => (w.heap.size ≤ k_)) (fun _ => False) rfl rfl ?aP (fun _ hk => hk.elim) ?aF ?aO ?aB ?aS ?aL ?_; (case aP => exact rfl); (case aB => exact (by repeat (with_reducible first | exact HB.out | apply Zc | apply Za | apply Zd))); (case aF => exact (fun k_ hk => (Nat.le_trans (Zi (by repeat (with_reducible first | exact HB.out | apply Zc | apply Za | apply Zd))) hk))); (case aO => exact (by (with_reducible repeat first | apply Kd.Zm | apply Kd.Zo); exact HO_7.out)); (case aS => exact (Zi (by repeat (with_reducible first | exact HB.out | apply Zc | apply Za | apply Zd)))); (case aL => have := LMc19.out; omega); intro v167 w21 ho hb hg hat; rw [← Ny166.out] at ho; have n0_ := Zb.mk (Kd.V_afterv (ok := (fun k_ => (P0_ k_ ∨ w.heap.size ≤ k_))) (by (with_reducible repeat first | apply Kd.V_drewN); exact HO_8.out) hg hat); have n1_ := Zb.mk (hb); have n2_ := Zb.mk (ho); clear HO_8; clear HB; clear HO_7; have HO_8 := n0_; have HB := n1_; have HO168 := n2_; clear n0_ n1_ n2_; clear ho hb hg hat))
              go_roundg k2
              case measure => have := HK1.out; have := HK2.out; omega
              case rel => exact ⟨(y166), (IntKind.u64.wrap (Int.tdiv x9_2 (IntKind.u64.wrap (a1)))), (wrap64 (x35_2 + 1)), (by first | rfl | (simp; done) | (simp [*]; done)), (by first | rfl | (simp; done) | (simp [*]; done)), H', ⟨by have := HK1.out; have := HK2.out; omega⟩, ⟨by (with_reducible repeat first | apply Kd.Zm | apply Kd.Zo); exact HO168.out⟩, ⟨by (with_reducible repeat first | apply Kd.V_drewN); exact HO_8.out⟩, ⟨by repeat (with_reducible first | exact HB.out | apply Zc | apply Za | apply Zd)⟩⟩
             ·rw [if_neg c19] at H
              exact absurd H (by simp)
            ·rw [if_neg c17] at H
             exact absurd H (by simp)
           ·rw [if_neg c16] at H
            exact absurd H (by simp)
        ·rw [if_neg c11] at H
         have c11b0 : ((t162.length : Int) == 0) = false := beq_eq_false_iff_ne.mpr c11
         have c11b1 : ((t162.length : Int) != 0) = true := bne_iff_ne.mpr c11
         have c11b2 : ¬ (t162 = []) := fun h_ => c11 (by rw [h_]; rfl)
         by_cases c22 : (IntKind.u64.wrap (a1)) = 0
         ·rw [if_pos c22] at H
          exact absurd H (by simp)
         ·rw [if_neg c22] at H
          have c22b0 : ((IntKind.u64.wrap (a1)) == 0) = false := beq_eq_false_iff_ne.mpr c22
          have c22b1 : ((IntKind.u64.wrap (a1)) != 0) = true := bne_iff_ne.mpr c22
          obtain ⟨ji23, hji23⟩ : ∃ j_ : Int, (Int.tmod x9_2 (IntKind.u64.wrap (a1))) = j_ := ⟨_, rfl⟩
          replace H : (if 0 ≤ (ji23) then (if (ji23) < 36 then (if x7_2.length < 140737488355328 then (bIText.l1 k2 a1 a2 t155 t156 (x7_2 ++ [bt (⟨#[48, 49, 50, 51, 52, 53, 54, 55, 56, 57, 97, 98, 99, 100, 101, 102, 103, 104, 105, 106, 107, 108, 109, 110, 111, 112, 113, 114, 115, 116, 117, 118, 119, 120, 121, 122]⟩ : ByteArray) (ji23)]) t162 (IntKind.u64.wrap (Int.tdiv x9_2 (IntKind.u64.wrap (a1)))) t156 (wrap64 (x35_2 + 1))) else (none)) else (none)) else (none)) = some r := by first | (rw [hji23] at H; exact H) | (simp only [hji23] at H ⊢; exact H)
          by_cases c24 : 0 ≤ (ji23)
          ·rw [if_pos c24] at H
           have c24b0 : decide (0 ≤ (ji23)) = true := decide_eq_true c24
           clear c24
           by_cases c25 : (ji23) < 36
           ·rw [if_pos c25] at H
            have c25b0 : decide ((ji23) < 36) = true := decide_eq_true c25
            clear c25
            by_cases c27 : x7_2.length < 140737488355328
            ·rw [if_pos c27] at H
             have LMc27 := Zb.mk c27
             clear c27
             obtain ⟨y169, hy169⟩ : ∃ y_ : List Int, y_ = (x7_2 ++ [bt (⟨#[48, 49, 50, 51, 52, 53, 54, 55, 56, 57, 97, 98, 99, 100, 101, 102, 103, 104, 105, 106, 107, 108, 109, 110, 111, 112, 113, 114, 115, 116, 117, 118, 119, 120, 121, 122]⟩ : ByteArray) (ji23)]) := ⟨_, rfl⟩
             replace H : (bIText.l1 k2 a1 a2 t155 t156 y169 t162 (IntKind.u64.wrap (Int.tdiv x9_2 (IntKind.u64.wrap (a1)))) t156 (wrap64 (x35_2 + 1))) = some r := by first | (rw [hy169]; with_reducible exact H) | (have H2_ := (Option.bind_some _ _).symm.trans H; rw [hy169]; with_reducible exact H2_) | (have H2_ := (Option.bind_some _ _).symm.trans H; with_reducible exact H2_) | with_reducible exact H | (rw [hy169]; exact H) | exact H
             have Ny169 := Zb.mk hy169
             clear hy169
             have H' := Zb.mk H
             clear H
             obtain ⟨Ao28, co28, eo28⟩ := Kd.V_slice HO_8.out
             subst eo28
             have p26 : 0 ≤ ((ji23) : Int) := of_decide_eq_true (by first | (with_reducible assumption) | assumption)
             have q26 : (ji23) < (36 : Int) := of_decide_eq_true (by first | (with_reducible assumption) | assumption)
             have hx26 := bt_at (⟨#[48, 49, 50, 51, 52, 53, 54, 55, 56, 57, 97, 98, 99, 100, 101, 102, 103, 104, 105, 106, 107, 108, 109, 110, 111, 112, 113, 114, 115, 116, 117, 118, 119, 120, 121, 122]⟩ : ByteArray) (ji23)
             replace p26 := eq_true p26
             replace q26 := eq_true q26
             go_wp2_with (first | ((with_reducible refine gate_builtin (b := .append) (xs := #[.tmp 44, .tmp 50]) rfl ?_); at_builtin; refine Kd.R_append (Kd.int .u8) (w0 := w) w.heap.size rfl (.tmp 44) (.tmp 50) 107 5 (.int .u8 0) 1 rfl Try.underlying107 info5 rfl (by decide) (by omega) u7 x7_2 (bt (⟨#[48, 49, 50, 51, 52, 53, 54, 55, 56, 57, 97, 98, 99, 100, 101, 102, 103, 104, 105, 106, 107, 108, 109, 110, 111, 112, 113, 114, 115, 116, 117, 118, 119, 120, 121, 122]⟩ : ByteArray) (ji23)) [.int .u8 (bt (⟨#[48, 49, 50, 51, 52, 53, 54, 55, 56, 57, 97, 98, 99, 100, 101, 102, 103, 104, 105, 106, 107, 108, 109, 110, 111, 112, 113, 114, 115, 116, 117, 118, 119, 120, 121, 122]⟩ : ByteArray) (ji23))] (fun k_ => (w.heap.size ≤ k_)) (fun _ => False) rfl rfl ?aP (fun _ hk => hk.elim) ?aF ?aO ?aB ?aS ?aL ?_; (case aP => exact rfl); (case aB => exact (by repeat (with_reducible first | exact HB.out | apply Zc | apply Za | apply Zd))); (case aF => exact (fun k_ hk => (Nat.le_trans (Zi (by repeat (with_reducible first | exact HB.out | apply Zc | apply Za | apply Zd))) hk))); (case aO => exact (by (with_reducible repeat first | apply Kd.Zm | apply Kd.Zo); exact HO_7.out)); (case aS => exact (Zi (by repeat (with_reducible first | exact HB.out | apply Zc | apply Za | apply Zd)))); (case aL => have := LMc27.out; omega); intro v170 w29 ho hb hg hat; rw [← Ny169.out] at ho; have n0_ := Zb.mk (Kd.V_afterv (ok := (fun k_ => (P0_ k_ ∨ w.heap.size ≤ k_))) (by (with_reducible repeat first | apply Kd.V_drewN); exact HO_8.out) hg hat); have n1_ := Zb.mk (hb); have n2_ := Zb.mk (ho); clear HO_8; clear HB; clear HO_7; have HO_8 := n0_; have HB := n1_; have HO171 := n2_; clear n0_ n1_ n2_; clear ho hb hg hat))
             go_roundg k2
             case measure => have := HK1.out; have := HK2.out; omega
             case rel => exact ⟨(y169), (IntKind.u64.wrap (Int.tdiv x9_2 (IntKind.u64.wrap (a1)))), (wrap64 (x35_2 + 1)), (by first | rfl | (simp; done) | (simp [*]; done)), (by first | rfl | (simp; done) | (simp [*]; done)), H', ⟨by have := HK1.out; have := HK2.out; omega⟩, ⟨by (with_reducible repeat first | apply Kd.Zm | apply Kd.Zo); exact HO171.out⟩, ⟨by (with_reducible repeat first | apply Kd.V_drewN); exact HO_8.out⟩, ⟨by repeat (with_reducible first | exact HB.out | apply Zc | apply Za | apply Zd)⟩⟩
            ·rw [if_neg c27] at H
             exact absurd H (by simp)
           ·rw [if_neg c25] at H
            exact absurd H (by simp)
          ·rw [if_neg c24] at H
           exact absurd H (by simp)
       ·rw [if_neg c10] at H
        have c10b0 : decide (x35_2 < t156) = false := decide_eq_false c10
        clear c10
        have H' := Zb.mk H
        clear H
        go_wp2
        go_roundg k2
        case measure => have := HK1.out; have := HK2.out; omega
        case rel => exact ⟨(x7_2), (t162), H', ⟨by have := HK1.out; have := HK2.out; omega⟩, ⟨by (with_reducible repeat first | apply Kd.Zm | apply Kd.Zo); exact HO_7.out⟩, ⟨by (with_reducible repeat first | apply Kd.V_drewN); exact HO_8.out⟩, ⟨by repeat (with_reducible first | exact HB.out | apply Zc | apply Za | apply Zd)⟩⟩
    ·rw [if_neg c6] at H
     have c6b0 : decide (0 < (x8_1.length : Int)) = false := decide_eq_false c6
     have c6b1 : decide (0 < x8_1.length) = false := decide_eq_false (by omega)
     clear c6
     have hgw0 : wr.cell? ⟨g, 0, none⟩ = some (.bool a2) := Zk (Zn HG.out HB.out) 0
     by_cases c30 : a2 = true
     ·subst c30
      have H1 : (if x7_1.length < 140737488355328 then ((sRev.f k1 (x7_1 ++ [45])).bind fun t160 => (some (strOfNums t160))) else (none)) = some r := by rw [if_pos rfl] at H; exact H
      clear H
      have H := H1
      clear H1
      by_cases c31 : x7_1.length < 140737488355328
      ·rw [if_pos c31] at H
       have LMc31 := Zb.mk c31
       clear c31
       obtain ⟨y157, hy157⟩ : ∃ y_ : List Int, y_ = (x7_1 ++ [45]) := ⟨_, rfl⟩
       replace H : ((sRev.f k1 y157).bind fun t160 => (some (strOfNums t160))) = some r := by first | (rw [hy157]; with_reducible exact H) | (have H2_ := (Option.bind_some _ _).symm.trans H; rw [hy157]; with_reducible exact H2_) | (have H2_ := (Option.bind_some _ _).symm.trans H; with_reducible exact H2_) | with_reducible exact H | (rw [hy157]; exact H) | exact H
       have Ny157 := Zb.mk hy157
       clear hy157
       replace H := Option.bind_eq_some_iff.mp H
       obtain ⟨t160, A320, H⟩ := H
       replace H : (some (strOfNums t160)) = some r := H
       have A32 := Zb.mk A320
       clear A320
       obtain rfl := Option.some.inj H
       obtain ⟨Ao33, co33, eo33⟩ := Kd.V_slice HO_8.out
       subst eo33
       go_wp2_with (first | ((with_reducible refine gate_builtin (b := .append) (xs := #[.tmp 61, .tmp 62]) rfl ?_); at_builtin; refine Kd.R_append (Kd.int .u8) (w0 := w) w.heap.size rfl (.tmp 61) (.tmp 62) 107 5 (.int .u8 0) 1 rfl Try.underlying107 info5 rfl (by decide) (by omega) u7 x7_1 45 [.int .u8 45] (fun k_ => (w.heap.size ≤ k_)) (fun _ => False) rfl rfl ?aP (fun _ hk => hk.elim) ?aF ?aO ?aB ?aS ?aL ?_; (case aP => exact rfl); (case aB => exact (by repeat (with_reducible first | exact HB.out | apply Zc | apply Za | apply Zd))); (case aF => exact (fun k_ hk => (Nat.le_trans (Zi (by repeat (with_reducible first | exact HB.out | apply Zc | apply Za | apply Zd))) hk))); (case aO => exact (by (with_reducible repeat first | apply Kd.Zm | apply Kd.Zo); exact HO_7.out)); (case aS => exact (Zi (by repeat (with_reducible first | exact HB.out | apply Zc | apply Za | apply Zd)))); (case aL => have := LMc31.out; omega); intro v158 w34 ho hb hg hat; rw [← Ny157.out] at ho; have n0_ := Zb.mk (Kd.V_afterv (ok := (fun k_ => (P0_ k_ ∨ w.heap.size ≤ k_))) (by (with_reducible repeat first | apply Kd.V_drewN); exact HO_8.out) hg hat); have n1_ := Zb.mk (hb); have n2_ := Zb.mk (ho); clear HO_8; clear HB; clear HO_7; have HO_8 := n0_; have HB := n1_; have HO159 := n2_; clear n0_ n1_ n2_; clear ho hb hg hat; obtain ⟨Ao35, co35, eo35⟩ := Kd.Zy HO159.out; subst eo35) | ((with_reducible refine Zp (f := 79) rfl ?_); refine ZB (some 65) rfl rfl Try.func79 (by kernel_rfl) rfl #[.slice Ao35 y157.length co35] rfl (by (try simp only [List.map_toArray, List.map_cons, List.map_nil]); first | done | rfl | (simp only [List.length_drop, List.length_take]; rfl)) ?_; (with_reducible refine (sRev.calls k1 (fun k_ => some k_ = (.slice Ao35 y157.length co35 : Value).ownBlock) (.slice Ao35 y157.length co35) y157 t160 w _ ?side1 ?side2 A32.out).mono ?_); (case side1 => repeat (with_reducible first | exact HB.out | apply Zc | apply Za | apply Zd)); (case side2 => exact Kd.R_tight rfl HO159.out); rintro e w36 ⟨rfl, hy0, hb, hkp⟩; refine ⟨_, rfl, ?_⟩; have n0_ := Zb.mk (Kd.V_mono (ok' := fun k_ => (P0_ k_ ∨ w.heap.size ≤ k_) ∧ some k_ ≠ (.slice Ao35 y157.length co35 : Value).ownBlock) (Kd.V_keptB (HO_8.out) hkp (fun k_ hk_ hs_ => (hk_.2) hs_)) (fun k_ hk_ => ⟨hk_.1.1, hk_.1.2⟩)); have n1_ := Zb.mk (Kd.R_reok rfl hy0 (fun k_ e_ => HO159.out.1 k_ e_)); have n2_ := Zb.mk (hb); clear HO_8; clear HO159; clear HB; have HO_8 := n0_; have HO159 := n1_; have HB := n2_; clear n0_ n1_ n2_; (try clear hb); (try clear hkp); (try clear hy0); have hcv37 := own_string (P := Try.prog) Try.underlying107 Try.underlying5 Try.underlying9 (Kd.own_of_R HO159.out)))
       go_ret
       exact ⟨by first | rfl | (simp [errW_none, errW_some] <;> rfl) | (simp [*, errW_none, errW_some] <;> rfl), by repeat (with_reducible first | exact HB.out | apply Zc | apply Za | apply Zd)⟩
      ·rw [if_neg c31] at H
       exact absurd H (by simp)
     ·replace c30 := Bool.eq_false_iff.mpr c30
      subst c30
      have H1 : ((sRev.f k1 x7_1).bind fun t161 => (some (strOfNums t161))) = some r := by rw [if_neg (show ¬ (false = true) by decide)] at H; exact H
      clear H
      have H := H1
      clear H1
      replace H := Option.bind_eq_some_iff.mp H
      obtain ⟨t161, A380, H⟩ := H
      replace H : (some (strOfNums t161)) = some r := H
      have A38 := Zb.mk A380
      clear A380
      obtain rfl := Option.some.inj H
      obtain ⟨Ao39, co39, eo39⟩ := Kd.V_slice HO_8.out
      subst eo39
      obtain ⟨Ao40, co40, eo40⟩ := Kd.Zy HO_7.out
      subst eo40
      go_wp2_with (first | ((with_reducible refine Zp (f := 79) rfl ?_); refine ZB (some 65) rfl rfl Try.func79 (by kernel_rfl) rfl #[.slice Ao40 x7_1.length co40] rfl (by (try simp only [List.map_toArray, List.map_cons, List.map_nil]); first | done | rfl | (simp only [List.length_drop, List.length_take]; rfl)) ?_; (with_reducible refine (sRev.calls k1 (fun k_ => some k_ = (.slice Ao40 x7_1.length co40 : Value).ownBlock) (.slice Ao40 x7_1.length co40) x7_1 t161 w _ ?side1 ?side2 A38.out).mono ?_); (case side1 => repeat (with_reducible first | exact HB.out | apply Zc | apply Za | apply Zd)); (case side2 => exact Kd.R_tight rfl HO_7.out); rintro e w41 ⟨rfl, hy0, hb, hkp⟩; refine ⟨_, rfl, ?_⟩; have n0_ := Zb.mk (Kd.R_reok rfl hy0 (fun k_ e_ => HO_7.out.1 k_ e_)); have n1_ := Zb.mk (Kd.V_mono (ok' := fun k_ => (P0_ k_ ∨ w.heap.size ≤ k_) ∧ some k_ ≠ (.slice Ao40 x7_1.length co40 : Value).ownBlock) (Kd.V_keptB (HO_8.out) hkp (fun k_ hk_ hs_ => (hk_.2) hs_)) (fun k_ hk_ => ⟨hk_.1.1, hk_.1.2⟩)); have n2_ := Zb.mk (hb); clear HO_7; clear HO_8; clear HB; have HO_7 := n0_; have HO_8 := n1_; have HB := n2_; clear n0_ n1_ n2_; (try clear hb); (try clear hkp); (try clear hy0); have hcv42 := own_string (P := Try.prog) Try.underlying107 Try.underlying5 Try.underlying9 (Kd.own_of_R HO_7.out)))
      go_ret
      exact ⟨by first | rfl | (simp [errW_none, errW_some] <;> rfl) | (simp [*, errW_none, errW_some] <;> rfl), by repeat (with_reducible first | exact HB.out | apply Zc | apply Za | apply Zd)⟩
end Go.Proofs.Ytbmddlldadbfnaa.BA
end

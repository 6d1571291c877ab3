/- Part of the proof that what is read twice of the text of a number of at most 40 limbs lies apart, spare room and all, and what is read a third time is what was read first. -/
import Derived.Test.YtbmddlldadbfnaaCG2
section
namespace Go.Proofs.Ytbmddlldadbfnaa.BA
open Go.RowKit Go.Proofs.YtbmddlldadbfnaaW.PrintWords Go.Proofs.YtbmddlldadbfnaaW.PrintLast Go.Proofs.YtbmddlldadbfnaaW.PrintMore
attribute [local go_sem] ZU ZS max_two min_two ZP ZO ZT ZR
set_option linter.unusedVariables false
set_option linter.unusedSimpArgs false
def sRev.l0 : Nat → List Int → Int → Int → Option (List Int)
 | 0, _, _, _ => none
 | k + 1, x0, x2, x3 => if x2 < x3 then (if 0 ≤ x3 then (if x3 < (x0.length : Int) then (if 0 ≤ x2 then (if x2 < (x0.length : Int) then (sRev.l0 k ((x0.set (x2 : Int).toNat (rd x0 x3)).set (x3 : Int).toNat (rd x0 x2)) (wrap64 (x2 + 1)) (wrap64 (x3 - 1))) else (none)) else (none)) else (none)) else (none)) else (some x0)
def sRev.f (k : Nat) (l0 : List Int) : Option (List Int) := sRev.l0 k l0 0 (wrap64 ((l0.length : Int) - 1))
theorem sRev.mono_l : ∀ k, (∀ y0 y1 y2, LeO (sRev.l0 k y0 y1 y2) (sRev.l0 (k + 1) y0 y1 y2))
 | 0 => fun _ _ _ r h => by simp [sRev.l0] at h
 | k + 1 => by
  have ih0 := sRev.mono_l k
  ·intro y0 y1 y2
   unfold sRev.l0
   repeat' first
   | (with_reducible exact ih0 _ _ _)
   | (with_reducible exact LeO.refl _)
   | (with_reducible exact LeO.none _)
   | (with_reducible refine LeO.ite ?_ ?_)
   | (with_reducible refine LeO.bind ?_ (fun _ => ?_))
   | exact ih0 _ _ _
   | exact LeO.none _
   | refine LeO.ite ?_ ?_
   | refine LeO.bind ?_ (fun _ => ?_)
theorem sRev.mono : ∀ a0 k, LeO (sRev.f k a0) (sRev.f (k + 1) a0) := by
 intro a0 k
 have ih0 := sRev.mono_l k
 unfold sRev.f
 repeat' first
   | (with_reducible exact ih0 _ _ _)
   | (with_reducible exact LeO.refl _)
   | (with_reducible exact LeO.none _)
   | (with_reducible refine LeO.ite ?_ ?_)
   | (with_reducible refine LeO.bind ?_ (fun _ => ?_))
   | exact ih0 _ _ _
   | exact LeO.none _
   | refine LeO.ite ?_ ?_
   | refine LeO.bind ?_ (fun _ => ?_)
def sRev.T3 : Bool × List (List Nat × List Nat) := (true, [([], []), ([], []), ([], []), ([], []), ([], []), ([], []), ([4, 5], [4, 5]), ([6], [6]), ([], []), ([], []), ([8, 9], [8, 9]), ([10], [10]), ([0, 1, 0, 1, 4, 5, 6, 7, 11], [0, 1]), ([12, 7, 0, 1, 4, 5, 6, 7, 11], [7, 12]), ([2, 3, 0, 1, 2, 3, 4, 5, 6, 7, 8, 9, 10, 11, 12, 13], [2, 3]), ([14, 11, 13, 0, 1, 2, 3, 4, 5, 6, 7, 8, 9, 10, 11, 12, 13], [11, 14])])
def sRev.B3 : List Nat := [0, 0, 0, 0, 0, 0, 48, 112, 0, 0, 768, 1792, 4083, 8179, 16383, 32767]
theorem sRev.tab3 : rtab .any (opsOf Try.f79 3) = sRev.T3 := by kernel_rfl
theorem sRev.bits3 : waitsOk sRev.T3.2 sRev.B3 = true := by kernel_rfl
set_option maxHeartbeats 8000000 in
set_option maxRecDepth 100000 in
theorem sRev.calls (k : Nat) (P0_ : Nat → Prop) (u9000_ : Value) (l0 : List Int) (r : List Int) (w0 w : World) (hB : Below w0.heap.size w0 w) (ho0 : Kd.R (Kd.int .u8) 5 w w0.heap.size P0_ u9000_ l0) (h : sRev.f k l0 = some r) :
  Calls Try.prog 79 #[u9000_] w fun e w' => e = .returned (.tuple #[]) ∧ Kd.R (Kd.int .u8) 5 w' w0.heap.size (fun k_ => (P0_ k_ ∨ w.heap.size ≤ k_)) u9000_ r ∧ Below w0.heap.size w0 w' ∧ Kept w w' (fun k_ => P0_ k_) := by
 have HO0 := Zb.mk (show Kd.R (Kd.int .u8) 5 w w0.heap.size (fun k_ => (P0_ k_ ∨ w.heap.size ≤ k_)) u9000_ l0 from Kd.ZE ho0 (fun k_ hk => (.inl hk)))
 have HK := Zb.mk (Kept.refl w (fun k_ => P0_ k_))
 have HW0 := Zb.mk hB.size
 have HB := Zb.mk hB
 clear hB
 have H : (sRev.l0 k l0 0 (wrap64 ((l0.length : Int) - 1))) = some r := h
 clear h
 have H' := Zb.mk H
 clear H
 obtain ⟨Ao2, co2, eo2⟩ := Kd.Zy HO0.out
 subst eo2
 go_enter Try.func79, Try.ntmps79
 go_wp2
 go_loopg [2, 3] k (fun kq v2 v3 w' => ∃ (x0_1 : List Int) (x2_1 : Int) (x3_1 : Int), v2 = .int .i64 x2_1 ∧ v3 = .int .i64 x3_1 ∧ Zb (sRev.l0 kq x0_1 x2_1 x3_1 = some r) ∧ Zb (kq ≤ k) ∧ Zb (Kd.R (Kd.int .u8) 5 w' w0.heap.size (fun k_ => (P0_ k_ ∨ w.heap.size ≤ k_)) (.slice Ao2 l0.length co2) x0_1) ∧ Zb (Kept w w' (fun k_ => P0_ k_)) ∧ Zb (Below w0.heap.size w0 w'))
 case atStart => exact ⟨(l0), (0), (wrap64 ((l0.length : Int) - 1)), (by first | rfl | (simp; done) | (simp [*]; done)), (by first | rfl | (simp; done) | (simp [*]; done)), H', ⟨Nat.le_refl _⟩, ⟨by (with_reducible repeat first | apply Kd.Zm | apply Kd.Zo); exact HO0.out⟩, ⟨by repeat (with_reducible first | exact HK.out | apply Kept.alloc | apply Kept.drewN | apply Kept.drew)⟩, ⟨by repeat (with_reducible first | exact HB.out | apply Zc | apply Za | apply Zd)⟩⟩
 case round =>
  clear H'
  try clear p2
  obtain ⟨x0_1, x2_1, x3_1, rfl, rfl, HA, HK1, HO_0, HK, HB⟩ := hrel
  have hl0_1 := (Kd.Zv HO_0.out).1
  rw [hl0_1] at HO_0
  (try simp only [hl0_1])
  cases gk with
  | zero => exact absurd HA.out (by simp [sRev.l0])
  | succ k1 =>
   have H := HA.out
   clear HA
   simp only [sRev.l0] at H
   by_cases c3 : x2_1 < x3_1
   ·rw [if_pos c3] at H
    have c3b0 : decide (x2_1 < x3_1) = true := decide_eq_true c3
    clear c3
    by_cases c4 : 0 ≤ x3_1
    ·rw [if_pos c4] at H
     have c4b0 : decide (0 ≤ x3_1) = true := decide_eq_true c4
     clear c4
     by_cases c5 : x3_1 < (x0_1.length : Int)
     ·rw [if_pos c5] at H
      have c5b0 : decide (x3_1 < (x0_1.length : Int)) = true := decide_eq_true c5
      clear c5
      by_cases c6 : 0 ≤ x2_1
      ·rw [if_pos c6] at H
       have c6b0 : decide (0 ≤ x2_1) = true := decide_eq_true c6
       clear c6
       by_cases c7 : x2_1 < (x0_1.length : Int)
       ·rw [if_pos c7] at H
        have c7b0 : decide (x2_1 < (x0_1.length : Int)) = true := decide_eq_true c7
        clear c7
        obtain ⟨y126, hy126⟩ : ∃ y_ : List Int, y_ = (x0_1.set (x2_1 : Int).toNat (rd x0_1 x3_1)) := ⟨_, rfl⟩
        replace H : (sRev.l0 k1 (y126.set (x3_1 : Int).toNat (rd x0_1 x2_1)) (wrap64 (x2_1 + 1)) (wrap64 (x3_1 - 1))) = some r := by first | (rw [hy126]; with_reducible exact H) | (have H2_ := (Option.bind_some _ _).symm.trans H; rw [hy126]; with_reducible exact H2_) | (have H2_ := (Option.bind_some _ _).symm.trans H; with_reducible exact H2_) | with_reducible exact H | (rw [hy126]; exact H) | exact H
        have Ny126 := Zb.mk hy126
        clear hy126
        obtain ⟨y127, hy127⟩ : ∃ y_ : List Int, y_ = (y126.set (x3_1 : Int).toNat (rd x0_1 x2_1)) := ⟨_, rfl⟩
        replace H : (sRev.l0 k1 y127 (wrap64 (x2_1 + 1)) (wrap64 (x3_1 - 1))) = some r := by first | (rw [hy127]; with_reducible exact H) | (have H2_ := (Option.bind_some _ _).symm.trans H; rw [hy127]; with_reducible exact H2_) | (have H2_ := (Option.bind_some _ _).symm.trans H; with_reducible exact H2_) | with_reducible exact H | (rw [hy127]; exact H) | exact H
        have Ny127 := Zb.mk hy127
        clear hy127
        have H' := Zb.mk H
        clear H
        try go_wp2
        have n0_ := Zb.mk (Kd.Zo HO_0.out)
        have n1_ := Zb.mk (Kept.drew HK.out)
        have n2_ := Zb.mk (Zd HB.out)
        clear HO_0
        clear HK
        clear HB
        have HO_0 := n0_
        have HK := n1_
        have HB := n2_
        clear n0_ n1_ n2_
        have p124 : 0 ≤ (x3_1 : Int) := of_decide_eq_true (by first | (with_reducible assumption) | assumption)
        have q124 : x3_1 < (x0_1.length : Int) := of_decide_eq_true (by first | (with_reducible assumption) | assumption)
        obtain ⟨ad124, e124, hx124_0⟩ := Kd.at_int (Kd.Zv HO_0.out).2.2 x3_1 p124 q124
        cases e124
        replace p124 := eq_true p124
        replace q124 := eq_true q124
        have p125 : 0 ≤ (x2_1 : Int) := of_decide_eq_true (by first | (with_reducible assumption) | assumption)
        have q125 : x2_1 < (x0_1.length : Int) := of_decide_eq_true (by first | (with_reducible assumption) | assumption)
        obtain ⟨ad125, e125, hx125_0⟩ := Kd.at_int (Kd.Zv HO_0.out).2.2 x2_1 p125 q125
        obtain rfl : ad124 = ad125 := (by injection e125)
        replace p125 := eq_true p125
        replace q125 := eq_true q125
        have p8 : 0 ≤ (x2_1 : Int) := of_decide_eq_true (by first | (with_reducible assumption) | assumption)
        have q8 : (x2_1 : Int) < ((x0_1.length : Int) : Int) := of_decide_eq_true (by first | (with_reducible assumption) | assumption)
        obtain ⟨go8, co8, eo8, gb8, gl8, cl8, HG8⟩ := Kd.R_form HO_0.out (by omega)
        (first | cases eo8 | (injection eo8 with ea_ en_ ec_; (first | subst ea_ | (injection ea_ with ea_; subst ea_)); subst ec_; clear en_))
        have GB8 := Zb.mk gb8
        have GG8 := Zb.mk HG8
        clear gb8 gl8 HG8
        have HMgo8 := Zb.mk (show (P0_ go8 ∨ w.heap.size ≤ go8) from (HO_0.out.1 _ rfl))
        (first | simp only [add_plain] at hx124_0 | skip)
        (first | simp only [add_plain] at hx125_0 | skip)
        obtain ⟨hx8_0, hf8_0⟩ := Kd.R_celln 0 HO_0.out (x2_1 : Int) p8 q8
        replace p8 := eq_true p8
        replace q8 := eq_true q8
        have HP11 := Kd.R_putn HO_0.out (x2_1 : Int) (rd x0_1 x3_1)
        rw [← Ny126.out] at HP11
        have HQ11 := Zb.mk HP11
        clear HP11
        have p9 : 0 ≤ (x3_1 : Int) := of_decide_eq_true (by first | (with_reducible assumption) | assumption)
        have q9 : (x3_1 : Int) < ((x0_1.length : Int) : Int) := of_decide_eq_true (by first | (with_reducible assumption) | assumption)
        obtain ⟨hx9_0, hf9_0⟩ := Kd.R_celln 0 HQ11.out (x3_1 : Int) p9 q9
        replace p9 := eq_true p9
        replace q9 := eq_true q9
        have HP12 := Kd.R_putn HQ11.out (x3_1 : Int) (rd x0_1 x2_1)
        rw [← Ny127.out] at HP12
        have HQ12 := Zb.mk HP12
        clear HP12
        refine start_ (n := 16) (S := fun w' => w'.cell? ⟨go8, (x3_1).toNat, none⟩ = some (.int .u8 (rd x0_1 x3_1)) ∧ w'.cell? ⟨go8, (x2_1).toNat, none⟩ = some (.int .u8 (rd x0_1 x2_1))) (ds := [13, 15]) #[false, false, false, false, false, false, false, false, false, false, false, false, false, false, false, false] (by kernel_rfl) rfl rfl ⟨hx124_0, hx125_0⟩ (fun hHeld => ?_); refine with_tabW sRev.tab3 sRev.bits3 (fun HT_ HW_ => ?_)
        generalize wr.drew = w10 at HO_0 HK HB GG8 HQ11 HQ12 hf8_0 hf9_0 hx124_0 hx125_0 hx8_0 hx9_0 hHeld ⊢
        refine ZM (i := 0) (N := some 14) (v := ?_) (a' := ?_) #[true, false, false, false, false, false, false, false, false, false, false, false, false, false, false, false] rfl rfl (ZD HT_.out (by kernel_rfl)) (fun _ _ _ h => h) (Or.inl ⟨by rfl, ?_⟩) ?_ ?_
        rotate_left
        ·intro w'
         go_simp
         with_reducible rfl
        rotate_left
        ·simp only [Act.put, List.setIfInBounds_toArray, List.set_cons_zero, List.set_cons_succ, Zx, ZA]
         rfl
        refine ZM (i := 1) (N := some 15) (v := ?_) (a' := ?_) #[true, true, false, false, false, false, false, false, false, false, false, false, false, false, false, false] rfl rfl (ZD HT_.out (by kernel_rfl)) (fun _ _ _ h => h) (Or.inl ⟨by rfl, ?_⟩) ?_ ?_
        rotate_left
        ·intro w'
         go_simp
         with_reducible rfl
        rotate_left
        ·simp only [Act.put, List.setIfInBounds_toArray, List.set_cons_zero, List.set_cons_succ, Zx, ZA]
         rfl
        refine ZM (i := 2) (N := some 16) (v := ?_) (a' := ?_) #[true, true, true, false, false, false, false, false, false, false, false, false, false, false, false, false] rfl rfl (ZD HT_.out (by kernel_rfl)) (fun _ _ _ h => h) (Or.inl ⟨by rfl, ?_⟩) ?_ ?_
        rotate_left
        ·intro w'
         go_simp
         with_reducible rfl
        rotate_left
        ·simp only [Act.put, List.setIfInBounds_toArray, List.set_cons_zero, List.set_cons_succ, Zx, ZA]
         rfl
        refine ZM (i := 3) (N := some 17) (v := ?_) (a' := ?_) #[true, true, true, true, false, false, false, false, false, false, false, false, false, false, false, false] rfl rfl (ZD HT_.out (by kernel_rfl)) (fun _ _ _ h => h) (Or.inl ⟨by rfl, ?_⟩) ?_ ?_
        rotate_left
        ·intro w'
         go_simp
         with_reducible rfl
        rotate_left
        ·simp only [Act.put, List.setIfInBounds_toArray, List.set_cons_zero, List.set_cons_succ, Zx, ZA]
         rfl
        refine ZM (i := 4) (N := some 18) (v := ?_) (a' := ?_) #[true, true, true, true, true, false, false, false, false, false, false, false, false, false, false, false] rfl rfl (ZD HT_.out (by kernel_rfl)) (fun _ _ _ h => h) (Or.inl ⟨by rfl, ?_⟩) ?_ ?_
        rotate_left
        ·intro w'
         go_simp
         with_reducible rfl
        rotate_left
        ·simp only [Act.put, List.setIfInBounds_toArray, List.set_cons_zero, List.set_cons_succ, Zx, ZA]
         rfl
        refine ZM (i := 5) (N := some 19) (v := ?_) (a' := ?_) #[true, true, true, true, true, true, false, false, false, false, false, false, false, false, false, false] rfl rfl (ZD HT_.out (by kernel_rfl)) (fun _ _ _ h => h) (Or.inl ⟨by rfl, ?_⟩) ?_ ?_
        rotate_left
        ·intro w'
         go_simp
         with_reducible rfl
        rotate_left
        ·simp only [Act.put, List.setIfInBounds_toArray, List.set_cons_zero, List.set_cons_succ, Zx, ZA]
         rfl
        refine ZM (i := 6) (N := some 20) (v := ?_) (a' := ?_) #[true, true, true, true, true, true, true, false, false, false, false, false, false, false, false, false] rfl rfl (ZD HT_.out (by kernel_rfl)) (fun _ _ _ h => h) (Or.inl ⟨by rfl, ?_⟩) ?_ ?_
        rotate_left
        ·intro w'
         go_simp
         with_reducible rfl
        rotate_left
        ·simp only [Act.put, List.setIfInBounds_toArray, List.set_cons_zero, List.set_cons_succ, Zx, ZA]
         rfl
        refine ZM (i := 8) (N := some 22) (v := ?_) (a' := ?_) #[true, true, true, true, true, true, true, false, true, false, false, false, false, false, false, false] rfl rfl (ZD HT_.out (by kernel_rfl)) (fun _ _ _ h => h) (Or.inl ⟨by rfl, ?_⟩) ?_ ?_
        rotate_left
        ·intro w'
         go_simp
         with_reducible rfl
        rotate_left
        ·simp only [Act.put, List.setIfInBounds_toArray, List.set_cons_zero, List.set_cons_succ, Zx, ZA]
         rfl
        refine ZM (i := 9) (N := some 23) (v := ?_) (a' := ?_) #[true, true, true, true, true, true, true, false, true, true, false, false, false, false, false, false] rfl rfl (ZD HT_.out (by kernel_rfl)) (fun _ _ _ h => h) (Or.inl ⟨by rfl, ?_⟩) ?_ ?_
        rotate_left
        ·intro w'
         go_simp
         with_reducible rfl
        rotate_left
        ·simp only [Act.put, List.setIfInBounds_toArray, List.set_cons_zero, List.set_cons_succ, Zx, ZA]
         rfl
        refine ZM (i := 10) (N := some 24) (v := ?_) (a' := ?_) #[true, true, true, true, true, true, true, false, true, true, true, false, false, false, false, false] rfl rfl (ZD HT_.out (by kernel_rfl)) (fun _ _ _ h => h) (Or.inl ⟨by rfl, ?_⟩) ?_ ?_
        rotate_left
        ·intro w'
         go_simp
         with_reducible rfl
        rotate_left
        ·simp only [Act.put, List.setIfInBounds_toArray, List.set_cons_zero, List.set_cons_succ, Zx, ZA]
         rfl
        refine take_ (i := 7) (N := some 21) (v := ?_) (a' := ?_) #[true, true, true, true, true, true, true, true, true, true, true, false, false, false, false, false] rfl rfl (take_ofW HT_.out HW_.out (by kernel_rfl)) (fun _ _ _ h => h) (Or.inl ⟨by rfl, ?_⟩) hHeld ?_ ?_
        rotate_left
        ·rintro w' ⟨s0, s1⟩
         go_simp
         with_reducible rfl
        rotate_left
        ·simp only [Act.put, List.setIfInBounds_toArray, List.set_cons_zero, List.set_cons_succ, Zx, ZA]
         rfl
        refine take_ (i := 11) (N := some 25) (v := ?_) (a' := ?_) #[true, true, true, true, true, true, true, true, true, true, true, true, false, false, false, false] rfl rfl (take_ofW HT_.out HW_.out (by kernel_rfl)) (fun _ _ _ h => h) (Or.inl ⟨by rfl, ?_⟩) hHeld ?_ ?_
        rotate_left
        ·rintro w' ⟨s0, s1⟩
         go_simp
         with_reducible rfl
        rotate_left
        ·simp only [Act.put, List.setIfInBounds_toArray, List.set_cons_zero, List.set_cons_succ, Zx, ZA]
         rfl
        refine ZM (i := 12) (N := some 26) (v := ?_) (a' := ?_) #[true, true, true, true, true, true, true, true, true, true, true, true, true, false, false, false] rfl rfl (ZD HT_.out (by kernel_rfl)) (fun _ _ _ h => h) (Or.inl ⟨by rfl, ?_⟩) ?_ ?_
        rotate_left
        ·intro w'
         go_simp
         with_reducible rfl
        rotate_left
        ·simp only [Act.put, List.setIfInBounds_toArray, List.set_cons_zero, List.set_cons_succ, Zx, ZA]
         rfl
        refine last_ (i := 13) (N := none) #[true, true, true, true, true, true, true, true, true, true, true, true, true, true, false, false] rfl rfl (one_of HT_.out (by kernel_rfl)) (by decide) (fun K hK => ?_)
        refine skip_ (w1 := ?_) (by rfl) rfl ?_ ?_
        rotate_left
        ·go_simp
         rfl
        refine hK.out _ _ ?_
        clear hK K
        refine ZM (i := 14) (N := some 27) (v := ?_) (a' := ?_) #[true, true, true, true, true, true, true, true, true, true, true, true, true, true, true, false] rfl rfl (ZD HT_.out (by kernel_rfl)) (fun _ _ _ h => h) (Or.inl ⟨by rfl, ?_⟩) ?_ ?_
        rotate_left
        ·intro w'
         go_simp
         with_reducible rfl
        rotate_left
        ·simp only [Act.put, List.setIfInBounds_toArray, List.set_cons_zero, List.set_cons_succ, Zx, ZA]
         rfl
        refine last_ (i := 15) (N := none) #[true, true, true, true, true, true, true, true, true, true, true, true, true, true, true, true] rfl rfl (one_of HT_.out (by kernel_rfl)) (by decide) (fun K hK => ?_)
        refine skip_ (w1 := ?_) (by rfl) rfl ?_ ?_
        rotate_left
        ·go_simp
         rfl
        refine hK.out _ _ ?_
        clear hK K
        refine done_ (done_of HT_.out (by kernel_rfl)) ?_
        try go_wp2
        (try simp only [← hl0_1])
        go_roundg k1
        case measure => have := HK1.out; omega
        case rel => exact ⟨(y127), (wrap64 (x2_1 + 1)), (wrap64 (x3_1 - 1)), (by first | rfl | (simp; done) | (simp [*]; done)), (by first | rfl | (simp; done) | (simp [*]; done)), H', ⟨by have := HK1.out; omega⟩, ⟨by (try simp only [hl0_1]); (with_reducible repeat first | apply Kd.Zm | apply Kd.Zo); exact HQ12.out⟩, ⟨by repeat (with_reducible first | exact HK.out | apply Kept.alloc | apply Kept.drewN | apply Kept.drew | refine Kept.setCell ?_ HMgo8.out _ | refine Kept.setCell ?_ HMgo8.out _)⟩, ⟨by repeat (with_reducible first | exact HB.out | apply Zc | apply Za | apply Zd | refine Zh ?_ GB8.out | refine Zh ?_ GB8.out)⟩⟩
       ·rw [if_neg c7] at H
        exact absurd H (by simp)
      ·rw [if_neg c6] at H
       exact absurd H (by simp)
     ·rw [if_neg c5] at H
      exact absurd H (by simp)
    ·rw [if_neg c4] at H
     exact absurd H (by simp)
   ·rw [if_neg c3] at H
    have c3b0 : decide (x2_1 < x3_1) = false := decide_eq_false c3
    clear c3
    obtain rfl := Option.some.inj H
    go_wp2
    first | go_end0 | ((try simp only [Exit.inBlock, Exit.then]); refine bodyPost_ret (results_none rfl _ _ _) rfl ?_)
    exact ⟨by first | rfl | (simp [errW_none, errW_some] <;> rfl) | (simp [*, errW_none, errW_some] <;> rfl), (by first | exact (by (with_reducible repeat first | apply Kd.Zm | apply Kd.Zo); exact HO_0.out) | (simp only [hl0_1]; exact (by (with_reducible repeat first | apply Kd.Zm | apply Kd.Zo); exact HO_0.out))), by repeat (with_reducible first | exact HB.out | apply Zc | apply Za | apply Zd), by repeat (with_reducible first | exact HK.out | apply Kept.alloc | apply Kept.drewN | apply Kept.drew)⟩
def stringslite_HasPrefix.f (a0 : ByteArray) (a1 : ByteArray) : Option (Bool) := if (a0.size : Int) ≥ (a1.size : Int) then (if 0 ≤ (a1.size : Int) then (if (a1.size : Int) ≤ (a0.size : Int) then (some ((a0.extract 0 ((a1.size : Int) : Int).toNat).toList == a1.toList)) else (none)) else (none)) else (some false)
set_option maxHeartbeats 8000000 in
set_option maxRecDepth 100000 in
theorem stringslite_HasPrefix.calls (a0 : ByteArray) (a1 : ByteArray) (r : Bool) (w : World) (h : stringslite_HasPrefix.f a0 a1 = some r) :
  Calls Try.prog 67 #[.string a0, .string a1] w fun e w' => e = .returned (.bool r) ∧ Zq w w' := by
 have H : (if (a0.size : Int) ≥ (a1.size : Int) then (if 0 ≤ (a1.size : Int) then (if (a1.size : Int) ≤ (a0.size : Int) then (some ((a0.extract 0 ((a1.size : Int) : Int).toNat).toList == a1.toList)) else (none)) else (none)) else (some false)) = some r := h
 clear h
 by_cases c3 : (a0.size : Int) ≥ (a1.size : Int)
 ·rw [if_pos c3] at H
  have c3b0 : decide ((a1.size : Int) ≤ (a0.size : Int)) = true := decide_eq_true c3
  have c3b1 : decide (a1.size ≤ a0.size) = true := decide_eq_true (Int.ofNat_le.mp c3)
  clear c3
  by_cases c4 : 0 ≤ (a1.size : Int)
  ·rw [if_pos c4] at H
   have c4b0 := eq_true c4
   have c4b1 : decide (0 ≤ (a1.size : Int)) = true := decide_eq_true c4
   clear c4
   by_cases c5 : (a1.size : Int) ≤ (a0.size : Int)
   ·rw [if_pos c5] at H
    have c5b0 := eq_true c5
    have c5b1 : decide ((a1.size : Int) ≤ (a0.size : Int)) = true := decide_eq_true c5
    clear c5
    obtain rfl := Option.some.inj H
    go_enter Try.func67, Try.ntmps67
    go_wp2
    go_ret
    exact ⟨by first | rfl | (simp; done) | (simp [*]; done), by repeat (first | exact Zq.refl _ | apply Zq.step)⟩
   ·rw [if_neg c5] at H
    exact absurd H (by simp)
  ·rw [if_neg c4] at H
   exact absurd H (by simp)
 ·rw [if_neg c3] at H
  have c3b0 : decide ((a1.size : Int) ≤ (a0.size : Int)) = false := decide_eq_false c3
  have c3b1 : decide (a1.size ≤ a0.size) = false := decide_eq_false (fun h => c3 (Int.ofNat_le.mpr h))
  clear c3
  obtain rfl := Option.some.inj H
  go_enter Try.func67, Try.ntmps67
  go_wp2
  go_ret
  exact ⟨by first | rfl | (simp; done) | (simp [*]; done), by repeat (first | exact Zq.refl _ | apply Zq.step)⟩
def stringslite_TrimPrefix.f (a0 : ByteArray) (a1 : ByteArray) : Option (ByteArray) := (stringslite_HasPrefix.f a0 a1).bind fun t128 => (if t128 = true then (if 0 ≤ (a1.size : Int) then (if (a1.size : Int) ≤ (a0.size : Int) then (some (a0.extract ((a1.size : Int) : Int).toNat a0.size)) else (none)) else (none)) else (some a0))
set_option maxHeartbeats 8000000 in
set_option maxRecDepth 100000 in
theorem stringslite_TrimPrefix.calls (a0 : ByteArray) (a1 : ByteArray) (r : ByteArray) (w : World) (h : stringslite_TrimPrefix.f a0 a1 = some r) :
  Calls Try.prog 66 #[.string a0, .string a1] w fun e w' => e = .returned (.string r) ∧ Zq w w' := by
 have H : ((stringslite_HasPrefix.f a0 a1).bind fun t128 => (if t128 = true then (if 0 ≤ (a1.size : Int) then (if (a1.size : Int) ≤ (a0.size : Int) then (some (a0.extract ((a1.size : Int) : Int).toNat a0.size)) else (none)) else (none)) else (some a0))) = some r := h
 clear h
 replace H := Option.bind_eq_some_iff.mp H
 obtain ⟨t128, A30, H⟩ := H
 replace H : (if t128 = true then (if 0 ≤ (a1.size : Int) then (if (a1.size : Int) ≤ (a0.size : Int) then (some (a0.extract ((a1.size : Int) : Int).toNat a0.size)) else (none)) else (none)) else (some a0)) = some r := H
 have A3 := Zb.mk A30
 clear A30
 by_cases c4 : t128 = true
 ·subst c4
  have H1 : (if 0 ≤ (a1.size : Int) then (if (a1.size : Int) ≤ (a0.size : Int) then (some (a0.extract ((a1.size : Int) : Int).toNat a0.size)) else (none)) else (none)) = some r := by rw [if_pos rfl] at H; exact H
  clear H
  have H := H1
  clear H1
  by_cases c5 : 0 ≤ (a1.size : Int)
  ·rw [if_pos c5] at H
   have c5b0 := eq_true c5
   have c5b1 : decide (0 ≤ (a1.size : Int)) = true := decide_eq_true c5
   clear c5
   by_cases c6 : (a1.size : Int) ≤ (a0.size : Int)
   ·rw [if_pos c6] at H
    have c6b0 := eq_true c6
    have c6b1 : decide ((a1.size : Int) ≤ (a0.size : Int)) = true := decide_eq_true c6
    clear c6
    obtain rfl := Option.some.inj H
    go_enter Try.func66, Try.ntmps66
    go_wp2_with (first | ((with_reducible refine Zp (f := 67) rfl ?_); refine ZB (some 7) rfl rfl Try.func67 (by kernel_rfl) rfl #[.string a0, .string a1] rfl (by (try simp only [List.map_toArray, List.map_cons, List.map_nil]); first | done | rfl | (simp only [List.length_drop, List.length_take]; rfl)) ?_; (with_reducible refine (stringslite_HasPrefix.calls a0 a1 true _ A3.out).mono ?_); rintro e w' ⟨rfl, ⟨nd, rfl⟩⟩; refine ⟨_, rfl, ?_⟩))
    go_ret
    exact ⟨by first | rfl | (simp; done) | (simp [*]; done), by repeat (first | exact Zq.refl _ | apply Zq.step)⟩
   ·rw [if_neg c6] at H
    exact absurd H (by simp)
  ·rw [if_neg c5] at H
   exact absurd H (by simp)
 ·replace c4 := Bool.eq_false_iff.mpr c4
  subst c4
  have H1 : (some a0) = some r := by rw [if_neg (show ¬ (false = true) by decide)] at H; exact H
  clear H
  have H := H1
  clear H1
  obtain rfl := Option.some.inj H
  go_enter Try.func66, Try.ntmps66
  go_wp2_with (first | ((with_reducible refine Zp (f := 67) rfl ?_); refine ZB (some 7) rfl rfl Try.func67 (by kernel_rfl) rfl #[.string a0, .string a1] rfl (by (try simp only [List.map_toArray, List.map_cons, List.map_nil]); first | done | rfl | (simp only [List.length_drop, List.length_take]; rfl)) ?_; (with_reducible refine (stringslite_HasPrefix.calls a0 a1 false _ A3.out).mono ?_); rintro e w' ⟨rfl, ⟨nd, rfl⟩⟩; refine ⟨_, rfl, ?_⟩))
  go_ret
  exact ⟨by first | rfl | (simp; done) | (simp [*]; done), by repeat (first | exact Zq.refl _ | apply Zq.step)⟩
def strings_TrimPrefix.f (a0 : ByteArray) (a1 : ByteArray) : Option (ByteArray) := (stringslite_TrimPrefix.f a0 a1).bind fun t129 => (some t129)
set_option maxHeartbeats 8000000 in
set_option maxRecDepth 100000 in
theorem strings_TrimPrefix.calls (a0 : ByteArray) (a1 : ByteArray) (r : ByteArray) (w : World) (h : strings_TrimPrefix.f a0 a1 = some r) :
  Calls Try.prog 31 #[.string a0, .string a1] w fun e w' => e = .returned (.string r) ∧ Zq w w' := by
 have H : ((stringslite_TrimPrefix.f a0 a1).bind fun t129 => (some t129)) = some r := h
 clear h
 replace H := Option.bind_eq_some_iff.mp H
 obtain ⟨t129, A30, H⟩ := H
 replace H : (some t129) = some r := H
 have A3 := Zb.mk A30
 clear A30
 obtain rfl := Option.some.inj H
 go_enter Try.func31, Try.ntmps31
 go_wp2_with (first | ((with_reducible refine Zp (f := 66) rfl ?_); refine ZB (some 7) rfl rfl Try.func66 (by kernel_rfl) rfl #[.string a0, .string a1] rfl (by (try simp only [List.map_toArray, List.map_cons, List.map_nil]); first | done | rfl | (simp only [List.length_drop, List.length_take]; rfl)) ?_; (with_reducible refine (stringslite_TrimPrefix.calls a0 a1 t129 _ A3.out).mono ?_); rintro e w' ⟨rfl, ⟨nd, rfl⟩⟩; refine ⟨_, rfl, ?_⟩))
 go_ret
 exact ⟨by first | rfl | (simp; done) | (simp [*]; done), by repeat (first | exact Zq.refl _ | apply Zq.step)⟩
mutual
def big_worth.j0 : Nat → Int → Int → Int → Bool → Option (Int)
 | 0, _, _, _, _ => none
 | k + 1, x0, x1, x5, x6 => if x6 = true then (if ((x0 - 48) % 256) ≥ x1 then (some (-1)) else (some ((x0 - 48) % 256))) else (if x0 ≥ 97 then (big_worth.j1 k x0 x1 x5 (decide (x0 ≤ 122))) else (big_worth.j1 k x0 x1 x5 false))
def big_worth.j1 : Nat → Int → Int → Int → Bool → Option (Int)
 | 0, _, _, _, _ => none
 | k + 1, x0, x1, x5, x16 => if x16 = true then (if (((x0 - 97) % 256) + 10) ≥ x1 then (some (-1)) else (some (((x0 - 97) % 256) + 10))) else (if x5 ≥ x1 then (some (-1)) else (some x5))
end
def big_worth.f (k : Nat) (a0 : Int) (a1 : Int) : Option (Int) := if a0 ≥ 48 then (big_worth.j0 k a0 a1 (-1) (decide (a0 ≤ 57))) else (big_worth.j0 k a0 a1 (-1) false)
theorem big_worth.mono_l : ∀ k, (∀ y0 y1 y2 y3, LeO (big_worth.j0 k y0 y1 y2 y3) (big_worth.j0 (k + 1) y0 y1 y2 y3)) ∧ (∀ y0 y1 y2 y3, LeO (big_worth.j1 k y0 y1 y2 y3) (big_worth.j1 (k + 1) y0 y1 y2 y3))
 | 0 => ⟨fun _ _ _ _ r h => by simp [big_worth.j0] at h, fun _ _ _ _ r h => by simp [big_worth.j1] at h⟩
 | k + 1 => by
  obtain ⟨ih0, ih1⟩ := big_worth.mono_l k
  refine ⟨?_, ?_⟩
  ·intro y0 y1 y2 y3
   unfold big_worth.j0
   repeat' first
   | (with_reducible exact ih0 _ _ _ _)
   | (with_reducible exact ih1 _ _ _ _)
   | (with_reducible exact LeO.refl _)
   | (with_reducible exact LeO.none _)
   | (with_reducible refine LeO.ite ?_ ?_)
   | (with_reducible refine LeO.bind ?_ (fun _ => ?_))
   | exact ih0 _ _ _ _
   | exact ih1 _ _ _ _
   | exact LeO.none _
   | refine LeO.ite ?_ ?_
   | refine LeO.bind ?_ (fun _ => ?_)
  ·intro y0 y1 y2 y3
   unfold big_worth.j1
   repeat' first
   | (with_reducible exact ih0 _ _ _ _)
   | (with_reducible exact ih1 _ _ _ _)
   | (with_reducible exact LeO.refl _)
   | (with_reducible exact LeO.none _)
   | (with_reducible refine LeO.ite ?_ ?_)
   | (with_reducible refine LeO.bind ?_ (fun _ => ?_))
   | exact ih0 _ _ _ _
   | exact ih1 _ _ _ _
   | exact LeO.none _
   | refine LeO.ite ?_ ?_
   | refine LeO.bind ?_ (fun _ => ?_)
theorem big_worth.mono : ∀ a0 a1 k, LeO (big_worth.f k a0 a1) (big_worth.f (k + 1) a0 a1) := by
 intro a0 a1 k
 obtain ⟨ih0, ih1⟩ := big_worth.mono_l k
 unfold big_worth.f
 repeat' first
   | (with_reducible exact ih0 _ _ _ _)
   | (with_reducible exact ih1 _ _ _ _)
   | (with_reducible exact LeO.refl _)
   | (with_reducible exact LeO.none _)
   | (with_reducible refine LeO.ite ?_ ?_)
   | (with_reducible refine LeO.bind ?_ (fun _ => ?_))
   | exact ih0 _ _ _ _
   | exact ih1 _ _ _ _
   | exact LeO.none _
   | refine LeO.ite ?_ ?_
   | refine LeO.bind ?_ (fun _ => ?_)
set_option maxHeartbeats 8000000 in
set_option maxRecDepth 100000 in
theorem big_worth.calls (k : Nat) (a0 : Int) (a1 : Int) (r : Int) (w : World) (h : big_worth.f k a0 a1 = some r) :
  Calls Try.prog 84 #[.int .u8 a0, .int .i64 a1] w fun e w' => e = .returned (.int .i64 r) ∧ Zq w w' := by
 have H : (if a0 ≥ 48 then (big_worth.j0 k a0 a1 (-1) (decide (a0 ≤ 57))) else (big_worth.j0 k a0 a1 (-1) false)) = some r := h
 clear h
 have HC3 := Zb.mk H
 clear H
 go_enter Try.func84, Try.ntmps84
 go_upto_region 2 with (fail)
 go_cut [6] (fun v6 wc => ∃ (kq : Nat) (x6_2 : Bool), v6 = .bool x6_2 ∧ Zb (big_worth.j0 kq a0 a1 (-1) x6_2 = some r) ∧ Zb (kq ≤ k) ∧ Zq w wc)
 case first =>
  have H := HC3.out
  clear HC3
  by_cases c4 : a0 ≥ 48
  ·rw [if_pos c4] at H
   have c4b0 : decide (48 ≤ a0) = true := decide_eq_true c4
   clear c4
   (first | rw [c4b0] | (simp only [Zx, ZA]; rw [c4b0]) | skip)
   have H' := Zb.mk H
   clear H
   go_wp2
   go_meet
   case rel => exact ⟨_, (decide (a0 ≤ 57)), (by first | rfl | (simp; done) | (simp [*]; done)), H', ⟨by first | omega | exact Nat.le_refl _⟩, by repeat (first | exact Zq.refl _ | apply Zq.step)⟩
  ·rw [if_neg c4] at H
   have c4b0 : decide (48 ≤ a0) = false := decide_eq_false c4
   clear c4
   (first | rw [c4b0] | (simp only [Zx, ZA]; rw [c4b0]) | skip)
   have H' := Zb.mk H
   clear H
   go_wp2
   go_meet
   case rel => exact ⟨_, (false), (by first | rfl | (simp; done) | (simp [*]; done)), H', ⟨by first | omega | exact Nat.le_refl _⟩, by repeat (first | exact Zq.refl _ | apply Zq.step)⟩
 case rest =>
  clear HC3
  try clear p2
  try clear c4
  try clear c4b0
  obtain ⟨kq, x6_2, rfl, HA, HJ2, ⟨mc2, rfl⟩⟩ := hcut
  cases kq with
  | zero => exact absurd HA.out (by simp [big_worth.j0])
  | succ kj2 =>
   have H := HA.out
   clear HA
   simp only [big_worth.j0] at H
   by_cases c5 : x6_2 = true
   ·subst c5
    have H1 : (if ((a0 - 48) % 256) ≥ a1 then (some (-1)) else (some ((a0 - 48) % 256))) = some r := by rw [if_pos rfl] at H; exact H
    clear H
    have H := H1
    clear H1
    by_cases c6 : ((a0 - 48) % 256) ≥ a1
    ·rw [if_pos c6] at H
     have c6b0 : decide (a1 ≤ ((a0 - 48) % 256)) = true := decide_eq_true c6
     clear c6
     obtain rfl := Option.some.inj H
     go_wp2
     go_ret
     exact ⟨by first | rfl | (simp; done) | (simp [*]; done), by repeat (first | exact Zq.refl _ | apply Zq.step)⟩
    ·rw [if_neg c6] at H
     have c6b0 : decide (a1 ≤ ((a0 - 48) % 256)) = false := decide_eq_false c6
     clear c6
     obtain rfl := Option.some.inj H
     go_wp2
     go_ret
     exact ⟨by first | rfl | (simp; done) | (simp [*]; done), by repeat (first | exact Zq.refl _ | apply Zq.step)⟩
   ·replace c5 := Bool.eq_false_iff.mpr c5
    subst c5
    have H1 : (if a0 ≥ 97 then (big_worth.j1 kj2 a0 a1 (-1) (decide (a0 ≤ 122))) else (big_worth.j1 kj2 a0 a1 (-1) false)) = some r := by rw [if_neg (show ¬ (false = true) by decide)] at H; exact H
    clear H
    have H := H1
    clear H1
    have HC7 := Zb.mk H
    clear H
    go_upto_region 4 with (fail)
    go_cut [16] (fun v16 wc => ∃ (kq : Nat) (x16_6 : Bool), v16 = .bool x16_6 ∧ Zb (big_worth.j1 kq a0 a1 (-1) x16_6 = some r) ∧ Zb (kq ≤ kj2) ∧ Zq w wc)
    case first =>
     have H := HC7.out
     clear HC7
     by_cases c8 : a0 ≥ 97
     ·rw [if_pos c8] at H
      have c8b0 : decide (97 ≤ a0) = true := decide_eq_true c8
      clear c8
      (first | rw [c8b0] | (simp only [Zx, ZA]; rw [c8b0]) | skip)
      have H' := Zb.mk H
      clear H
      go_wp2
      go_meet
      case rel => exact ⟨_, (decide (a0 ≤ 122)), (by first | rfl | (simp; done) | (simp [*]; done)), H', ⟨by have := HJ2.out; first | omega | exact Nat.le_refl _⟩, by repeat (first | exact Zq.refl _ | apply Zq.step)⟩
     ·rw [if_neg c8] at H
      have c8b0 : decide (97 ≤ a0) = false := decide_eq_false c8
      clear c8
      (first | rw [c8b0] | (simp only [Zx, ZA]; rw [c8b0]) | skip)
      have H' := Zb.mk H
      clear H
      go_wp2
      go_meet
      case rel => exact ⟨_, (false), (by first | rfl | (simp; done) | (simp [*]; done)), H', ⟨by have := HJ2.out; first | omega | exact Nat.le_refl _⟩, by repeat (first | exact Zq.refl _ | apply Zq.step)⟩
    case rest =>
     clear HC7
     try clear c2
     try clear p2
     try clear c4
     try clear c4b0
     try clear c5
     try clear c6
     try clear c6b0
     try clear c8
     try clear c8b0
     try clear p2
     obtain ⟨kq, x16_6, rfl, HA, HJ6, ⟨mc6, rfl⟩⟩ := hcut
     cases kq with
     | zero => exact absurd HA.out (by simp [big_worth.j1])
     | succ kj6 =>
      have H := HA.out
      clear HA
      simp only [big_worth.j1] at H
      by_cases c9 : x16_6 = true
      ·subst c9
       have H1 : (if (((a0 - 97) % 256) + 10) ≥ a1 then (some (-1)) else (some (((a0 - 97) % 256) + 10))) = some r := by rw [if_pos rfl] at H; exact H
       clear H
       have H := H1
       clear H1
       by_cases c10 : (((a0 - 97) % 256) + 10) ≥ a1
       ·rw [if_pos c10] at H
        have c10b0 : decide (a1 ≤ (((a0 - 97) % 256) + 10)) = true := decide_eq_true c10
        clear c10
        obtain rfl := Option.some.inj H
        go_wp2
        go_ret
        exact ⟨by first | rfl | (simp; done) | (simp [*]; done), by repeat (first | exact Zq.refl _ | apply Zq.step)⟩
       ·rw [if_neg c10] at H
        have c10b0 : decide (a1 ≤ (((a0 - 97) % 256) + 10)) = false := decide_eq_false c10
        clear c10
        obtain rfl := Option.some.inj H
        go_wp2
        go_ret
        exact ⟨by first | rfl | (simp; done) | (simp [*]; done), by repeat (first | exact Zq.refl _ | apply Zq.step)⟩
      ·replace c9 := Bool.eq_false_iff.mpr c9
       subst c9
       have H1 : (if (-1) ≥ a1 then (some (-1)) else (some (-1))) = some r := by rw [if_neg (show ¬ (false = true) by decide)] at H; exact H
       clear H
       have H := H1
       clear H1
       by_cases c11 : (-1) ≥ a1
       ·rw [if_pos c11] at H
        have c11b0 : decide (a1 ≤ (-1)) = true := decide_eq_true c11
        clear c11
        obtain rfl := Option.some.inj H
        go_wp2
        go_ret
        exact ⟨by first | rfl | (simp; done) | (simp [*]; done), by repeat (first | exact Zq.refl _ | apply Zq.step)⟩
       ·rw [if_neg c11] at H
        have c11b0 : decide (a1 ≤ (-1)) = false := decide_eq_false c11
        clear c11
        obtain rfl := Option.some.inj H
        go_wp2
        go_ret
        exact ⟨by first | rfl | (simp; done) | (simp [*]; done), by repeat (first | exact Zq.refl _ | apply Zq.step)⟩
def big_plus_T1.l0 : Nat → List Int → List Int → List Int → Int → List Int → Int → Int → Option (List Int)
 | 0, _, _, _, _, _, _, _ => none
 | k + 1, x0, x1, x5, x6, x21, x22, x23 => if x23 < x22 then (if 0 ≤ x23 then (if x23 < (x21.length : Int) then (if x23 < (x1.length : Int) then ((bits_Add64.f (rd x21 x23) (rd x1 x23) x6).bind fun bt135 => (if x23 < (x5.length : Int) then (big_plus_T1.l0 k x0 x1 (x5.set (x23 : Int).toNat bt135.1) bt135.2 x21 x22 (wrap64 (x23 + 1))) else (none))) else ((bits_Add64.f (rd x21 x23) 0 x6).bind fun bt138 => (if x23 < (x5.length : Int) then (big_plus_T1.l0 k x0 x1 (x5.set (x23 : Int).toNat bt138.1) bt138.2 x21 x22 (wrap64 (x23 + 1))) else (none)))) else (none)) else (none)) else (if 0 ≤ (x0.length : Int) then (if (x0.length : Int) < (x5.length : Int) then ((big_trim.f k (x5.set ((x0.length : Int) : Int).toNat x6)).bind fun t142 => (some t142)) else (none)) else (none))
def big_plus_T1.f (k : Nat) (l0 : List Int) (l1 : List Int) : Option (List Int) := if (l0.length : Int) < (l1.length : Int) then (if 0 ≤ (wrap64 ((l1.length : Int) + 1)) then (if (wrap64 ((l1.length : Int) + 1) : Int).toNat ≤ 35184372088832 then (big_plus_T1.l0 k l1 l0 (List.replicate (wrap64 ((l1.length : Int) + 1) : Int).toNat 0) 0 l1 (l1.length : Int) 0) else (none)) else (none)) else (none)
theorem big_plus_T1.mono_l : ∀ k, (∀ y0 y1 y2 y3 y4 y5 y6, LeO (big_plus_T1.l0 k y0 y1 y2 y3 y4 y5 y6) (big_plus_T1.l0 (k + 1) y0 y1 y2 y3 y4 y5 y6))
 | 0 => fun _ _ _ _ _ _ _ r h => by simp [big_plus_T1.l0] at h
 | k + 1 => by
  have ih0 := big_plus_T1.mono_l k
  ·intro y0 y1 y2 y3 y4 y5 y6
   unfold big_plus_T1.l0
   repeat' first
   | (with_reducible exact ih0 _ _ _ _ _ _ _)
   | (with_reducible exact big_trim.mono _ _)
   | (with_reducible exact LeO.refl _)
   | (with_reducible exact LeO.none _)
   | (with_reducible refine LeO.ite ?_ ?_)
   | (with_reducible refine LeO.bind ?_ (fun _ => ?_))
   | exact ih0 _ _ _ _ _ _ _
   | exact big_trim.mono _ _
   | exact LeO.none _
   | refine LeO.ite ?_ ?_
   | refine LeO.bind ?_ (fun _ => ?_)
theorem big_plus_T1.mono : ∀ a0 a1 k, LeO (big_plus_T1.f k a0 a1) (big_plus_T1.f (k + 1) a0 a1) := by
 intro a0 a1 k
 have ih0 := big_plus_T1.mono_l k
 unfold big_plus_T1.f
 repeat' first
   | (with_reducible exact ih0 _ _ _ _ _ _ _)
   | (with_reducible exact big_trim.mono _ _)
   | (with_reducible exact LeO.refl _)
   | (with_reducible exact LeO.none _)
   | (with_reducible refine LeO.ite ?_ ?_)
   | (with_reducible refine LeO.bind ?_ (fun _ => ?_))
   | exact ih0 _ _ _ _ _ _ _
   | exact big_trim.mono _ _
   | exact LeO.none _
   | refine LeO.ite ?_ ?_
   | refine LeO.bind ?_ (fun _ => ?_)
set_option maxHeartbeats 8000000 in
set_option maxRecDepth 100000 in
theorem big_plus_T1.calls (k : Nat) (A0 : Option Addr) (c0 : Nat) (l0 : List Int) (A1 : Option Addr) (c1 : Nat) (l1 : List Int) (r : List Int) (w : World) (hr0 : Kd.C (Kd.int .u64) w A0 l0.length l0) (hc0 : l0.length ≤ c0) (hr1 : Kd.C (Kd.int .u64) w A1 l1.length l1) (hc1 : l1.length ≤ c1) (h : big_plus_T1.f k l0 l1 = some r) :
  Calls Try.prog 85 #[.slice A0 l0.length c0, .slice A1 l1.length c1] w fun e w' => ∃ v0_ : Value, e = .returned (v0_) ∧ Kd.V (Kd.int .u64) 46 w' w.heap.size (fun k_ => (w.heap.size ≤ k_)) v0_ r ∧ Below w.heap.size w w' := by
 have HR0 := Zb.mk hr0
 have HC0 := Zb.mk hc0
 clear hr0 hc0
 have HR1 := Zb.mk hr1
 have HC1 := Zb.mk hc1
 clear hr1 hc1
 have HB := Zb.mk (Below.refl w.heap.size w)
 have H : (if (l0.length : Int) < (l1.length : Int) then (if 0 ≤ (wrap64 ((l1.length : Int) + 1)) then (if (wrap64 ((l1.length : Int) + 1) : Int).toNat ≤ 35184372088832 then (big_plus_T1.l0 k l1 l0 (List.replicate (wrap64 ((l1.length : Int) + 1) : Int).toNat 0) 0 l1 (l1.length : Int) 0) else (none)) else (none)) else (none)) = some r := h
 clear h
 by_cases c3 : (l0.length : Int) < (l1.length : Int)
 ·rw [if_pos c3] at H
  have c3b0 : decide ((l0.length : Int) < (l1.length : Int)) = true := decide_eq_true c3
  have c3b1 : decide (l0.length < l1.length) = true := decide_eq_true (Int.ofNat_lt.mp c3)
  clear c3
  obtain ⟨ji4, hji4⟩ : ∃ j_ : Int, (wrap64 ((l1.length : Int) + 1)) = j_ := ⟨_, rfl⟩
  replace H : (if 0 ≤ (ji4) then (if (ji4 : Int).toNat ≤ 35184372088832 then (big_plus_T1.l0 k l1 l0 (List.replicate (ji4 : Int).toNat 0) 0 l1 (l1.length : Int) 0) else (none)) else (none)) = some r := by first | (rw [hji4] at H; exact H) | (simp only [hji4] at H ⊢; exact H)
  have hji4w : (IntKind.i64.wrap ((l1.length : Int) + 1)) = ji4 := (Zx _).trans hji4
  by_cases c5 : 0 ≤ (ji4)
  ·rw [if_pos c5] at H
   have c5b0 := eq_true c5
   have c5b1 : decide (0 ≤ (ji4)) = true := decide_eq_true c5
   clear c5
   by_cases c6 : (ji4 : Int).toNat ≤ 35184372088832
   ·rw [if_pos c6] at H
    have c6b0 := eq_true c6
    have c6b1 : decide ((ji4 : Int).toNat ≤ 35184372088832) = true := decide_eq_true c6
    clear c6
    obtain ⟨y130, hy130⟩ : ∃ y_ : List Int, y_ = (List.replicate (ji4 : Int).toNat 0) := ⟨_, rfl⟩
    replace H : (big_plus_T1.l0 k l1 l0 y130 0 l1 (l1.length : Int) 0) = some r := by first | (rw [hy130]; with_reducible exact H) | (have H2_ := (Option.bind_some _ _).symm.trans H; rw [hy130]; with_reducible exact H2_) | (have H2_ := (Option.bind_some _ _).symm.trans H; with_reducible exact H2_) | with_reducible exact H | (rw [hy130]; exact H) | exact H
    have Ny130 := Zb.mk hy130
    clear hy130
    have H' := Zb.mk H
    clear H
    go_enter Try.func85, Try.ntmps85
    go_wp2_with (first | ((with_reducible refine Zt (N := 20) rfl ?_); refine Kd.R_make (Kd.int .u64) _ 46 rfl (N := 20) rfl 22 _ _ rfl ji4 rfl rfl Try.underlying22 (.int .u64 0) 8 info46 rfl (by decide) (by omega) 0 (ok := fun _ => True) (okp := fun _ => True) rfl (fun _ hk => hk) trivial (of_decide_eq_true (by first | (with_reducible assumption) | assumption)) (Nat.le_trans (Nat.mul_le_mul_right _ (of_decide_eq_true (by first | (with_reducible assumption) | assumption) : ji4.toNat ≤ 35184372088832)) (by omega)) (Below.refl _ _) (Nat.le_refl _) ?_; intro v131 w7 ho8 hb hg_ hnew_; clear hg_ hnew_; (first | rw [← Ny130.out] at ho8 | (simp only [Int.reduceToNat] at ho8; rw [← Ny130.out] at ho8)); have n0_ := Zb.mk (Kd.ZG (Kd.R_newM (M := fun k_ => (w.heap.size ≤ k_)) ho8 (Zi (by repeat (with_reducible first | exact HB.out | apply Zc | apply Za | apply Zd))) (fun k_ h_ => h_)) (Zi (by repeat (with_reducible first | exact HB.out | apply Zc | apply Za | apply Zd)))); have n1_ := Zb.mk (Zl (by repeat (with_reducible first | exact HB.out | apply Zc | apply Za | apply Zd)) hb); clear HB; have HO132 := n0_; have HB := n1_; clear n0_ n1_; clear hb ho8))
    go_loopg [6, 23] k (fun kq v6 v23 w' => ∃ (x5_1 : List Int) (x6_1 : Int) (x23_1 : Int), v6 = .int .u64 x6_1 ∧ v23 = .int .i64 x23_1 ∧ Zb (big_plus_T1.l0 kq l1 l0 x5_1 x6_1 l1 (l1.length : Int) x23_1 = some r) ∧ Zb (kq ≤ k) ∧ Zb (Kd.R (Kd.int .u64) 46 w' w.heap.size (fun k_ => (w.heap.size ≤ k_)) v131 x5_1) ∧ Zb (Below w.heap.size w w'))
    case atStart => exact ⟨(y130), (0), (0), (by first | rfl | (simp; done) | (simp [*]; done)), (by first | rfl | (simp; done) | (simp [*]; done)), H', ⟨Nat.le_refl _⟩, ⟨by (with_reducible repeat first | apply Kd.Zm | apply Kd.Zo); exact Kd.ZE HO132.out (fun _ hk => hk.1)⟩, ⟨by repeat (with_reducible first | exact HB.out | apply Zc | apply Za | apply Zd)⟩⟩
    case round =>
     clear H'
     try clear c1
     try clear p2
     try clear c3
     try clear c3b0
     try clear c3b1
     try clear c5
     try clear c5b0
     try clear c5b1
     try clear c6
     try clear c6b0
     try clear c6b1
     try clear p6
     try clear c8
     obtain ⟨x5_1, x6_1, x23_1, rfl, rfl, HA, HK1, HO_5, HB⟩ := hrel
     cases gk with
     | zero => exact absurd HA.out (by simp [big_plus_T1.l0])
     | succ k1 =>
      have H := HA.out
      clear HA
      simp only [big_plus_T1.l0] at H
      by_cases c9 : x23_1 < (l1.length : Int)
      ·rw [if_pos c9] at H
       have c9b0 : decide (x23_1 < (l1.length : Int)) = true := decide_eq_true c9
       clear c9
       by_cases c10 : 0 ≤ x23_1
       ·rw [if_pos c10] at H
        have c10b0 : decide (0 ≤ x23_1) = true := decide_eq_true c10
        clear c10
        by_cases c11 : x23_1 < (l1.length : Int)
        ·rw [if_pos c11] at H
         have c11b0 : decide (x23_1 < (l1.length : Int)) = true := decide_eq_true c11
         clear c11
         by_cases c12 : x23_1 < (l0.length : Int)
         ·rw [if_pos c12] at H
          have c12b0 : decide (x23_1 < (l0.length : Int)) = true := decide_eq_true c12
          clear c12
          replace H := Option.bind_eq_some_iff.mp H
          obtain ⟨⟨t135, t136⟩, A130, H⟩ := H
          replace H : (if x23_1 < (x5_1.length : Int) then (big_plus_T1.l0 k1 l1 l0 (x5_1.set (x23_1 : Int).toNat t135) t136 l1 (l1.length : Int) (wrap64 (x23_1 + 1))) else (none)) = some r := H
          have A13 := Zb.mk A130
          clear A130
          by_cases c14 : x23_1 < (x5_1.length : Int)
          ·rw [if_pos c14] at H
           have c14b0 : decide (x23_1 < (x5_1.length : Int)) = true := decide_eq_true c14
           clear c14
           obtain ⟨y137, hy137⟩ : ∃ y_ : List Int, y_ = (x5_1.set (x23_1 : Int).toNat t135) := ⟨_, rfl⟩
           replace H : (big_plus_T1.l0 k1 l1 l0 y137 t136 l1 (l1.length : Int) (wrap64 (x23_1 + 1))) = some r := by first | (rw [hy137]; with_reducible exact H) | (have H2_ := (Option.bind_some _ _).symm.trans H; rw [hy137]; with_reducible exact H2_) | (have H2_ := (Option.bind_some _ _).symm.trans H; with_reducible exact H2_) | with_reducible exact H | (rw [hy137]; exact H) | exact H
           have Ny137 := Zb.mk hy137
           clear hy137
           have H' := Zb.mk H
           clear H
           have p133 : 0 ≤ (x23_1 : Int) := of_decide_eq_true (by first | (with_reducible assumption) | assumption)
           have q133 : x23_1 < (l1.length : Int) := of_decide_eq_true (by first | (with_reducible assumption) | assumption)
           obtain ⟨ad133, e133, hx133_0⟩ := Kd.at_int HR1.out x23_1 p133 q133
           cases e133
           replace hx133_0 := (HB.out.cell (World.block_lt_of_cell? w _ hx133_0)).trans hx133_0
           replace p133 := eq_true p133
           replace q133 := eq_true q133
           have p134 : 0 ≤ (x23_1 : Int) := of_decide_eq_true (by first | (with_reducible assumption) | assumption)
           have q134 : x23_1 < (l0.length : Int) := of_decide_eq_true (by first | (with_reducible assumption) | assumption)
           obtain ⟨ad134, e134, hx134_0⟩ := Kd.at_int HR0.out x23_1 p134 q134
           cases e134
           replace hx134_0 := (HB.out.cell (World.block_lt_of_cell? w _ hx134_0)).trans hx134_0
           replace p134 := eq_true p134
           replace q134 := eq_true q134
           go_wp2_with (first | (rw [bits_Add64.runs (rd l1 x23_1) (rd l0 x23_1) x6_1 t135 t136 _ A13.out]; (try (rw [ZK wr]; generalize hq_ : World.drewN wr _ = wr; have n0_ : Zb (Kd.R (Kd.int .u64) 46 wr w.heap.size (fun k_ => (w.heap.size ≤ k_)) v131 x5_1) := ⟨by rw [← hq_]; exact (by (with_reducible repeat first | apply Kd.Zm | apply Kd.Zo); exact HO_5.out)⟩; have n1_ : Zb (Below w.heap.size w wr) := ⟨by rw [← hq_]; exact (by repeat (with_reducible first | exact HB.out | apply Zc | apply Za | apply Zd))⟩; clear HO_5 HB hq_; have HO_5 := n0_; have HB := n1_; clear n0_ n1_)); have p15 : 0 ≤ (x23_1 : Int) := of_decide_eq_true (by first | (with_reducible assumption) | assumption); have q15 : (x23_1 : Int) < ((x5_1.length : Int) : Int) := of_decide_eq_true (by first | (with_reducible assumption) | assumption); obtain ⟨go15, co15, eo15, gb15, gl15, cl15, HG15⟩ := Kd.R_form HO_5.out (by omega); (first | cases eo15 | (injection eo15 with ea_ en_ ec_; (first | subst ea_ | (injection ea_ with ea_; subst ea_)); subst ec_; clear en_)); have GB15 := Zb.mk gb15; have GG15 := Zb.mk HG15; clear gb15 gl15 HG15; obtain ⟨hx15_0, hf15_0⟩ := Kd.R_celln 0 HO_5.out (x23_1 : Int) p15 q15; replace p15 := eq_true p15; replace q15 := eq_true q15; obtain ⟨hy16_, hz16_⟩ := Kd.R_celln 0 HO_5.out (x23_1 : Int) (of_decide_eq_true (by first | (with_reducible assumption) | assumption)) (of_decide_eq_true (by first | (with_reducible assumption) | assumption)); have HP16 := Kd.R_putg HO_5.out (x23_1 : Int) t135) | ((with_reducible refine gate_store (t := 46) (p := 45) rfl ?_); refine ZQ (t := 46) (p := 45) (v := ?vo_w17) (w1 := (wr.setCell ⟨go15, (x23_1 : Int).toNat, none⟩ (.int .u64 t135))) ?hg ?ho ?hn ?hr ?_; (case ho => rfl); (case hg => rfl); (case hn => rfl); (case hr => first | (go_simp; done) | (go_simp; rfl)); intro w17 hw; have hg : wr.grownBy w17 (some go15) := (by rw [hw]; exact HP16.2); have hp_ : Kd.R (Kd.int .u64) 46 w17 w.heap.size (fun k_ => (w.heap.size ≤ k_)) (.slice (some ⟨go15, 0, none⟩) x5_1.length co15) y137 := (by rw [hw, Ny137.out]; exact HP16.1); clear HP16; have n0_ := Zb.mk (hp_); have n1_ := Zb.mk ((by rw [hw]; exact Zh (HB.out) GB15.out : Below w.heap.size w w17)); clear HO_5; clear HB; have HO_5 := n0_; have HB := n1_; clear n0_ n1_; clear hg hw hp_))
           go_roundg k1
           case measure => have := HK1.out; omega
           case rel => exact ⟨(y137), (t136), (wrap64 (x23_1 + 1)), (by first | rfl | (simp; done) | (simp [*]; done)), (by first | rfl | (simp; done) | (simp [*]; done)), H', ⟨by have := HK1.out; omega⟩, ⟨by (with_reducible repeat first | apply Kd.Zm | apply Kd.Zo); exact HO_5.out⟩, ⟨by repeat (with_reducible first | exact HB.out | apply Zc | apply Za | apply Zd)⟩⟩
          ·rw [if_neg c14] at H
           exact absurd H (by simp)
         ·rw [if_neg c12] at H
          have c12b0 : decide (x23_1 < (l0.length : Int)) = false := decide_eq_false c12
          clear c12
          replace H := Option.bind_eq_some_iff.mp H
          obtain ⟨⟨t138, t139⟩, A180, H⟩ := H
          replace H : (if x23_1 < (x5_1.length : Int) then (big_plus_T1.l0 k1 l1 l0 (x5_1.set (x23_1 : Int).toNat t138) t139 l1 (l1.length : Int) (wrap64 (x23_1 + 1))) else (none)) = some r := H
          have A18 := Zb.mk A180
          clear A180
          by_cases c19 : x23_1 < (x5_1.length : Int)
          ·rw [if_pos c19] at H
           have c19b0 : decide (x23_1 < (x5_1.length : Int)) = true := decide_eq_true c19
           clear c19
           obtain ⟨y140, hy140⟩ : ∃ y_ : List Int, y_ = (x5_1.set (x23_1 : Int).toNat t138) := ⟨_, rfl⟩
           replace H : (big_plus_T1.l0 k1 l1 l0 y140 t139 l1 (l1.length : Int) (wrap64 (x23_1 + 1))) = some r := by first | (rw [hy140]; with_reducible exact H) | (have H2_ := (Option.bind_some _ _).symm.trans H; rw [hy140]; with_reducible exact H2_) | (have H2_ := (Option.bind_some _ _).symm.trans H; with_reducible exact H2_) | with_reducible exact H | (rw [hy140]; exact H) | exact H
           have Ny140 := Zb.mk hy140
           clear hy140
           have H' := Zb.mk H
           clear H
           have p133 : 0 ≤ (x23_1 : Int) := of_decide_eq_true (by first | (with_reducible assumption) | assumption)
           have q133 : x23_1 < (l1.length : Int) := of_decide_eq_true (by first | (with_reducible assumption) | assumption)
           obtain ⟨ad133, e133, hx133_0⟩ := Kd.at_int HR1.out x23_1 p133 q133
           cases e133
           replace hx133_0 := (HB.out.cell (World.block_lt_of_cell? w _ hx133_0)).trans hx133_0
           replace p133 := eq_true p133
           replace q133 := eq_true q133
           go_wp2_with (first | (rw [bits_Add64.runs (rd l1 x23_1) 0 x6_1 t138 t139 _ A18.out]; (try (rw [ZK wr]; generalize hq_ : World.drewN wr _ = wr; have n0_ : Zb (Kd.R (Kd.int .u64) 46 wr w.heap.size (fun k_ => (w.heap.size ≤ k_)) v131 x5_1) := ⟨by rw [← hq_]; exact (by (with_reducible repeat first | apply Kd.Zm | apply Kd.Zo); exact HO_5.out)⟩; have n1_ : Zb (Below w.heap.size w wr) := ⟨by rw [← hq_]; exact (by repeat (with_reducible first | exact HB.out | apply Zc | apply Za | apply Zd))⟩; clear HO_5 HB hq_; have HO_5 := n0_; have HB := n1_; clear n0_ n1_)); have p20 : 0 ≤ (x23_1 : Int) := of_decide_eq_true (by first | (with_reducible assumption) | assumption); have q20 : (x23_1 : Int) < ((x5_1.length : Int) : Int) := of_decide_eq_true (by first | (with_reducible assumption) | assumption); obtain ⟨go20, co20, eo20, gb20, gl20, cl20, HG20⟩ := Kd.R_form HO_5.out (by omega); (first | cases eo20 | (injection eo20 with ea_ en_ ec_; (first | subst ea_ | (injection ea_ with ea_; subst ea_)); subst ec_; clear en_)); have GB20 := Zb.mk gb20; have GG20 := Zb.mk HG20; clear gb20 gl20 HG20; obtain ⟨hx20_0, hf20_0⟩ := Kd.R_celln 0 HO_5.out (x23_1 : Int) p20 q20; replace p20 := eq_true p20; replace q20 := eq_true q20; obtain ⟨hy21_, hz21_⟩ := Kd.R_celln 0 HO_5.out (x23_1 : Int) (of_decide_eq_true (by first | (with_reducible assumption) | assumption)) (of_decide_eq_true (by first | (with_reducible assumption) | assumption)); have HP21 := Kd.R_putg HO_5.out (x23_1 : Int) t138) | ((with_reducible refine gate_store (t := 46) (p := 45) rfl ?_); refine ZQ (t := 46) (p := 45) (v := ?vo_w22) (w1 := (wr.setCell ⟨go20, (x23_1 : Int).toNat, none⟩ (.int .u64 t138))) ?hg ?ho ?hn ?hr ?_; (case ho => rfl); (case hg => rfl); (case hn => rfl); (case hr => first | (go_simp; done) | (go_simp; rfl)); intro w22 hw; have hg : wr.grownBy w22 (some go20) := (by rw [hw]; exact HP21.2); have hp_ : Kd.R (Kd.int .u64) 46 w22 w.heap.size (fun k_ => (w.heap.size ≤ k_)) (.slice (some ⟨go20, 0, none⟩) x5_1.length co20) y140 := (by rw [hw, Ny140.out]; exact HP21.1); clear HP21; have n0_ := Zb.mk (hp_); have n1_ := Zb.mk ((by rw [hw]; exact Zh (HB.out) GB20.out : Below w.heap.size w w22)); clear HO_5; clear HB; have HO_5 := n0_; have HB := n1_; clear n0_ n1_; clear hg hw hp_))
           go_roundg k1
           case measure => have := HK1.out; omega
           case rel => exact ⟨(y140), (t139), (wrap64 (x23_1 + 1)), (by first | rfl | (simp; done) | (simp [*]; done)), (by first | rfl | (simp; done) | (simp [*]; done)), H', ⟨by have := HK1.out; omega⟩, ⟨by (with_reducible repeat first | apply Kd.Zm | apply Kd.Zo); exact HO_5.out⟩, ⟨by repeat (with_reducible first | exact HB.out | apply Zc | apply Za | apply Zd)⟩⟩
          ·rw [if_neg c19] at H
           exact absurd H (by simp)
        ·rw [if_neg c11] at H
         exact absurd H (by simp)
       ·rw [if_neg c10] at H
        exact absurd H (by simp)
      ·rw [if_neg c9] at H
       have c9b0 : decide (x23_1 < (l1.length : Int)) = false := decide_eq_false c9
       clear c9
       by_cases c23 : 0 ≤ (l1.length : Int)
       ·rw [if_pos c23] at H
        have c23b0 : decide (0 ≤ (l1.length : Int)) = true := decide_eq_true c23
        have c23b1 : decide (0 ≤ l1.length) = true := decide_eq_true (by omega)
        clear c23
        by_cases c24 : (l1.length : Int) < (x5_1.length : Int)
        ·rw [if_pos c24] at H
         have c24b0 : decide ((l1.length : Int) < (x5_1.length : Int)) = true := decide_eq_true c24
         have c24b1 : decide (l1.length < x5_1.length) = true := decide_eq_true (Int.ofNat_lt.mp c24)
         clear c24
         obtain ⟨y141, hy141⟩ : ∃ y_ : List Int, y_ = (x5_1.set ((l1.length : Int) : Int).toNat x6_1) := ⟨_, rfl⟩
         replace H : ((big_trim.f k1 y141).bind fun t142 => (some t142)) = some r := by first | (rw [hy141]; with_reducible exact H) | (have H2_ := (Option.bind_some _ _).symm.trans H; rw [hy141]; with_reducible exact H2_) | (have H2_ := (Option.bind_some _ _).symm.trans H; with_reducible exact H2_) | with_reducible exact H | (rw [hy141]; exact H) | exact H
         have Ny141 := Zb.mk hy141
         clear hy141
         replace H := Option.bind_eq_some_iff.mp H
         obtain ⟨t142, A260, H⟩ := H
         replace H : (some t142) = some r := H
         have A26 := Zb.mk A260
         clear A260
         obtain rfl := Option.some.inj H
         have p25 : 0 ≤ ((l1.length : Int) : Int) := of_decide_eq_true (by first | (with_reducible assumption) | assumption)
         have q25 : ((l1.length : Int) : Int) < ((x5_1.length : Int) : Int) := of_decide_eq_true (by first | (with_reducible assumption) | assumption)
         obtain ⟨go25, co25, eo25, gb25, gl25, cl25, HG25⟩ := Kd.R_form HO_5.out (by omega)
         (first | cases eo25 | (injection eo25 with ea_ en_ ec_; (first | subst ea_ | (injection ea_ with ea_; subst ea_)); subst ec_; clear en_))
         have GB25 := Zb.mk gb25
         have GG25 := Zb.mk HG25
         clear gb25 gl25 HG25
         obtain ⟨hx25_0, hf25_0⟩ := Kd.R_celln 0 HO_5.out ((l1.length : Int) : Int) p25 q25
         (try simp only [Int.toNat_natCast] at hx25_0 hf25_0)
         replace p25 := eq_true p25
         replace q25 := eq_true q25
         have HP27 := Kd.R_putg HO_5.out ((l1.length : Int) : Int) x6_1
         go_wp2_with (first | ((with_reducible refine gate_store (t := 46) (p := 51) rfl ?_); refine ZQ (t := 46) (p := 51) (v := ?vo_w28) (w1 := (wr.setCell ⟨go25, ((l1.length : Int) : Int).toNat, none⟩ (.int .u64 x6_1))) ?hg ?ho ?hn ?hr ?_; (case ho => rfl); (case hg => rfl); (case hn => rfl); (case hr => first | (go_simp; done) | (go_simp; rfl)); intro w28 hw; have hg : wr.grownBy w28 (some go25) := (by rw [hw]; exact HP27.2); have hp_ : Kd.R (Kd.int .u64) 46 w28 w.heap.size (fun k_ => (w.heap.size ≤ k_)) (.slice (some ⟨go25, 0, none⟩) x5_1.length co25) y141 := (by rw [hw, Ny141.out]; exact HP27.1); clear HP27; have n0_ := Zb.mk (hp_); have n1_ := Zb.mk ((by rw [hw]; exact Zh (HB.out) GB25.out : Below w.heap.size w w28)); clear HO_5; clear HB; have HO_5 := n0_; have HB := n1_; clear n0_ n1_; clear hg hw hp_) | ((with_reducible refine Zp (f := 87) rfl ?_); refine ZB (some 53) rfl rfl Try.func87 (by kernel_rfl) rfl #[.slice (some ⟨go25, 0, none⟩) y141.length co25] rfl (by (try simp only [List.map_toArray, List.map_cons, List.map_nil]); first | done | (rw [show y141.length = x5_1.length from (Kd.Zv HO_5.out).1.symm] <;> rfl) | rfl | (simp only [List.length_drop, List.length_take]; rfl)) ?_; (with_reducible refine (big_trim.calls k1 (fun k_ => some k_ = (.slice (some ⟨go25, 0, none⟩) x5_1.length co25 : Value).ownBlock) _ _ y141 t142 _ ?side1 A26.out).mono ?_); (case side1 => rw [show y141.length = x5_1.length from (Kd.Zv HO_5.out).1.symm]; exact Kd.R_V (Kd.R_tight rfl (HO_5.out))); rintro e w29 ⟨v143, rfl, ho0, hb⟩; refine ⟨_, rfl, ?_⟩; have n0_ := Zb.mk (Kd.Zz (by (with_reducible repeat first | apply Kd.Zm | apply Kd.Zo); exact HO_5.out) hb); have n1_ := Zb.mk (Kd.V_lower (Kd.V_mono (ok' := fun k_ => (w.heap.size ≤ k_)) ho0 (fun k_ hk_ => Or.elim hk_ (fun hs_ => ((HO_5.out).1 k_ hs_.symm)) (fun hn_ => (Nat.le_trans (Zi (by repeat (with_reducible first | exact HB.out | apply Zc | apply Za | apply Zd))) hn_)))) (Zi (by repeat (with_reducible first | exact HB.out | apply Zc | apply Za | apply Zd)))); have n2_ := Zb.mk (Zl (by repeat (with_reducible first | exact HB.out | apply Zc | apply Za | apply Zd)) hb); clear HO_5; clear HB; have HO_5 := n0_; have HO144 := n1_; have HB := n2_; clear n0_ n1_ n2_; (try clear hb); (try clear hb2); (try clear hk); (try clear hi); (try clear ho0)))
         go_ret
         exact ⟨_, by first | rfl | (simp [errW_none, errW_some] <;> rfl) | (simp only [← hji4]; first | rfl | (simp [errW_none, errW_some] <;> rfl)) | (simp [*, errW_none, errW_some] <;> rfl), by (with_reducible repeat first | apply Kd.V_drewN); exact HO144.out, by repeat (with_reducible first | exact HB.out | apply Zc | apply Za | apply Zd)⟩
        ·rw [if_neg c24] at H
         exact absurd H (by simp)
       ·rw [if_neg c23] at H
        exact absurd H (by simp)
   ·rw [if_neg c6] at H
    exact absurd H (by simp)
  ·rw [if_neg c5] at H
   exact absurd H (by simp)
 ·rw [if_neg c3] at H
  exact absurd H (by simp)
end Go.Proofs.Ytbmddlldadbfnaa.BA
end
section
namespace Go.Proofs.Ytbmddlldadbfnaa.BA
open Go.RowKit Go.Proofs.YtbmddlldadbfnaaW.PrintWords Go.Proofs.YtbmddlldadbfnaaW.PrintLast Go.Proofs.YtbmddlldadbfnaaW.PrintMore
attribute [local go_sem] ZU ZS max_two min_two ZP ZO ZT ZR
set_option linter.unusedVariables false
set_option linter.unusedSimpArgs false
def big_plus_E1.l0 : Nat → List Int → List Int → List Int → Int → List Int → Int → Int → Option (List Int)
 | 0, _, _, _, _, _, _, _ => none
 | k + 1, x0, x1, x5, x6, x21, x22, x23 => if x23 < x22 then (if 0 ≤ x23 then (if x23 < (x21.length : Int) then (if x23 < (x1.length : Int) then ((bits_Add64.f (rd x21 x23) (rd x1 x23) x6).bind fun bt150 => (if x23 < (x5.length : Int) then (big_plus_E1.l0 k x0 x1 (x5.set (x23 : Int).toNat bt150.1) bt150.2 x21 x22 (wrap64 (x23 + 1))) else (none))) else ((bits_Add64.f (rd x21 x23) 0 x6).bind fun bt153 => (if x23 < (x5.length : Int) then (big_plus_E1.l0 k x0 x1 (x5.set (x23 : Int).toNat bt153.1) bt153.2 x21 x22 (wrap64 (x23 + 1))) else (none)))) else (none)) else (none)) else (if 0 ≤ (x0.length : Int) then (if (x0.length : Int) < (x5.length : Int) then ((big_trim.f k (x5.set ((x0.length : Int) : Int).toNat x6)).bind fun t157 => (some t157)) else (none)) else (none))
def big_plus_E1.f (k : Nat) (l0 : List Int) (l1 : List Int) : Option (List Int) := if (l0.length : Int) < (l1.length : Int) then (none) else (if 0 ≤ (wrap64 ((l0.length : Int) + 1)) then (if (wrap64 ((l0.length : Int) + 1) : Int).toNat ≤ 35184372088832 then (big_plus_E1.l0 k l0 l1 (List.replicate (wrap64 ((l0.length : Int) + 1) : Int).toNat 0) 0 l0 (l0.length : Int) 0) else (none)) else (none))
theorem big_plus_E1.mono_l : ∀ k, (∀ y0 y1 y2 y3 y4 y5 y6, LeO (big_plus_E1.l0 k y0 y1 y2 y3 y4 y5 y6) (big_plus_E1.l0 (k + 1) y0 y1 y2 y3 y4 y5 y6))
 | 0 => fun _ _ _ _ _ _ _ r h => by simp [big_plus_E1.l0] at h
 | k + 1 => by
  have ih0 := big_plus_E1.mono_l k
  ·intro y0 y1 y2 y3 y4 y5 y6
   unfold big_plus_E1.l0
   repeat' first
   | (with_reducible exact ih0 _ _ _ _ _ _ _)
   | (with_reducible exact big_trim.mono _ _)
   | (with_reducible exact LeO.refl _)
   | (with_reducible exact LeO.none _)
   | (with_reducible refine LeO.ite ?_ ?_)
   | (with_reducible refine LeO.bind ?_ (fun _ => ?_))
   | exact ih0 _ _ _ _ _ _ _
   | exact big_trim.mono _ _
   | exact LeO.none _
   | refine LeO.ite ?_ ?_
   | refine LeO.bind ?_ (fun _ => ?_)
theorem big_plus_E1.mono : ∀ a0 a1 k, LeO (big_plus_E1.f k a0 a1) (big_plus_E1.f (k + 1) a0 a1) := by
 intro a0 a1 k
 have ih0 := big_plus_E1.mono_l k
 unfold big_plus_E1.f
 repeat' first
   | (with_reducible exact ih0 _ _ _ _ _ _ _)
   | (with_reducible exact big_trim.mono _ _)
   | (with_reducible exact LeO.refl _)
   | (with_reducible exact LeO.none _)
   | (with_reducible refine LeO.ite ?_ ?_)
   | (with_reducible refine LeO.bind ?_ (fun _ => ?_))
   | exact ih0 _ _ _ _ _ _ _
   | exact big_trim.mono _ _
   | exact LeO.none _
   | refine LeO.ite ?_ ?_
   | refine LeO.bind ?_ (fun _ => ?_)
set_option maxHeartbeats 8000000 in
set_option maxRecDepth 100000 in
theorem big_plus_E1.calls (k : Nat) (A0 : Option Addr) (c0 : Nat) (l0 : List Int) (A1 : Option Addr) (c1 : Nat) (l1 : List Int) (r : List Int) (w : World) (hr0 : Kd.C (Kd.int .u64) w A0 l0.length l0) (hc0 : l0.length ≤ c0) (hr1 : Kd.C (Kd.int .u64) w A1 l1.length l1) (hc1 : l1.length ≤ c1) (h : big_plus_E1.f k l0 l1 = some r) :
  Calls Try.prog 85 #[.slice A0 l0.length c0, .slice A1 l1.length c1] w fun e w' => ∃ v0_ : Value, e = .returned (v0_) ∧ Kd.V (Kd.int .u64) 46 w' w.heap.size (fun k_ => (w.heap.size ≤ k_)) v0_ r ∧ Below w.heap.size w w' := by
 have HR0 := Zb.mk hr0
 have HC0 := Zb.mk hc0
 clear hr0 hc0
 have HR1 := Zb.mk hr1
 have HC1 := Zb.mk hc1
 clear hr1 hc1
 have HB := Zb.mk (Below.refl w.heap.size w)
 have H : (if (l0.length : Int) < (l1.length : Int) then (none) else (if 0 ≤ (wrap64 ((l0.length : Int) + 1)) then (if (wrap64 ((l0.length : Int) + 1) : Int).toNat ≤ 35184372088832 then (big_plus_E1.l0 k l0 l1 (List.replicate (wrap64 ((l0.length : Int) + 1) : Int).toNat 0) 0 l0 (l0.length : Int) 0) else (none)) else (none))) = some r := h
 clear h
 by_cases c3 : (l0.length : Int) < (l1.length : Int)
 ·rw [if_pos c3] at H
  exact absurd H (by simp)
 ·rw [if_neg c3] at H
  have c3b0 : decide ((l0.length : Int) < (l1.length : Int)) = false := decide_eq_false c3
  have c3b1 : decide (l0.length < l1.length) = false := decide_eq_false (fun h => c3 (Int.ofNat_lt.mpr h))
  clear c3
  obtain ⟨ji4, hji4⟩ : ∃ j_ : Int, (wrap64 ((l0.length : Int) + 1)) = j_ := ⟨_, rfl⟩
  replace H : (if 0 ≤ (ji4) then (if (ji4 : Int).toNat ≤ 35184372088832 then (big_plus_E1.l0 k l0 l1 (List.replicate (ji4 : Int).toNat 0) 0 l0 (l0.length : Int) 0) else (none)) else (none)) = some r := by first | (rw [hji4] at H; exact H) | (simp only [hji4] at H ⊢; exact H)
  have hji4w : (IntKind.i64.wrap ((l0.length : Int) + 1)) = ji4 := (Zx _).trans hji4
  by_cases c5 : 0 ≤ (ji4)
  ·rw [if_pos c5] at H
   have c5b0 := eq_true c5
   have c5b1 : decide (0 ≤ (ji4)) = true := decide_eq_true c5
   clear c5
   by_cases c6 : (ji4 : Int).toNat ≤ 35184372088832
   ·rw [if_pos c6] at H
    have c6b0 := eq_true c6
    have c6b1 : decide ((ji4 : Int).toNat ≤ 35184372088832) = true := decide_eq_true c6
    clear c6
    obtain ⟨y145, hy145⟩ : ∃ y_ : List Int, y_ = (List.replicate (ji4 : Int).toNat 0) := ⟨_, rfl⟩
    replace H : (big_plus_E1.l0 k l0 l1 y145 0 l0 (l0.length : Int) 0) = some r := by first | (rw [hy145]; with_reducible exact H) | (have H2_ := (Option.bind_some _ _).symm.trans H; rw [hy145]; with_reducible exact H2_) | (have H2_ := (Option.bind_some _ _).symm.trans H; with_reducible exact H2_) | with_reducible exact H | (rw [hy145]; exact H) | exact H
    have Ny145 := Zb.mk hy145
    clear hy145
    have H' := Zb.mk H
    clear H
    go_enter Try.func85, Try.ntmps85
    go_wp2_with (first | ((with_reducible refine Zt (N := 20) rfl ?_); refine Kd.R_make (Kd.int .u64) _ 46 rfl (N := 20) rfl 22 _ _ rfl ji4 rfl rfl Try.underlying22 (.int .u64 0) 8 info46 rfl (by decide) (by omega) 0 (ok := fun _ => True) (okp := fun _ => True) rfl (fun _ hk => hk) trivial (of_decide_eq_true (by first | (with_reducible assumption) | assumption)) (Nat.le_trans (Nat.mul_le_mul_right _ (of_decide_eq_true (by first | (with_reducible assumption) | assumption) : ji4.toNat ≤ 35184372088832)) (by omega)) (Below.refl _ _) (Nat.le_refl _) ?_; intro v146 w7 ho8 hb hg_ hnew_; clear hg_ hnew_; (first | rw [← Ny145.out] at ho8 | (simp only [Int.reduceToNat] at ho8; rw [← Ny145.out] at ho8)); have n0_ := Zb.mk (Kd.ZG (Kd.R_newM (M := fun k_ => (w.heap.size ≤ k_)) ho8 (Zi (by repeat (with_reducible first | exact HB.out | apply Zc | apply Za | apply Zd))) (fun k_ h_ => h_)) (Zi (by repeat (with_reducible first | exact HB.out | apply Zc | apply Za | apply Zd)))); have n1_ := Zb.mk (Zl (by repeat (with_reducible first | exact HB.out | apply Zc | apply Za | apply Zd)) hb); clear HB; have HO147 := n0_; have HB := n1_; clear n0_ n1_; clear hb ho8))
    go_loopg [6, 23] k (fun kq v6 v23 w' => ∃ (x5_1 : List Int) (x6_1 : Int) (x23_1 : Int), v6 = .int .u64 x6_1 ∧ v23 = .int .i64 x23_1 ∧ Zb (big_plus_E1.l0 kq l0 l1 x5_1 x6_1 l0 (l0.length : Int) x23_1 = some r) ∧ Zb (kq ≤ k) ∧ Zb (Kd.R (Kd.int .u64) 46 w' w.heap.size (fun k_ => (w.heap.size ≤ k_)) v146 x5_1) ∧ Zb (Below w.heap.size w w'))
    case atStart => exact ⟨(y145), (0), (0), (by first | rfl | (simp; done) | (simp [*]; done)), (by first | rfl | (simp; done) | (simp [*]; done)), H', ⟨Nat.le_refl _⟩, ⟨by (with_reducible repeat first | apply Kd.Zm | apply Kd.Zo); exact Kd.ZE HO147.out (fun _ hk => hk.1)⟩, ⟨by repeat (with_reducible first | exact HB.out | apply Zc | apply Za | apply Zd)⟩⟩
    case round =>
     clear H'
     try clear c1
     try clear p2
     try clear c3
     try clear c3b0
     try clear c3b1
     try clear c5
     try clear c5b0
     try clear c5b1
     try clear c6
     try clear c6b0
     try clear c6b1
     try clear p6
     try clear c8
     obtain ⟨x5_1, x6_1, x23_1, rfl, rfl, HA, HK1, HO_5, HB⟩ := hrel
     cases gk with
     | zero => exact absurd HA.out (by simp [big_plus_E1.l0])
     | succ k1 =>
      have H := HA.out
      clear HA
      simp only [big_plus_E1.l0] at H
      by_cases c9 : x23_1 < (l0.length : Int)
      ·rw [if_pos c9] at H
       have c9b0 : decide (x23_1 < (l0.length : Int)) = true := decide_eq_true c9
       clear c9
       by_cases c10 : 0 ≤ x23_1
       ·rw [if_pos c10] at H
        have c10b0 : decide (0 ≤ x23_1) = true := decide_eq_true c10
        clear c10
        by_cases c11 : x23_1 < (l0.length : Int)
        ·rw [if_pos c11] at H
         have c11b0 : decide (x23_1 < (l0.length : Int)) = true := decide_eq_true c11
         clear c11
         by_cases c12 : x23_1 < (l1.length : Int)
         ·rw [if_pos c12] at H
          have c12b0 : decide (x23_1 < (l1.length : Int)) = true := decide_eq_true c12
          clear c12
          replace H := Option.bind_eq_some_iff.mp H
          obtain ⟨⟨t150, t151⟩, A130, H⟩ := H
          replace H : (if x23_1 < (x5_1.length : Int) then (big_plus_E1.l0 k1 l0 l1 (x5_1.set (x23_1 : Int).toNat t150) t151 l0 (l0.length : Int) (wrap64 (x23_1 + 1))) else (none)) = some r := H
          have A13 := Zb.mk A130
          clear A130
          by_cases c14 : x23_1 < (x5_1.length : Int)
          ·rw [if_pos c14] at H
           have c14b0 : decide (x23_1 < (x5_1.length : Int)) = true := decide_eq_true c14
           clear c14
           obtain ⟨y152, hy152⟩ : ∃ y_ : List Int, y_ = (x5_1.set (x23_1 : Int).toNat t150) := ⟨_, rfl⟩
           replace H : (big_plus_E1.l0 k1 l0 l1 y152 t151 l0 (l0.length : Int) (wrap64 (x23_1 + 1))) = some r := by first | (rw [hy152]; with_reducible exact H) | (have H2_ := (Option.bind_some _ _).symm.trans H; rw [hy152]; with_reducible exact H2_) | (have H2_ := (Option.bind_some _ _).symm.trans H; with_reducible exact H2_) | with_reducible exact H | (rw [hy152]; exact H) | exact H
           have Ny152 := Zb.mk hy152
           clear hy152
           have H' := Zb.mk H
           clear H
           have p148 : 0 ≤ (x23_1 : Int) := of_decide_eq_true (by first | (with_reducible assumption) | assumption)
           have q148 : x23_1 < (l0.length : Int) := of_decide_eq_true (by first | (with_reducible assumption) | assumption)
           obtain ⟨ad148, e148, hx148_0⟩ := Kd.at_int HR0.out x23_1 p148 q148
           cases e148
           replace hx148_0 := (HB.out.cell (World.block_lt_of_cell? w _ hx148_0)).trans hx148_0
           replace p148 := eq_true p148
           replace q148 := eq_true q148
           have p149 : 0 ≤ (x23_1 : Int) := of_decide_eq_true (by first | (with_reducible assumption) | assumption)
           have q149 : x23_1 < (l1.length : Int) := of_decide_eq_true (by first | (with_reducible assumption) | assumption)
           obtain ⟨ad149, e149, hx149_0⟩ := Kd.at_int HR1.out x23_1 p149 q149
           cases e149
           replace hx149_0 := (HB.out.cell (World.block_lt_of_cell? w _ hx149_0)).trans hx149_0
           replace p149 := eq_true p149
           replace q149 := eq_true q149
           go_wp2_with (first | (rw [bits_Add64.runs (rd l0 x23_1) (rd l1 x23_1) x6_1 t150 t151 _ A13.out]; (try (rw [ZK wr]; generalize hq_ : World.drewN wr _ = wr; have n0_ : Zb (Kd.R (Kd.int .u64) 46 wr w.heap.size (fun k_ => (w.heap.size ≤ k_)) v146 x5_1) := ⟨by rw [← hq_]; exact (by (with_reducible repeat first | apply Kd.Zm | apply Kd.Zo); exact HO_5.out)⟩; have n1_ : Zb (Below w.heap.size w wr) := ⟨by rw [← hq_]; exact (by repeat (with_reducible first | exact HB.out | apply Zc | apply Za | apply Zd))⟩; clear HO_5 HB hq_; have HO_5 := n0_; have HB := n1_; clear n0_ n1_)); have p15 : 0 ≤ (x23_1 : Int) := of_decide_eq_true (by first | (with_reducible assumption) | assumption); have q15 : (x23_1 : Int) < ((x5_1.length : Int) : Int) := of_decide_eq_true (by first | (with_reducible assumption) | assumption); obtain ⟨go15, co15, eo15, gb15, gl15, cl15, HG15⟩ := Kd.R_form HO_5.out (by omega); (first | cases eo15 | (injection eo15 with ea_ en_ ec_; (first | subst ea_ | (injection ea_ with ea_; subst ea_)); subst ec_; clear en_)); have GB15 := Zb.mk gb15; have GG15 := Zb.mk HG15; clear gb15 gl15 HG15; obtain ⟨hx15_0, hf15_0⟩ := Kd.R_celln 0 HO_5.out (x23_1 : Int) p15 q15; replace p15 := eq_true p15; replace q15 := eq_true q15; obtain ⟨hy16_, hz16_⟩ := Kd.R_celln 0 HO_5.out (x23_1 : Int) (of_decide_eq_true (by first | (with_reducible assumption) | assumption)) (of_decide_eq_true (by first | (with_reducible assumption) | assumption)); have HP16 := Kd.R_putg HO_5.out (x23_1 : Int) t150) | ((with_reducible refine gate_store (t := 46) (p := 45) rfl ?_); refine ZQ (t := 46) (p := 45) (v := ?vo_w17) (w1 := (wr.setCell ⟨go15, (x23_1 : Int).toNat, none⟩ (.int .u64 t150))) ?hg ?ho ?hn ?hr ?_; (case ho => rfl); (case hg => rfl); (case hn => rfl); (case hr => first | (go_simp; done) | (go_simp; rfl)); intro w17 hw; have hg : wr.grownBy w17 (some go15) := (by rw [hw]; exact HP16.2); have hp_ : Kd.R (Kd.int .u64) 46 w17 w.heap.size (fun k_ => (w.heap.size ≤ k_)) (.slice (some ⟨go15, 0, none⟩) x5_1.length co15) y152 := (by rw [hw, Ny152.out]; exact HP16.1); clear HP16; have n0_ := Zb.mk (hp_); have n1_ := Zb.mk ((by rw [hw]; exact Zh (HB.out) GB15.out : Below w.heap.size w w17)); clear HO_5; clear HB; have HO_5 := n0_; have HB := n1_; clear n0_ n1_; clear hg hw hp_))
           go_roundg k1
           case measure => have := HK1.out; omega
           case rel => exact ⟨(y152), (t151), (wrap64 (x23_1 + 1)), (by first | rfl | (simp; done) | (simp [*]; done)), (by first | rfl | (simp; done) | (simp [*]; done)), H', ⟨by have := HK1.out; omega⟩, ⟨by (with_reducible repeat first | apply Kd.Zm | apply Kd.Zo); exact HO_5.out⟩, ⟨by repeat (with_reducible first | exact HB.out | apply Zc | apply Za | apply Zd)⟩⟩
          ·rw [if_neg c14] at H
           exact absurd H (by simp)
         ·rw [if_neg c12] at H
          have c12b0 : decide (x23_1 < (l1.length : Int)) = false := decide_eq_false c12
          clear c12
          replace H := Option.bind_eq_some_iff.mp H
          obtain ⟨⟨t153, t154⟩, A180, H⟩ := H
          replace H : (if x23_1 < (x5_1.length : Int) then (big_plus_E1.l0 k1 l0 l1 (x5_1.set (x23_1 : Int).toNat t153) t154 l0 (l0.length : Int) (wrap64 (x23_1 + 1))) else (none)) = some r := H
          have A18 := Zb.mk A180
          clear A180
          by_cases c19 : x23_1 < (x5_1.length : Int)
          ·rw [if_pos c19] at H
           have c19b0 : decide (x23_1 < (x5_1.length : Int)) = true := decide_eq_true c19
           clear c19
           obtain ⟨y155, hy155⟩ : ∃ y_ : List Int, y_ = (x5_1.set (x23_1 : Int).toNat t153) := ⟨_, rfl⟩
           replace H : (big_plus_E1.l0 k1 l0 l1 y155 t154 l0 (l0.length : Int) (wrap64 (x23_1 + 1))) = some r := by first | (rw [hy155]; with_reducible exact H) | (have H2_ := (Option.bind_some _ _).symm.trans H; rw [hy155]; with_reducible exact H2_) | (have H2_ := (Option.bind_some _ _).symm.trans H; with_reducible exact H2_) | with_reducible exact H | (rw [hy155]; exact H) | exact H
           have Ny155 := Zb.mk hy155
           clear hy155
           have H' := Zb.mk H
           clear H
           have p148 : 0 ≤ (x23_1 : Int) := of_decide_eq_true (by first | (with_reducible assumption) | assumption)
           have q148 : x23_1 < (l0.length : Int) := of_decide_eq_true (by first | (with_reducible assumption) | assumption)
           obtain ⟨ad148, e148, hx148_0⟩ := Kd.at_int HR0.out x23_1 p148 q148
           cases e148
           replace hx148_0 := (HB.out.cell (World.block_lt_of_cell? w _ hx148_0)).trans hx148_0
           replace p148 := eq_true p148
           replace q148 := eq_true q148
           go_wp2_with (first | (rw [bits_Add64.runs (rd l0 x23_1) 0 x6_1 t153 t154 _ A18.out]; (try (rw [ZK wr]; generalize hq_ : World.drewN wr _ = wr; have n0_ : Zb (Kd.R (Kd.int .u64) 46 wr w.heap.size (fun k_ => (w.heap.size ≤ k_)) v146 x5_1) := ⟨by rw [← hq_]; exact (by (with_reducible repeat first | apply Kd.Zm | apply Kd.Zo); exact HO_5.out)⟩; have n1_ : Zb (Below w.heap.size w wr) := ⟨by rw [← hq_]; exact (by repeat (with_reducible first | exact HB.out | apply Zc | apply Za | apply Zd))⟩; clear HO_5 HB hq_; have HO_5 := n0_; have HB := n1_; clear n0_ n1_)); have p20 : 0 ≤ (x23_1 : Int) := of_decide_eq_true (by first | (with_reducible assumption) | assumption); have q20 : (x23_1 : Int) < ((x5_1.length : Int) : Int) := of_decide_eq_true (by first | (with_reducible assumption) | assumption); obtain ⟨go20, co20, eo20, gb20, gl20, cl20, HG20⟩ := Kd.R_form HO_5.out (by omega); (first | cases eo20 | (injection eo20 with ea_ en_ ec_; (first | subst ea_ | (injection ea_ with ea_; subst ea_)); subst ec_; clear en_)); have GB20 := Zb.mk gb20; have GG20 := Zb.mk HG20; clear gb20 gl20 HG20; obtain ⟨hx20_0, hf20_0⟩ := Kd.R_celln 0 HO_5.out (x23_1 : Int) p20 q20; replace p20 := eq_true p20; replace q20 := eq_true q20; obtain ⟨hy21_, hz21_⟩ := Kd.R_celln 0 HO_5.out (x23_1 : Int) (of_decide_eq_true (by first | (with_reducible assumption) | assumption)) (of_decide_eq_true (by first | (with_reducible assumption) | assumption)); have HP21 := Kd.R_putg HO_5.out (x23_1 : Int) t153) | ((with_reducible refine gate_store (t := 46) (p := 45) rfl ?_); refine ZQ (t := 46) (p := 45) (v := ?vo_w22) (w1 := (wr.setCell ⟨go20, (x23_1 : Int).toNat, none⟩ (.int .u64 t153))) ?hg ?ho ?hn ?hr ?_; (case ho => rfl); (case hg => rfl); (case hn => rfl); (case hr => first | (go_simp; done) | (go_simp; rfl)); intro w22 hw; have hg : wr.grownBy w22 (some go20) := (by rw [hw]; exact HP21.2); have hp_ : Kd.R (Kd.int .u64) 46 w22 w.heap.size (fun k_ => (w.heap.size ≤ k_)) (.slice (some ⟨go20, 0, none⟩) x5_1.length co20) y155 := (by rw [hw, Ny155.out]; exact HP21.1); clear HP21; have n0_ := Zb.mk (hp_); have n1_ := Zb.mk ((by rw [hw]; exact Zh (HB.out) GB20.out : Below w.heap.size w w22)); clear HO_5; clear HB; have HO_5 := n0_; have HB := n1_; clear n0_ n1_; clear hg hw hp_))
           go_roundg k1
           case measure => have := HK1.out; omega
           case rel => exact ⟨(y155), (t154), (wrap64 (x23_1 + 1)), (by first | rfl | (simp; done) | (simp [*]; done)), (by first | rfl | (simp; done) | (simp [*]; done)), H', ⟨by have := HK1.out; omega⟩, ⟨by (with_reducible repeat first | apply Kd.Zm | apply Kd.Zo); exact HO_5.out⟩, ⟨by repeat (with_reducible first | exact HB.out | apply Zc | apply Za | apply Zd)⟩⟩
          ·rw [if_neg c19] at H
           exact absurd H (by simp)
        ·rw [if_neg c11] at H
         exact absurd H (by simp)
       ·rw [if_neg c10] at H
        exact absurd H (by simp)
      ·rw [if_neg c9] at H
       have c9b0 : decide (x23_1 < (l0.length : Int)) = false := decide_eq_false c9
       clear c9
       by_cases c23 : 0 ≤ (l0.length : Int)
       ·rw [if_pos c23] at H
        have c23b0 : decide (0 ≤ (l0.length : Int)) = true := decide_eq_true c23
        have c23b1 : decide (0 ≤ l0.length) = true := decide_eq_true (by omega)
        clear c23
        by_cases c24 : (l0.length : Int) < (x5_1.length : Int)
        ·rw [if_pos c24] at H
         have c24b0 : decide ((l0.length : Int) < (x5_1.length : Int)) = true := decide_eq_true c24
         have c24b1 : decide (l0.length < x5_1.length) = true := decide_eq_true (Int.ofNat_lt.mp c24)
         clear c24
         obtain ⟨y156, hy156⟩ : ∃ y_ : List Int, y_ = (x5_1.set ((l0.length : Int) : Int).toNat x6_1) := ⟨_, rfl⟩
         replace H : ((big_trim.f k1 y156).bind fun t157 => (some t157)) = some r := by first | (rw [hy156]; with_reducible exact H) | (have H2_ := (Option.bind_some _ _).symm.trans H; rw [hy156]; with_reducible exact H2_) | (have H2_ := (Option.bind_some _ _).symm.trans H; with_reducible exact H2_) | with_reducible exact H | (rw [hy156]; exact H) | exact H
         have Ny156 := Zb.mk hy156
         clear hy156
         replace H := Option.bind_eq_some_iff.mp H
         obtain ⟨t157, A260, H⟩ := H
         replace H : (some t157) = some r := H
         have A26 := Zb.mk A260
         clear A260
         obtain rfl := Option.some.inj H
         have p25 : 0 ≤ ((l0.length : Int) : Int) := of_decide_eq_true (by first | (with_reducible assumption) | assumption)
         have q25 : ((l0.length : Int) : Int) < ((x5_1.length : Int) : Int) := of_decide_eq_true (by first | (with_reducible assumption) | assumption)
         obtain ⟨go25, co25, eo25, gb25, gl25, cl25, HG25⟩ := Kd.R_form HO_5.out (by omega)
         (first | cases eo25 | (injection eo25 with ea_ en_ ec_; (first | subst ea_ | (injection ea_ with ea_; subst ea_)); subst ec_; clear en_))
         have GB25 := Zb.mk gb25
         have GG25 := Zb.mk HG25
         clear gb25 gl25 HG25
         obtain ⟨hx25_0, hf25_0⟩ := Kd.R_celln 0 HO_5.out ((l0.length : Int) : Int) p25 q25
         (try simp only [Int.toNat_natCast] at hx25_0 hf25_0)
         replace p25 := eq_true p25
         replace q25 := eq_true q25
         have HP27 := Kd.R_putg HO_5.out ((l0.length : Int) : Int) x6_1
         go_wp2_with (first | ((with_reducible refine gate_store (t := 46) (p := 51) rfl ?_); refine ZQ (t := 46) (p := 51) (v := ?vo_w28) (w1 := (wr.setCell ⟨go25, ((l0.length : Int) : Int).toNat, none⟩ (.int .u64 x6_1))) ?hg ?ho ?hn ?hr ?_; (case ho => rfl); (case hg => rfl); (case hn => rfl); (case hr => first | (go_simp; done) | (go_simp; rfl)); intro w28 hw; have hg : wr.grownBy w28 (some go25) := (by rw [hw]; exact HP27.2); have hp_ : Kd.R (Kd.int .u64) 46 w28 w.heap.size (fun k_ => (w.heap.size ≤ k_)) (.slice (some ⟨go25, 0, none⟩) x5_1.length co25) y156 := (by rw [hw, Ny156.out]; exact HP27.1); clear HP27; have n0_ := Zb.mk (hp_); have n1_ := Zb.mk ((by rw [hw]; exact Zh (HB.out) GB25.out : Below w.heap.size w w28)); clear HO_5; clear HB; have HO_5 := n0_; have HB := n1_; clear n0_ n1_; clear hg hw hp_) | ((with_reducible refine Zp (f := 87) rfl ?_); refine ZB (some 53) rfl rfl Try.func87 (by kernel_rfl) rfl #[.slice (some ⟨go25, 0, none⟩) y156.length co25] rfl (by (try simp only [List.map_toArray, List.map_cons, List.map_nil]); first | done | (rw [show y156.length = x5_1.length from (Kd.Zv HO_5.out).1.symm] <;> rfl) | rfl | (simp only [List.length_drop, List.length_take]; rfl)) ?_; (with_reducible refine (big_trim.calls k1 (fun k_ => some k_ = (.slice (some ⟨go25, 0, none⟩) x5_1.length co25 : Value).ownBlock) _ _ y156 t157 _ ?side1 A26.out).mono ?_); (case side1 => rw [show y156.length = x5_1.length from (Kd.Zv HO_5.out).1.symm]; exact Kd.R_V (Kd.R_tight rfl (HO_5.out))); rintro e w29 ⟨v158, rfl, ho0, hb⟩; refine ⟨_, rfl, ?_⟩; have n0_ := Zb.mk (Kd.Zz (by (with_reducible repeat first | apply Kd.Zm | apply Kd.Zo); exact HO_5.out) hb); have n1_ := Zb.mk (Kd.V_lower (Kd.V_mono (ok' := fun k_ => (w.heap.size ≤ k_)) ho0 (fun k_ hk_ => Or.elim hk_ (fun hs_ => ((HO_5.out).1 k_ hs_.symm)) (fun hn_ => (Nat.le_trans (Zi (by repeat (with_reducible first | exact HB.out | apply Zc | apply Za | apply Zd))) hn_)))) (Zi (by repeat (with_reducible first | exact HB.out | apply Zc | apply Za | apply Zd)))); have n2_ := Zb.mk (Zl (by repeat (with_reducible first | exact HB.out | apply Zc | apply Za | apply Zd)) hb); clear HO_5; clear HB; have HO_5 := n0_; have HO159 := n1_; have HB := n2_; clear n0_ n1_ n2_; (try clear hb); (try clear hb2); (try clear hk); (try clear hi); (try clear ho0)))
         go_ret
         exact ⟨_, by first | rfl | (simp [errW_none, errW_some] <;> rfl) | (simp only [← hji4]; first | rfl | (simp [errW_none, errW_some] <;> rfl)) | (simp [*, errW_none, errW_some] <;> rfl), by (with_reducible repeat first | apply Kd.V_drewN); exact HO159.out, by repeat (with_reducible first | exact HB.out | apply Zc | apply Za | apply Zd)⟩
        ·rw [if_neg c24] at H
         exact absurd H (by simp)
       ·rw [if_neg c23] at H
        exact absurd H (by simp)
   ·rw [if_neg c6] at H
    exact absurd H (by simp)
  ·rw [if_neg c5] at H
   exact absurd H (by simp)
def big_plus.f (k : Nat) (l0 : List Int) (l1 : List Int) : Option (List Int) := if (l0.length : Int) < (l1.length : Int) then big_plus_T1.f k l0 l1 else big_plus_E1.f k l0 l1
theorem big_plus.mono : ∀ a0 a1 k, LeO (big_plus.f k a0 a1) (big_plus.f (k + 1) a0 a1) := by
 intro a0 a1 k
 unfold big_plus.f
 split
 ·exact big_plus_T1.mono _ _ _
 ·exact big_plus_E1.mono _ _ _
theorem big_plus.calls (k : Nat) (A0 : Option Addr) (c0 : Nat) (l0 : List Int) (A1 : Option Addr) (c1 : Nat) (l1 : List Int) (r : List Int) (w : World) (hr0 : Kd.C (Kd.int .u64) w A0 l0.length l0) (hc0 : l0.length ≤ c0) (hr1 : Kd.C (Kd.int .u64) w A1 l1.length l1) (hc1 : l1.length ≤ c1) (h : big_plus.f k l0 l1 = some r) :
  Calls Try.prog 85 #[.slice A0 l0.length c0, .slice A1 l1.length c1] w fun e w' => ∃ v0_ : Value, e = .returned (v0_) ∧ Kd.V (Kd.int .u64) 46 w' w.heap.size (fun k_ => (w.heap.size ≤ k_)) v0_ r ∧ Below w.heap.size w w' := by
 unfold big_plus.f at h
 split at h
 ·exact big_plus_T1.calls k A0 c0 l0 A1 c1 l1 r w hr0 hc0 hr1 hc1 h
 ·exact big_plus_E1.calls k A0 c0 l0 A1 c1 l1 r w hr0 hc0 hr1 hc1 h
mutual
def big_times.j0 : Nat → List Int → List Int → Bool → Option (List Int)
 | 0, _, _, _ => none
 | k + 1, x0, x1, x22 => if x22 = true then (some ([] : List Int)) else (if 0 ≤ (wrap64 ((x0.length : Int) + (x1.length : Int))) then (if (wrap64 ((x0.length : Int) + (x1.length : Int)) : Int).toNat ≤ 35184372088832 then (big_times.l0 k x1 (List.replicate (wrap64 ((x0.length : Int) + (x1.length : Int)) : Int).toNat 0) x0 (x0.length : Int) 0) else (none)) else (none))
def big_times.l0 : Nat → List Int → List Int → List Int → Int → Int → Option (List Int)
 | 0, _, _, _, _, _ => none
 | k + 1, x1, x5, x29, x30, x31 => if x31 < x30 then (if 0 ≤ x31 then (if x31 < (x29.length : Int) then (big_times.l1 k x1 x5 x31 (rd x29 x31) 0 x29 x30 x31 x1 (x1.length : Int) 0) else (none)) else (none)) else ((big_trim.f k x5).bind fun t163 => (some t163))
def big_times.l1 : Nat → List Int → List Int → Int → Int → Int → List Int → Int → Int → List Int → Int → Int → Option (List Int)
 | 0, _, _, _, _, _, _, _, _, _, _, _ => none
 | k + 1, x1, x5, x6, x7, x8, x29, x30, x31, x36, x37, x38 => if x38 < x37 then (if 0 ≤ x38 then (if x38 < (x36.length : Int) then ((bits_Mul64.f x7 (rd x36 x38)).bind fun bt168 => (if 0 ≤ (wrap64 (x6 + x38)) then (if (wrap64 (x6 + x38)) < (x5.length : Int) then ((bits_Add64.f bt168.2 (rd x5 (wrap64 (x6 + x38))) 0).bind fun bt171 => ((bits_Add64.f bt171.1 x8 0).bind fun bt173 => (big_times.l1 k x1 (x5.set ((wrap64 (x6 + x38)) : Int).toNat bt173.1) x6 x7 (IntKind.u64.wrap ((IntKind.u64.wrap (bt168.1 + bt171.2)) + bt173.2)) x29 x30 x31 x36 x37 (wrap64 (x38 + 1))))) else (none)) else (none))) else (none)) else (none)) else (if 0 ≤ (wrap64 (x6 + (x1.length : Int))) then (if (wrap64 (x6 + (x1.length : Int))) < (x5.length : Int) then (big_times.l0 k x1 (x5.set ((wrap64 (x6 + (x1.length : Int))) : Int).toNat x8) x29 x30 (wrap64 (x31 + 1))) else (none)) else (none))
end
def big_times.f (k : Nat) (l0 : List Int) (l1 : List Int) : Option (List Int) := if (l0.length : Int) = 0 then (big_times.j0 k l0 l1 true) else (big_times.j0 k l0 l1 ((l1.length : Int) == 0))
theorem big_times.mono_l : ∀ k, (∀ y0 y1 y2, LeO (big_times.j0 k y0 y1 y2) (big_times.j0 (k + 1) y0 y1 y2)) ∧ (∀ y0 y1 y2 y3 y4, LeO (big_times.l0 k y0 y1 y2 y3 y4) (big_times.l0 (k + 1) y0 y1 y2 y3 y4)) ∧ (∀ y0 y1 y2 y3 y4 y5 y6 y7 y8 y9 y10, LeO (big_times.l1 k y0 y1 y2 y3 y4 y5 y6 y7 y8 y9 y10) (big_times.l1 (k + 1) y0 y1 y2 y3 y4 y5 y6 y7 y8 y9 y10))
 | 0 => ⟨fun _ _ _ r h => by simp [big_times.j0] at h, fun _ _ _ _ _ r h => by simp [big_times.l0] at h, fun _ _ _ _ _ _ _ _ _ _ _ r h => by simp [big_times.l1] at h⟩
 | k + 1 => by
  obtain ⟨ih0, ih1, ih2⟩ := big_times.mono_l k
  refine ⟨?_, ?_, ?_⟩
  ·intro y0 y1 y2
   unfold big_times.j0
   repeat' first
   | (with_reducible exact ih0 _ _ _)
   | (with_reducible exact ih1 _ _ _ _ _)
   | (with_reducible exact ih2 _ _ _ _ _ _ _ _ _ _ _)
   | (with_reducible exact big_trim.mono _ _)
   | (with_reducible exact LeO.refl _)
   | (with_reducible exact LeO.none _)
   | (with_reducible refine LeO.ite ?_ ?_)
   | (with_reducible refine LeO.bind ?_ (fun _ => ?_))
   | exact ih0 _ _ _
   | exact ih1 _ _ _ _ _
   | exact ih2 _ _ _ _ _ _ _ _ _ _ _
   | exact big_trim.mono _ _
   | exact LeO.none _
   | refine LeO.ite ?_ ?_
   | refine LeO.bind ?_ (fun _ => ?_)
  ·intro y0 y1 y2 y3 y4
   unfold big_times.l0
   repeat' first
   | (with_reducible exact ih0 _ _ _)
   | (with_reducible exact ih1 _ _ _ _ _)
   | (with_reducible exact ih2 _ _ _ _ _ _ _ _ _ _ _)
   | (with_reducible exact big_trim.mono _ _)
   | (with_reducible exact LeO.refl _)
   | (with_reducible exact LeO.none _)
   | (with_reducible refine LeO.ite ?_ ?_)
   | (with_reducible refine LeO.bind ?_ (fun _ => ?_))
   | exact ih0 _ _ _
   | exact ih1 _ _ _ _ _
   | exact ih2 _ _ _ _ _ _ _ _ _ _ _
   | exact big_trim.mono _ _
   | exact LeO.none _
   | refine LeO.ite ?_ ?_
   | refine LeO.bind ?_ (fun _ => ?_)
  ·intro y0 y1 y2 y3 y4 y5 y6 y7 y8 y9 y10
   unfold big_times.l1
   repeat' first
   | (with_reducible exact ih0 _ _ _)
   | (with_reducible exact ih1 _ _ _ _ _)
   | (with_reducible exact ih2 _ _ _ _ _ _ _ _ _ _ _)
   | (with_reducible exact big_trim.mono _ _)
   | (with_reducible exact LeO.refl _)
   | (with_reducible exact LeO.none _)
   | (with_reducible refine LeO.ite ?_ ?_)
   | (with_reducible refine LeO.bind ?_ (fun _ => ?_))
   | exact ih0 _ _ _
   | exact ih1 _ _ _ _ _
   | exact ih2 _ _ _ _ _ _ _ _ _ _ _
   | exact big_trim.mono _ _
   | exact LeO.none _
   | refine LeO.ite ?_ ?_
   | refine LeO.bind ?_ (fun _ => ?_)
theorem big_times.mono : ∀ a0 a1 k, LeO (big_times.f k a0 a1) (big_times.f (k + 1) a0 a1) := by
 intro a0 a1 k
 obtain ⟨ih0, ih1, ih2⟩ := big_times.mono_l k
 unfold big_times.f
 repeat' first
   | (with_reducible exact ih0 _ _ _)
   | (with_reducible exact ih1 _ _ _ _ _)
   | (with_reducible exact ih2 _ _ _ _ _ _ _ _ _ _ _)
   | (with_reducible exact big_trim.mono _ _)
   | (with_reducible exact LeO.refl _)
   | (with_reducible exact LeO.none _)
   | (with_reducible refine LeO.ite ?_ ?_)
   | (with_reducible refine LeO.bind ?_ (fun _ => ?_))
   | exact ih0 _ _ _
   | exact ih1 _ _ _ _ _
   | exact ih2 _ _ _ _ _ _ _ _ _ _ _
   | exact big_trim.mono _ _
   | exact LeO.none _
   | refine LeO.ite ?_ ?_
   | refine LeO.bind ?_ (fun _ => ?_)
set_option maxHeartbeats 8000000 in
set_option maxRecDepth 100000 in
theorem big_times.calls (k : Nat) (A0 : Option Addr) (c0 : Nat) (l0 : List Int) (A1 : Option Addr) (c1 : Nat) (l1 : List Int) (r : List Int) (w : World) (hr0 : Kd.C (Kd.int .u64) w A0 l0.length l0) (hc0 : l0.length ≤ c0) (hr1 : Kd.C (Kd.int .u64) w A1 l1.length l1) (hc1 : l1.length ≤ c1) (h : big_times.f k l0 l1 = some r) :
  Calls Try.prog 86 #[.slice A0 l0.length c0, .slice A1 l1.length c1] w fun e w' => ∃ v0_ : Value, e = .returned (v0_) ∧ Kd.V (Kd.int .u64) 46 w' w.heap.size (fun k_ => (w.heap.size ≤ k_)) v0_ r ∧ Below w.heap.size w w' := by
 have HR0 := Zb.mk hr0
 have HC0 := Zb.mk hc0
 clear hr0 hc0
 have HR1 := Zb.mk hr1
 have HC1 := Zb.mk hc1
 clear hr1 hc1
 have HB := Zb.mk (Below.refl w.heap.size w)
 have H : (if (l0.length : Int) = 0 then (big_times.j0 k l0 l1 true) else (big_times.j0 k l0 l1 ((l1.length : Int) == 0))) = some r := h
 clear h
 have HC3 := Zb.mk H
 clear H
 go_enter Try.func86, Try.ntmps86
 go_upto_region 1 with (fail)
 go_cut [22] (fun v22 wc => ∃ (kq : Nat) (x22_2 : Bool), v22 = .bool x22_2 ∧ Zb (big_times.j0 kq l0 l1 x22_2 = some r) ∧ Zb (kq ≤ k) ∧ Zb (Below w.heap.size w wc))
 case first =>
  have H := HC3.out
  clear HC3
  by_cases c4 : (l0.length : Int) = 0
  ·rw [if_pos c4] at H
   have c4b0 : ((l0.length : Int) == 0) = true := beq_iff_eq.mpr c4
   have c4b1 : ((l0.length : Int) != 0) = false := bne_eq_false_iff_eq.mpr c4
   clear c4
   (first | rw [c4b0] | (simp only [Zx, ZA]; rw [c4b0]) | skip)
   have H' := Zb.mk H
   clear H
   go_wp2
   go_meet
   case rel => exact ⟨_, (true), (by first | rfl | (simp; done) | (simp [*]; done)), H', ⟨by first | omega | exact Nat.le_refl _⟩, ⟨by repeat (with_reducible first | exact HB.out | apply Zc | apply Za | apply Zd)⟩⟩
  ·rw [if_neg c4] at H
   have c4b0 : ((l0.length : Int) == 0) = false := beq_eq_false_iff_ne.mpr c4
   have c4b1 : ((l0.length : Int) != 0) = true := bne_iff_ne.mpr c4
   have c4b2 : ¬ (l0 = []) := fun h_ => c4 (by rw [h_]; rfl)
   (first | rw [c4b0] | (simp only [Zx, ZA]; rw [c4b0]) | skip)
   have H' := Zb.mk H
   clear H
   go_wp2
   go_meet
   case rel => exact ⟨_, (((l1.length : Int) == 0)), (by first | rfl | (simp; done) | (simp [*]; done)), H', ⟨by first | omega | exact Nat.le_refl _⟩, ⟨by repeat (with_reducible first | exact HB.out | apply Zc | apply Za | apply Zd)⟩⟩
 case rest =>
  clear HC3
  try clear c1
  try clear p2
  try clear c4
  try clear c4b0
  try clear c4b1
  try clear c4b2
  obtain ⟨kq, x22_2, rfl, HA, HJ2, HB⟩ := hcut
  cases kq with
  | zero => exact absurd HA.out (by simp [big_times.j0])
  | succ kj2 =>
   have H := HA.out
   clear HA
   simp only [big_times.j0] at H
   by_cases c5 : x22_2 = true
   ·subst c5
    have H1 : (some ([] : List Int)) = some r := by rw [if_pos rfl] at H; exact H
    clear H
    have H := H1
    clear H1
    obtain rfl := Option.some.inj H
    go_wp2
    go_ret
    exact ⟨.slice none 0 0, by first | rfl | (simp [errW_none, errW_some] <;> rfl) | (simp [*, errW_none, errW_some] <;> rfl), Kd.V_nil _ _ _ _ _, by repeat (with_reducible first | exact HB.out | apply Zc | apply Za | apply Zd)⟩
   ·replace c5 := Bool.eq_false_iff.mpr c5
    subst c5
    have H1 : (if 0 ≤ (wrap64 ((l0.length : Int) + (l1.length : Int))) then (if (wrap64 ((l0.length : Int) + (l1.length : Int)) : Int).toNat ≤ 35184372088832 then (big_times.l0 kj2 l1 (List.replicate (wrap64 ((l0.length : Int) + (l1.length : Int)) : Int).toNat 0) l0 (l0.length : Int) 0) else (none)) else (none)) = some r := by rw [if_neg (show ¬ (false = true) by decide)] at H; exact H
    clear H
    have H := H1
    clear H1
    obtain ⟨ji6, hji6⟩ : ∃ j_ : Int, (wrap64 ((l0.length : Int) + (l1.length : Int))) = j_ := ⟨_, rfl⟩
    replace H : (if 0 ≤ (ji6) then (if (ji6 : Int).toNat ≤ 35184372088832 then (big_times.l0 kj2 l1 (List.replicate (ji6 : Int).toNat 0) l0 (l0.length : Int) 0) else (none)) else (none)) = some r := by first | (rw [hji6] at H; exact H) | (simp only [hji6] at H ⊢; exact H)
    have hji6w : (IntKind.i64.wrap ((l0.length : Int) + (l1.length : Int))) = ji6 := (Zx _).trans hji6
    by_cases c7 : 0 ≤ (ji6)
    ·rw [if_pos c7] at H
     have c7b0 := eq_true c7
     have c7b1 : decide (0 ≤ (ji6)) = true := decide_eq_true c7
     clear c7
     by_cases c8 : (ji6 : Int).toNat ≤ 35184372088832
     ·rw [if_pos c8] at H
      have c8b0 := eq_true c8
      have c8b1 : decide ((ji6 : Int).toNat ≤ 35184372088832) = true := decide_eq_true c8
      clear c8
      obtain ⟨y160, hy160⟩ : ∃ y_ : List Int, y_ = (List.replicate (ji6 : Int).toNat 0) := ⟨_, rfl⟩
      replace H : (big_times.l0 kj2 l1 y160 l0 (l0.length : Int) 0) = some r := by first | (rw [hy160]; with_reducible exact H) | (have H2_ := (Option.bind_some _ _).symm.trans H; rw [hy160]; with_reducible exact H2_) | (have H2_ := (Option.bind_some _ _).symm.trans H; with_reducible exact H2_) | with_reducible exact H | (rw [hy160]; exact H) | exact H
      have Ny160 := Zb.mk hy160
      clear hy160
      have H' := Zb.mk H
      clear H
      go_wp2_with (first | ((with_reducible refine Zt (N := 28) rfl ?_); (try (refine gate_guard (by rfl) ?_; dsimp only)); refine Kd.R_make (Kd.int .u64) _ 46 rfl (N := 28) rfl 22 _ _ rfl ji6 rfl rfl Try.underlying22 (.int .u64 0) 8 info46 rfl (by decide) (by omega) 0 (ok := fun _ => True) (okp := fun _ => True) rfl (fun _ hk => hk) trivial (of_decide_eq_true (by first | (with_reducible assumption) | assumption)) (Nat.le_trans (Nat.mul_le_mul_right _ (of_decide_eq_true (by first | (with_reducible assumption) | assumption) : ji6.toNat ≤ 35184372088832)) (by omega)) (Below.refl _ _) (Nat.le_refl _) ?_; intro v161 w9 ho10 hb hg_ hnew_; clear hg_ hnew_; (first | rw [← Ny160.out] at ho10 | (simp only [Int.reduceToNat] at ho10; rw [← Ny160.out] at ho10)); have n0_ := Zb.mk (Kd.ZG (Kd.R_newM (M := fun k_ => (w.heap.size ≤ k_)) ho10 (Zi (by repeat (with_reducible first | exact HB.out | apply Zc | apply Za | apply Zd))) (fun k_ h_ => h_)) (Zi (by repeat (with_reducible first | exact HB.out | apply Zc | apply Za | apply Zd)))); have n1_ := Zb.mk (Zl (by repeat (with_reducible first | exact HB.out | apply Zc | apply Za | apply Zd)) hb); clear HB; have HO162 := n0_; have HB := n1_; clear n0_ n1_; clear hb ho10))
      go_loopg [31] kj2 (fun kq v31 w' => ∃ (x5_2 : List Int) (x31_2 : Int), v31 = .int .i64 x31_2 ∧ Zb (big_times.l0 kq l1 x5_2 l0 (l0.length : Int) x31_2 = some r) ∧ Zb (kq ≤ kj2) ∧ Zb (Kd.R (Kd.int .u64) 46 w' w.heap.size (fun k_ => (w.heap.size ≤ k_)) v161 x5_2) ∧ Zb (Below w.heap.size w w'))
      case atStart => exact ⟨(y160), (0), (by first | rfl | (simp; done) | (simp [*]; done)), H', ⟨Nat.le_refl _⟩, ⟨by (with_reducible repeat first | apply Kd.Zm | apply Kd.Zo); exact Kd.ZE HO162.out (fun _ hk => hk.1)⟩, ⟨by repeat (with_reducible first | exact HB.out | apply Zc | apply Za | apply Zd)⟩⟩
      case round =>
       clear H'
       try clear c1
       try clear p2
       try clear c4
       try clear c4b0
       try clear c4b1
       try clear c4b2
       try clear c5
       try clear p6
       try clear c7
       try clear c7b0
       try clear c7b1
       try clear c8
       try clear c8b0
       try clear c8b1
       try clear p2
       obtain ⟨x5_2, x31_2, rfl, HA, HK2, HO_5, HB⟩ := hrel
       cases gk with
       | zero => exact absurd HA.out (by simp [big_times.l0])
       | succ k2 =>
        have H := HA.out
        clear HA
        simp only [big_times.l0] at H
        by_cases c11 : x31_2 < (l0.length : Int)
        ·rw [if_pos c11] at H
         have c11b0 : decide (x31_2 < (l0.length : Int)) = true := decide_eq_true c11
         clear c11
         by_cases c12 : 0 ≤ x31_2
         ·rw [if_pos c12] at H
          have c12b0 : decide (0 ≤ x31_2) = true := decide_eq_true c12
          clear c12
          by_cases c13 : x31_2 < (l0.length : Int)
          ·rw [if_pos c13] at H
           have c13b0 : decide (x31_2 < (l0.length : Int)) = true := decide_eq_true c13
           clear c13
           have H' := Zb.mk H
           clear H
           have p166 : 0 ≤ (x31_2 : Int) := of_decide_eq_true (by first | (with_reducible assumption) | assumption)
           have q166 : x31_2 < (l0.length : Int) := of_decide_eq_true (by first | (with_reducible assumption) | assumption)
           obtain ⟨ad166, e166, hx166_0⟩ := Kd.at_int HR0.out x31_2 p166 q166
           cases e166
           replace hx166_0 := (HB.out.cell (World.block_lt_of_cell? w _ hx166_0)).trans hx166_0
           replace p166 := eq_true p166
           replace q166 := eq_true q166
           go_wp2
           go_loopg [8, 38] k2 (fun kq v8 v38 w' => ∃ (x5_3 : List Int) (x8_3 : Int) (x38_3 : Int), v8 = .int .u64 x8_3 ∧ v38 = .int .i64 x38_3 ∧ Zb (big_times.l1 kq l1 x5_3 x31_2 (rd l0 x31_2) x8_3 l0 (l0.length : Int) x31_2 l1 (l1.length : Int) x38_3 = some r) ∧ Zb (kq ≤ k2) ∧ Zb (Kd.R (Kd.int .u64) 46 w' w.heap.size (fun k_ => (w.heap.size ≤ k_)) v161 x5_3) ∧ Zb (Below w.heap.size w w'))
           case atStart => exact ⟨(x5_2), (0), (0), (by first | rfl | (simp; done) | (simp [*]; done)), (by first | rfl | (simp; done) | (simp [*]; done)), H', ⟨Nat.le_refl _⟩, ⟨by (with_reducible repeat first | apply Kd.Zm | apply Kd.Zo); exact HO_5.out⟩, ⟨by repeat (with_reducible first | exact HB.out | apply Zc | apply Za | apply Zd)⟩⟩
           case round =>
            clear H'
            try clear c1
            try clear p1
            try clear q1
            try clear hx1
            try clear p2
            try clear c4
            try clear c4b0
            try clear c4b1
            try clear c4b2
            try clear c5
            try clear p6
            try clear c7
            try clear c7b0
            try clear c7b1
            try clear c8
            try clear c8b0
            try clear c8b1
            try clear c11
            try clear c11b0
            try clear c12
            try clear c12b0
            try clear c13
            try clear c13b0
            try clear hx166_0
            try clear p166
            try clear p2
            try clear p6
            try clear q166
            obtain ⟨x5_3, x8_3, x38_3, rfl, rfl, HA, HK3, HO_5, HB⟩ := hrel
            cases gk with
            | zero => exact absurd HA.out (by simp [big_times.l1])
            | succ k3 =>
             have H := HA.out
             clear HA
             simp only [big_times.l1] at H
             by_cases c14 : x38_3 < (l1.length : Int)
             ·rw [if_pos c14] at H
              have c14b0 : decide (x38_3 < (l1.length : Int)) = true := decide_eq_true c14
              clear c14
              by_cases c15 : 0 ≤ x38_3
              ·rw [if_pos c15] at H
               have c15b0 : decide (0 ≤ x38_3) = true := decide_eq_true c15
               clear c15
               by_cases c16 : x38_3 < (l1.length : Int)
               ·rw [if_pos c16] at H
                have c16b0 : decide (x38_3 < (l1.length : Int)) = true := decide_eq_true c16
                clear c16
                replace H := Option.bind_eq_some_iff.mp H
                obtain ⟨⟨t168, t169⟩, A170, H⟩ := H
                replace H : (if 0 ≤ (wrap64 (x31_2 + x38_3)) then (if (wrap64 (x31_2 + x38_3)) < (x5_3.length : Int) then ((bits_Add64.f t169 (rd x5_3 (wrap64 (x31_2 + x38_3))) 0).bind fun bt171 => ((bits_Add64.f bt171.1 x8_3 0).bind fun bt173 => (big_times.l1 k3 l1 (x5_3.set ((wrap64 (x31_2 + x38_3)) : Int).toNat bt173.1) x31_2 (rd l0 x31_2) (IntKind.u64.wrap ((IntKind.u64.wrap (t168 + bt171.2)) + bt173.2)) l0 (l0.length : Int) x31_2 l1 (l1.length : Int) (wrap64 (x38_3 + 1))))) else (none)) else (none)) = some r := H
                have A17 := Zb.mk A170
                clear A170
                obtain ⟨ji18, hji18⟩ : ∃ j_ : Int, (wrap64 (x31_2 + x38_3)) = j_ := ⟨_, rfl⟩
                replace H : (if 0 ≤ (ji18) then (if (ji18) < (x5_3.length : Int) then ((bits_Add64.f t169 (rd x5_3 (ji18)) 0).bind fun bt171 => ((bits_Add64.f bt171.1 x8_3 0).bind fun bt173 => (big_times.l1 k3 l1 (x5_3.set ((ji18) : Int).toNat bt173.1) x31_2 (rd l0 x31_2) (IntKind.u64.wrap ((IntKind.u64.wrap (t168 + bt171.2)) + bt173.2)) l0 (l0.length : Int) x31_2 l1 (l1.length : Int) (wrap64 (x38_3 + 1))))) else (none)) else (none)) = some r := by first | (rw [hji18] at H; exact H) | (simp only [hji18] at H ⊢; exact H)
                (try rw [hji18] at A17)
                have hji18w : (IntKind.i64.wrap (x31_2 + x38_3)) = ji18 := (Zx _).trans hji18
                by_cases c19 : 0 ≤ (ji18)
                ·rw [if_pos c19] at H
                 have c19b0 : decide (0 ≤ (ji18)) = true := decide_eq_true c19
                 clear c19
                 by_cases c20 : (ji18) < (x5_3.length : Int)
                 ·rw [if_pos c20] at H
                  have c20b0 : decide ((ji18) < (x5_3.length : Int)) = true := decide_eq_true c20
                  clear c20
                  replace H := Option.bind_eq_some_iff.mp H
                  obtain ⟨⟨t171, t172⟩, A210, H⟩ := H
                  replace H : ((bits_Add64.f t171 x8_3 0).bind fun bt173 => (big_times.l1 k3 l1 (x5_3.set ((ji18) : Int).toNat bt173.1) x31_2 (rd l0 x31_2) (IntKind.u64.wrap ((IntKind.u64.wrap (t168 + t172)) + bt173.2)) l0 (l0.length : Int) x31_2 l1 (l1.length : Int) (wrap64 (x38_3 + 1)))) = some r := H
                  have A21 := Zb.mk A210
                  clear A210
                  replace H := Option.bind_eq_some_iff.mp H
                  obtain ⟨⟨t173, t174⟩, A220, H⟩ := H
                  replace H : (big_times.l1 k3 l1 (x5_3.set ((ji18) : Int).toNat t173) x31_2 (rd l0 x31_2) (IntKind.u64.wrap ((IntKind.u64.wrap (t168 + t172)) + t174)) l0 (l0.length : Int) x31_2 l1 (l1.length : Int) (wrap64 (x38_3 + 1))) = some r := H
                  have A22 := Zb.mk A220
                  clear A220
                  obtain ⟨y175, hy175⟩ : ∃ y_ : List Int, y_ = (x5_3.set ((ji18) : Int).toNat t173) := ⟨_, rfl⟩
                  replace H : (big_times.l1 k3 l1 y175 x31_2 (rd l0 x31_2) (IntKind.u64.wrap ((IntKind.u64.wrap (t168 + t172)) + t174)) l0 (l0.length : Int) x31_2 l1 (l1.length : Int) (wrap64 (x38_3 + 1))) = some r := by first | (rw [hy175]; with_reducible exact H) | (have H2_ := (Option.bind_some _ _).symm.trans H; rw [hy175]; with_reducible exact H2_) | (have H2_ := (Option.bind_some _ _).symm.trans H; with_reducible exact H2_) | with_reducible exact H | (rw [hy175]; exact H) | exact H
                  have Ny175 := Zb.mk hy175
                  clear hy175
                  have H' := Zb.mk H
                  clear H
                  have p167 : 0 ≤ (x38_3 : Int) := of_decide_eq_true (by first | (with_reducible assumption) | assumption)
                  have q167 : x38_3 < (l1.length : Int) := of_decide_eq_true (by first | (with_reducible assumption) | assumption)
                  obtain ⟨ad167, e167, hx167_0⟩ := Kd.at_int HR1.out x38_3 p167 q167
                  cases e167
                  replace hx167_0 := (HB.out.cell (World.block_lt_of_cell? w _ hx167_0)).trans hx167_0
                  replace p167 := eq_true p167
                  replace q167 := eq_true q167
                  go_wp2_with (first | ((with_reducible refine Zp (f := 111) rfl ?_); refine ZB (some 46) rfl rfl Try.func111 (by kernel_rfl) rfl #[.int .u64 (rd l0 x31_2), .int .u64 (rd l1 x38_3)] rfl (by (try simp only [List.map_toArray, List.map_cons, List.map_nil]); first | done | rfl | (simp only [List.length_drop, List.length_take]; rfl)) ?_; (with_reducible refine (bits_Mul64.calls (rd l0 x31_2) (rd l1 x38_3) t168 t169 _ A17.out).mono ?_); rintro e w' ⟨rfl, ⟨nd, rfl⟩⟩; refine ⟨_, rfl, ?_⟩; (try (rw [ZK wr]; generalize hq_ : World.drewN wr _ = wr; have n0_ : Zb (Kd.R (Kd.int .u64) 46 wr w.heap.size (fun k_ => (w.heap.size ≤ k_)) v161 x5_3) := ⟨by rw [← hq_]; exact (by (with_reducible repeat first | apply Kd.Zm | apply Kd.Zo); exact HO_5.out)⟩; have n1_ : Zb (Below w.heap.size w wr) := ⟨by rw [← hq_]; exact (by repeat (with_reducible first | exact HB.out | apply Zc | apply Za | apply Zd))⟩; clear HO_5 HB hq_; have HO_5 := n0_; have HB := n1_; clear n0_ n1_)); obtain ⟨Ao24, co24, eo24⟩ := Kd.Zy HO_5.out; subst eo24; have p170 : 0 ≤ ((ji18) : Int) := of_decide_eq_true (by first | (with_reducible assumption) | assumption); have q170 : (ji18) < (x5_3.length : Int) := of_decide_eq_true (by first | (with_reducible assumption) | assumption); obtain ⟨ad170, e170, hx170_0⟩ := Kd.at_int (Kd.Zv HO_5.out).2.2 (ji18) p170 q170; cases e170; replace p170 := eq_true p170; replace q170 := eq_true q170) | (rw [bits_Add64.runs t169 (rd x5_3 (ji18)) 0 t171 t172 _ A21.out]; (try (rw [ZK wr]; generalize hq_ : World.drewN wr _ = wr; have n0_ : Zb (Kd.R (Kd.int .u64) 46 wr w.heap.size (fun k_ => (w.heap.size ≤ k_)) (.slice (some ad170) x5_3.length co24) x5_3) := ⟨by rw [← hq_]; exact (by (with_reducible repeat first | apply Kd.Zm | apply Kd.Zo); exact HO_5.out)⟩; have n1_ : Zb (Below w.heap.size w wr) := ⟨by rw [← hq_]; exact (by repeat (with_reducible first | exact HB.out | apply Zc | apply Za | apply Zd))⟩; clear HO_5 HB hq_; have HO_5 := n0_; have HB := n1_; clear n0_ n1_))) | (rw [bits_Add64.runs t171 x8_3 0 t173 t174 _ A22.out]; (try (rw [ZK wr]; generalize hq_ : World.drewN wr _ = wr; have n0_ : Zb (Kd.R (Kd.int .u64) 46 wr w.heap.size (fun k_ => (w.heap.size ≤ k_)) (.slice (some ad170) x5_3.length co24) x5_3) := ⟨by rw [← hq_]; exact (by (with_reducible repeat first | apply Kd.Zm | apply Kd.Zo); exact HO_5.out)⟩; have n1_ : Zb (Below w.heap.size w wr) := ⟨by rw [← hq_]; exact (by repeat (with_reducible first | exact HB.out | apply Zc | apply Za | apply Zd))⟩; clear HO_5 HB hq_; have HO_5 := n0_; have HB := n1_; clear n0_ n1_)); have p23 : 0 ≤ ((ji18) : Int) := of_decide_eq_true (by first | (with_reducible assumption) | assumption); have q23 : ((ji18) : Int) < ((x5_3.length : Int) : Int) := of_decide_eq_true (by first | (with_reducible assumption) | assumption); obtain ⟨go23, co23, eo23, gb23, gl23, cl23, HG23⟩ := Kd.R_form HO_5.out (by omega); (first | cases eo23 | (injection eo23 with ea_ en_ ec_; (first | subst ea_ | (injection ea_ with ea_; subst ea_)); subst ec_; clear en_)); have GB23 := Zb.mk gb23; have GG23 := Zb.mk HG23; clear gb23 gl23 HG23; (first | simp only [add_plain] at hx170_0 | skip); obtain ⟨hx23_0, hf23_0⟩ := Kd.R_celln 0 HO_5.out ((ji18) : Int) p23 q23; replace p23 := eq_true p23; replace q23 := eq_true q23; obtain ⟨hy25_, hz25_⟩ := Kd.R_celln 0 HO_5.out ((ji18) : Int) (of_decide_eq_true (by first | (with_reducible assumption) | assumption)) (of_decide_eq_true (by first | (with_reducible assumption) | assumption)); have HP25 := Kd.R_putg HO_5.out ((ji18) : Int) t173) | ((with_reducible refine gate_store (t := 46) (p := 77) rfl ?_); refine ZQ (t := 46) (p := 77) (v := ?vo_w26) (w1 := (wr.setCell ⟨go23, ((ji18) : Int).toNat, none⟩ (.int .u64 t173))) ?hg ?ho ?hn ?hr ?_; (case ho => rfl); (case hg => rfl); (case hn => rfl); (case hr => first | (go_simp; done) | (go_simp; rfl)); intro w26 hw; have hg : wr.grownBy w26 (some go23) := (by rw [hw]; exact HP25.2); have hp_ : Kd.R (Kd.int .u64) 46 w26 w.heap.size (fun k_ => (w.heap.size ≤ k_)) (.slice (some ⟨go23, 0, none⟩) x5_3.length co24) y175 := (by rw [hw, Ny175.out]; exact HP25.1); clear HP25; have n0_ := Zb.mk (hp_); have n1_ := Zb.mk ((by rw [hw]; exact Zh (HB.out) GB23.out : Below w.heap.size w w26)); clear HO_5; clear HB; have HO_5 := n0_; have HB := n1_; clear n0_ n1_; clear hg hw hp_))
                  go_roundg k3
                  case measure => have := HJ2.out; have := HK2.out; have := HK3.out; omega
                  case rel => exact ⟨(y175), (IntKind.u64.wrap ((IntKind.u64.wrap (t168 + t172)) + t174)), (wrap64 (x38_3 + 1)), (by first | rfl | (simp; done) | (simp [*]; done)), (by first | rfl | (simp; done) | (simp [*]; done)), H', ⟨by have := HJ2.out; have := HK2.out; have := HK3.out; omega⟩, ⟨by (with_reducible repeat first | apply Kd.Zm | apply Kd.Zo); exact HO_5.out⟩, ⟨by repeat (with_reducible first | exact HB.out | apply Zc | apply Za | apply Zd)⟩⟩
                 ·rw [if_neg c20] at H
                  exact absurd H (by simp)
                ·rw [if_neg c19] at H
                 exact absurd H (by simp)
               ·rw [if_neg c16] at H
                exact absurd H (by simp)
              ·rw [if_neg c15] at H
               exact absurd H (by simp)
             ·rw [if_neg c14] at H
              have c14b0 : decide (x38_3 < (l1.length : Int)) = false := decide_eq_false c14
              clear c14
              obtain ⟨ji27, hji27⟩ : ∃ j_ : Int, (wrap64 (x31_2 + (l1.length : Int))) = j_ := ⟨_, rfl⟩
              replace H : (if 0 ≤ (ji27) then (if (ji27) < (x5_3.length : Int) then (big_times.l0 k3 l1 (x5_3.set ((ji27) : Int).toNat x8_3) l0 (l0.length : Int) (wrap64 (x31_2 + 1))) else (none)) else (none)) = some r := by first | (rw [hji27] at H; exact H) | (simp only [hji27] at H ⊢; exact H)
              have hji27w : (IntKind.i64.wrap (x31_2 + (l1.length : Int))) = ji27 := (Zx _).trans hji27
              by_cases c28 : 0 ≤ (ji27)
              ·rw [if_pos c28] at H
               have c28b0 : decide (0 ≤ (ji27)) = true := decide_eq_true c28
               clear c28
               by_cases c29 : (ji27) < (x5_3.length : Int)
               ·rw [if_pos c29] at H
                have c29b0 : decide ((ji27) < (x5_3.length : Int)) = true := decide_eq_true c29
                clear c29
                obtain ⟨y176, hy176⟩ : ∃ y_ : List Int, y_ = (x5_3.set ((ji27) : Int).toNat x8_3) := ⟨_, rfl⟩
                replace H : (big_times.l0 k3 l1 y176 l0 (l0.length : Int) (wrap64 (x31_2 + 1))) = some r := by first | (rw [hy176]; with_reducible exact H) | (have H2_ := (Option.bind_some _ _).symm.trans H; rw [hy176]; with_reducible exact H2_) | (have H2_ := (Option.bind_some _ _).symm.trans H; with_reducible exact H2_) | with_reducible exact H | (rw [hy176]; exact H) | exact H
                have Ny176 := Zb.mk hy176
                clear hy176
                have H' := Zb.mk H
                clear H
                have p30 : 0 ≤ ((ji27) : Int) := of_decide_eq_true (by first | (with_reducible assumption) | assumption)
                have q30 : ((ji27) : Int) < ((x5_3.length : Int) : Int) := of_decide_eq_true (by first | (with_reducible assumption) | assumption)
                obtain ⟨go30, co30, eo30, gb30, gl30, cl30, HG30⟩ := Kd.R_form HO_5.out (by omega)
                (first | cases eo30 | (injection eo30 with ea_ en_ ec_; (first | subst ea_ | (injection ea_ with ea_; subst ea_)); subst ec_; clear en_))
                have GB30 := Zb.mk gb30
                have GG30 := Zb.mk HG30
                clear gb30 gl30 HG30
                obtain ⟨hx30_0, hf30_0⟩ := Kd.R_celln 0 HO_5.out ((ji27) : Int) p30 q30
                replace p30 := eq_true p30
                replace q30 := eq_true q30
                have HP31 := Kd.R_putg HO_5.out ((ji27) : Int) x8_3
                go_wp2_with (first | ((with_reducible refine gate_store (t := 46) (p := 85) rfl ?_); refine ZQ (t := 46) (p := 85) (v := ?vo_w32) (w1 := (wr.setCell ⟨go30, ((ji27) : Int).toNat, none⟩ (.int .u64 x8_3))) ?hg ?ho ?hn ?hr ?_; (case ho => rfl); (case hg => rfl); (case hn => rfl); (case hr => first | (go_simp; done) | (go_simp; rfl)); intro w32 hw; have hg : wr.grownBy w32 (some go30) := (by rw [hw]; exact HP31.2); have hp_ : Kd.R (Kd.int .u64) 46 w32 w.heap.size (fun k_ => (w.heap.size ≤ k_)) (.slice (some ⟨go30, 0, none⟩) x5_3.length co30) y176 := (by rw [hw, Ny176.out]; exact HP31.1); clear HP31; have n0_ := Zb.mk (hp_); have n1_ := Zb.mk ((by rw [hw]; exact Zh (HB.out) GB30.out : Below w.heap.size w w32)); clear HO_5; clear HB; have HO_5 := n0_; have HB := n1_; clear n0_ n1_; clear hg hw hp_))
                go_roundg k3
                case measure => have := HJ2.out; have := HK2.out; have := HK3.out; omega
                case rel => exact ⟨(y176), (wrap64 (x31_2 + 1)), (by first | rfl | (simp; done) | (simp [*]; done)), H', ⟨by have := HJ2.out; have := HK2.out; have := HK3.out; omega⟩, ⟨by (with_reducible repeat first | apply Kd.Zm | apply Kd.Zo); exact HO_5.out⟩, ⟨by repeat (with_reducible first | exact HB.out | apply Zc | apply Za | apply Zd)⟩⟩
               ·rw [if_neg c29] at H
                exact absurd H (by simp)
              ·rw [if_neg c28] at H
               exact absurd H (by simp)
          ·rw [if_neg c13] at H
           exact absurd H (by simp)
         ·rw [if_neg c12] at H
          exact absurd H (by simp)
        ·rw [if_neg c11] at H
         have c11b0 : decide (x31_2 < (l0.length : Int)) = false := decide_eq_false c11
         clear c11
         replace H := Option.bind_eq_some_iff.mp H
         obtain ⟨t163, A330, H⟩ := H
         replace H : (some t163) = some r := H
         have A33 := Zb.mk A330
         clear A330
         obtain rfl := Option.some.inj H
         obtain ⟨Ao34, co34, eo34⟩ := Kd.Zy HO_5.out
         subst eo34
         go_wp2_with (first | ((with_reducible refine Zp (f := 87) rfl ?_); refine ZB (some 88) rfl rfl Try.func87 (by kernel_rfl) rfl #[.slice Ao34 x5_2.length co34] rfl (by (try simp only [List.map_toArray, List.map_cons, List.map_nil]); first | done | rfl | (simp only [List.length_drop, List.length_take]; rfl)) ?_; (with_reducible refine (big_trim.calls k2 (fun k_ => some k_ = (.slice Ao34 x5_2.length co34 : Value).ownBlock) _ _ x5_2 t163 _ ?side1 A33.out).mono ?_); (case side1 => exact Kd.R_V (Kd.R_tight rfl (HO_5.out))); rintro e w35 ⟨v164, rfl, ho0, hb⟩; refine ⟨_, rfl, ?_⟩; have n0_ := Zb.mk (Kd.Zz (by (with_reducible repeat first | apply Kd.Zm | apply Kd.Zo); exact HO_5.out) hb); have n1_ := Zb.mk (Kd.V_lower (Kd.V_mono (ok' := fun k_ => (w.heap.size ≤ k_)) ho0 (fun k_ hk_ => Or.elim hk_ (fun hs_ => ((HO_5.out).1 k_ hs_.symm)) (fun hn_ => (Nat.le_trans (Zi (by repeat (with_reducible first | exact HB.out | apply Zc | apply Za | apply Zd))) hn_)))) (Zi (by repeat (with_reducible first | exact HB.out | apply Zc | apply Za | apply Zd)))); have n2_ := Zb.mk (Zl (by repeat (with_reducible first | exact HB.out | apply Zc | apply Za | apply Zd)) hb); clear HO_5; clear HB; have HO_5 := n0_; have HO165 := n1_; have HB := n2_; clear n0_ n1_ n2_; (try clear hb); (try clear hb2); (try clear hk); (try clear hi); (try clear ho0)))
         go_ret
         exact ⟨_, by first | rfl | (simp [errW_none, errW_some] <;> rfl) | (simp only [← hji6]; first | rfl | (simp [errW_none, errW_some] <;> rfl)) | (simp [*, errW_none, errW_some] <;> rfl), by (with_reducible repeat first | apply Kd.V_drewN); exact HO165.out, by repeat (with_reducible first | exact HB.out | apply Zc | apply Za | apply Zd)⟩
     ·rw [if_neg c8] at H
      exact absurd H (by simp)
    ·rw [if_neg c7] at H
     exact absurd H (by simp)
def big_size.f (k : Nat) (l0 : List Int) : Option (Int) := if (l0.length : Int) = 0 then (some 0) else (if 0 ≤ (wrap64 ((l0.length : Int) - 1)) then (if (wrap64 ((l0.length : Int) - 1)) < (l0.length : Int) then ((bits_LeadingZeros64.f k (rd l0 (wrap64 ((l0.length : Int) - 1)))).bind fun t178 => (some (wrap64 ((wrap64 (64 * (l0.length : Int))) - t178)))) else (none)) else (none))
theorem big_size.mono : ∀ a0 k, LeO (big_size.f k a0) (big_size.f (k + 1) a0) := by
 intro a0 k
 unfold big_size.f
 repeat' first
   | (with_reducible exact bits_LeadingZeros64.mono _ _)
   | (with_reducible exact LeO.refl _)
   | (with_reducible exact LeO.none _)
   | (with_reducible refine LeO.ite ?_ ?_)
   | (with_reducible refine LeO.bind ?_ (fun _ => ?_))
   | exact bits_LeadingZeros64.mono _ _
   | exact LeO.none _
   | refine LeO.ite ?_ ?_
   | refine LeO.bind ?_ (fun _ => ?_)
set_option maxHeartbeats 8000000 in
set_option maxRecDepth 100000 in
theorem big_size.calls (k : Nat) (A0 : Option Addr) (c0 : Nat) (l0 : List Int) (r : Int) (w : World) (hr0 : Kd.C (Kd.int .u64) w A0 l0.length l0) (hc0 : l0.length ≤ c0) (h : big_size.f k l0 = some r) :
  Calls Try.prog 143 #[.slice A0 l0.length c0] w fun e w' => e = .returned (.int .i64 r) ∧ Zq w w' := by
 have HR0 := Zb.mk hr0
 have HC0 := Zb.mk hc0
 clear hr0 hc0
 have H : (if (l0.length : Int) = 0 then (some 0) else (if 0 ≤ (wrap64 ((l0.length : Int) - 1)) then (if (wrap64 ((l0.length : Int) - 1)) < (l0.length : Int) then ((bits_LeadingZeros64.f k (rd l0 (wrap64 ((l0.length : Int) - 1)))).bind fun t178 => (some (wrap64 ((wrap64 (64 * (l0.length : Int))) - t178)))) else (none)) else (none))) = some r := h
 clear h
 by_cases c2 : (l0.length : Int) = 0
 ·rw [if_pos c2] at H
  have c2b0 : ((l0.length : Int) == 0) = true := beq_iff_eq.mpr c2
  have c2b1 : ((l0.length : Int) != 0) = false := bne_eq_false_iff_eq.mpr c2
  clear c2
  obtain rfl := Option.some.inj H
  go_enter Try.func143, Try.ntmps143
  go_wp2
  go_ret
  exact ⟨by first | rfl | (simp; done) | (simp [*]; done), by repeat (first | exact Zq.refl _ | apply Zq.step)⟩
 ·rw [if_neg c2] at H
  have c2b0 : ((l0.length : Int) == 0) = false := beq_eq_false_iff_ne.mpr c2
  have c2b1 : ((l0.length : Int) != 0) = true := bne_iff_ne.mpr c2
  have c2b2 : ¬ (l0 = []) := fun h_ => c2 (by rw [h_]; rfl)
  obtain ⟨ji3, hji3⟩ : ∃ j_ : Int, (wrap64 ((l0.length : Int) - 1)) = j_ := ⟨_, rfl⟩
  replace H : (if 0 ≤ (ji3) then (if (ji3) < (l0.length : Int) then ((bits_LeadingZeros64.f k (rd l0 (ji3))).bind fun t178 => (some (wrap64 ((wrap64 (64 * (l0.length : Int))) - t178)))) else (none)) else (none)) = some r := by first | (rw [hji3] at H; exact H) | (simp only [hji3] at H ⊢; exact H)
  have hji3w : (IntKind.i64.wrap ((l0.length : Int) - 1)) = ji3 := (Zx _).trans hji3
  by_cases c4 : 0 ≤ (ji3)
  ·rw [if_pos c4] at H
   have c4b0 : decide (0 ≤ (ji3)) = true := decide_eq_true c4
   clear c4
   by_cases c5 : (ji3) < (l0.length : Int)
   ·rw [if_pos c5] at H
    have c5b0 : decide ((ji3) < (l0.length : Int)) = true := decide_eq_true c5
    clear c5
    replace H := Option.bind_eq_some_iff.mp H
    obtain ⟨t178, A60, H⟩ := H
    replace H : (some (wrap64 ((wrap64 (64 * (l0.length : Int))) - t178))) = some r := H
    have A6 := Zb.mk A60
    clear A60
    obtain rfl := Option.some.inj H
    have p177 : 0 ≤ ((ji3) : Int) := of_decide_eq_true (by first | (with_reducible assumption) | assumption)
    have q177 : (ji3) < (l0.length : Int) := of_decide_eq_true (by first | (with_reducible assumption) | assumption)
    obtain ⟨ad177, e177, hx177_0⟩ := Kd.at_int HR0.out (ji3) p177 q177
    cases e177
    replace p177 := eq_true p177
    replace q177 := eq_true q177
    go_enter Try.func143, Try.ntmps143
    go_wp2_with (first | ((with_reducible refine Zp (f := 140) rfl ?_); refine ZB (some 15) rfl rfl Try.func140 (by kernel_rfl) rfl #[.int .u64 (rd l0 (ji3))] rfl (by (try simp only [List.map_toArray, List.map_cons, List.map_nil]); first | done | (simp only [hji3]; rfl) | rfl | (simp only [List.length_drop, List.length_take]; rfl)) ?_; (with_reducible refine (bits_LeadingZeros64.calls k (rd l0 (ji3)) t178 _ A6.out).mono ?_); rintro e w' ⟨rfl, ⟨nd, rfl⟩⟩; refine ⟨_, rfl, ?_⟩))
    go_ret
    exact ⟨by first | rfl | (simp; done) | (simp only [← hji3] <;> (first | rfl | simp)) | (simp [*]; done), by repeat (first | exact Zq.refl _ | apply Zq.step)⟩
   ·rw [if_neg c5] at H
    exact absurd H (by simp)
  ·rw [if_neg c4] at H
   exact absurd H (by simp)
end Go.Proofs.Ytbmddlldadbfnaa.BA
end
section
namespace Go.Proofs.Ytbmddlldadbfnaa.BA
open Go.RowKit Go.Proofs.YtbmddlldadbfnaaW.PrintWords Go.Proofs.YtbmddlldadbfnaaW.PrintLast Go.Proofs.YtbmddlldadbfnaaW.PrintMore
set_option linter.unusedVariables false
set_option linter.unusedSimpArgs false
def IsBig (w : World) (g : Nat) (n : Bool) (l : List Int) : Prop :=
 ∃ v, w.heap[g]? = some (.cells #[.bool n, v] 74 (0, 0)) ∧ Kd.V (Kd.int .u64) 46 w 0 (fun k => k ≠ g ∧ k < w.heap.size) v l
theorem IsBig.lt {w : World} {g : Nat} {n : Bool} {l : List Int} (h : IsBig w g n l) : g < w.heap.size := by
 obtain ⟨v, h, _⟩ := h
 exact Zw h
theorem IsBig.below {w w1 : World} {g : Nat} {n : Bool} {l : List Int} (h : IsBig w g n l) (hb : Below w.heap.size w w1) : IsBig w1 g n l := by
 obtain ⟨v, h, hv⟩ := h
 exact ⟨v, Zn h hb, Kd.V_mono (Kd.V_below hv hb) (fun k hk => ⟨hk.1, Nat.lt_of_lt_of_le hk.2 hb.size⟩)⟩
def PutPost (w w' : World) (g : Nat) (n : Bool) (r : List Int) : Prop :=
 IsBig w' g n r ∧ KeepBut w w' g none ∧ w'.os = w.os ∧ w'.tape = w.tape ∧ w'.output = w.output
theorem PutPost.below {w0 w w' : World} {g : Nat} {n : Bool} {r : List Int} (h : PutPost w w' g n r) (hb : Below w0.heap.size w0 w) (hg : w0.heap.size ≤ g) : Below w0.heap.size w0 w' := by
 obtain ⟨_, hk, h1, h2, h3⟩ := h
 exact hb.trans ⟨h1, h2, h3, hk.1, fun k hk' => hk.2 k (by have := hb.size; omega) (by omega) (by simp)⟩
set_option maxHeartbeats 1000000 in
theorem put_calls (g : Nat) (f0 : Bool) (vo : Value) (neg : Bool) (A : Option Addr) (c : Nat) (l r : List Int) (k : Nat) (P : Nat → Prop) (w : World)
  (hg : w.heap[g]? = some (.cells #[.bool f0, vo] 74 (0, 0))) (hP : ∀ k, P k → k ≠ g)
  (hl : Kd.V (Kd.int .u64) 46 w w.heap.size P (.slice A l.length c) l) (h : big_trim.f k l = some r) :
  Calls Try.prog 88 #[.pointer (some ⟨g, 0, none⟩), .bool neg, .slice A l.length c] w fun e w' =>
   e = .returned (.pointer (some ⟨g, 0, none⟩)) ∧ PutPost w w' g (neg && decide (0 < r.length)) r := by
 have HG := Zb.mk hg
 have HP := Zb.mk hP
 have HL := Zb.mk hl
 have HT := Zb.mk h
 clear hg hP hl h
 have hu74 := Try.underlying74
 have hfin : ∀ (w1 : World) (v : Value), Below w.heap.size w w1 → Kd.V (Kd.int .u64) 46 w1 w.heap.size (fun k_ => (P k_ ∨ w.heap.size ≤ k_)) v r → ∀ b : Bool, PutPost w ((w1.setCell ⟨g, 1, none⟩ v).setCell ⟨g, 0, none⟩ (.bool b)) g b r := by
  intro w1 v hb hv b
  have hg1 := Zn HG.out hb
  have hglt := Zw HG.out
  have hv1 : Kd.V (Kd.int .u64) 46 w1 0 (fun k => k ≠ g ∧ k < w1.heap.size) v r := Kd.V_mono (Kd.V_bound hv) (fun k hk => ⟨by
   rcases hk.1 with h1 | h1
   ·exact HP.out k h1
   ·omega, hk.2⟩)
  have hsz : ((w1.setCell ⟨g, 1, none⟩ v).setCell ⟨g, 0, none⟩ (.bool b)).heap.size = w1.heap.size := by simp [World.setCell]
  refine ⟨⟨v, Zu (Zu hg1 1 v rfl) 0 _ rfl, ?_⟩, ?_, hb.os, hb.tape, hb.output⟩
  ·rw [hsz]
   exact Kd.V_far (Kd.V_far hv1 (fun k hk => hk.1) _) (fun k hk => hk.1) _
  ·exact ((KeepBut.of_below hb g none).set_ 1 v).set_ 0 _
 have HF := Zb.mk hfin
 clear hfin
 by_cases hr : 0 < r.length
 ·have hr1 : decide (0 < (r.length : Int)) = true := decide_eq_true (by omega)
  have hr2 : decide (0 < r.length) = true := decide_eq_true hr
  clear hr
  cases neg
  all_goals
   go_enter Try.func88, Try.ntmps88
   go_wp2_with fail
   refine (big_trim.calls k P _ _ l r _ HL.out HT.out).mono ?_
   rintro e w1 ⟨v, rfl, hv, hb⟩
   have HFF := Zb.mk (HF.out w1 v hb hv)
   have hg1 := Zn HG.out hb
   have hc0 := Zk hg1 0
   have hc1 := Zk hg1 1
   have hf0 := Zj hg1 0
   have hf1 := Zj hg1 1
   obtain ⟨A', c', rfl⟩ := Kd.V_slice hv
   clear hv hb hg1
   go_wp2_with fail
   go_ret
   first | exact ⟨rfl, by simpa [hr2] using HFF.out _⟩ | exact ⟨by simp, by simpa [hr2] using HFF.out _⟩
 ·have hr1 : decide (0 < (r.length : Int)) = false := decide_eq_false (by omega)
  have hr2 : decide (0 < r.length) = false := decide_eq_false hr
  clear hr
  cases neg
  all_goals
   go_enter Try.func88, Try.ntmps88
   go_wp2_with fail
   refine (big_trim.calls k P _ _ l r _ HL.out HT.out).mono ?_
   rintro e w1 ⟨v, rfl, hv, hb⟩
   have HFF := Zb.mk (HF.out w1 v hb hv)
   have hg1 := Zn HG.out hb
   have hc0 := Zk hg1 0
   have hc1 := Zk hg1 1
   have hf0 := Zj hg1 0
   have hf1 := Zj hg1 1
   obtain ⟨A', c', rfl⟩ := Kd.V_slice hv
   clear hv hb hg1
   go_wp2_with fail
   go_ret
   exact ⟨rfl, by simpa [hr2] using HFF.out _⟩
end Go.Proofs.Ytbmddlldadbfnaa.BA
end

/- Part of the proof that what is read twice of the text of a number of at most 40 limbs lies apart, spare room and all, and what is read a third time is what was read first. -/
import Derived.Deep.RegionWith
import Derived.Outline
import Derived.Laws.RangeAny
import Derived.LoopTactic
import Derived.Test.YtbmddlldadbfnaaCG4
section
namespace Go.Proofs.Ytbmddlldadbfnaa.BA
open Go.RowKit Go.Proofs.YtbmddlldadbfnaaW.PrintWords Go.Proofs.YtbmddlldadbfnaaW.PrintLast Go.Proofs.YtbmddlldadbfnaaW.PrintMore
attribute [local go_sem] ZU ZS max_two min_two ZP ZO ZT ZR
set_option linter.unusedVariables false
set_option linter.unusedSimpArgs false
theorem breads (W : World) (e : TypeId) (s : ByteArray) : ∀ i : Int, 0 ≤ i → i < (s.size : Int) → (Lib.bytesWorld W e s).cell? ((⟨W.heap.size, 0, none⟩ : Addr).add i.toNat) = some (.int .u8 (bt s i)) := by
 intro i h0 h1
 have h : i.toNat < s.size := by omega
 rw [add_plain, Lib.bytesWorld_cell W e s i.toNat h]
 have h' : i.toNat < s.data.toList.length := by rw [data_length]; exact h
 simp [bt, h, List.getD_eq_getElem?_getD, List.getElem?_eq_getElem h']
 rfl
mutual
def bISetString.j0 : Nat → ByteArray → Int → Bool → Option (List Int × Bool)
 | 0, _, _, _ => none
 | k + 1, x1, x2, x8 => if x8 = true then (if 1 ≤ (x1.size : Int) then (bISetString.j1 k (x1.extract 1 x1.size) x2 x8) else (none)) else (bISetString.j1 k x1 x2 x8)
def bISetString.j1 : Nat → ByteArray → Int → Bool → Option (List Int × Bool)
 | 0, _, _, _ => none
 | k + 1, x1, x2, x8 => (big_chunk.f k x2).bind fun bt219 => (bISetString.l0 k x1 x2 x8 bt219.2 ([] : List Int) 0)
def bISetString.l0 : Nat → ByteArray → Int → Bool → Int → List Int → Int → Option (List Int × Bool)
 | 0, _, _, _, _, _, _ => none
 | k + 1, x1, x2, x8, x10, x11, x12 => if x12 < (x1.size : Int) then (if x10 = 0 then (none) else (if 0 ≤ x12 then (if x12 ≤ (wrap64 (x12 + (wrap64 ((Int.tmod (wrap64 ((wrap64 ((x1.size : Int) - x12)) - 1)) x10) + 1)))) then (if (wrap64 (x12 + (wrap64 ((Int.tmod (wrap64 ((wrap64 ((x1.size : Int) - x12)) - 1)) x10) + 1)))) ≤ (x1.size : Int) then (bISetString.l1 k x1 x2 x8 x10 x11 x12 0 1 (wrap64 ((Int.tmod (wrap64 ((wrap64 ((x1.size : Int) - x12)) - 1)) x10) + 1)) (x1.extract (x12 : Int).toNat ((wrap64 (x12 + (wrap64 ((Int.tmod (wrap64 ((wrap64 ((x1.size : Int) - x12)) - 1)) x10) + 1)))) : Int).toNat) ((x1.extract (x12 : Int).toNat ((wrap64 (x12 + (wrap64 ((Int.tmod (wrap64 ((wrap64 ((x1.size : Int) - x12)) - 1)) x10) + 1)))) : Int).toNat).size : Int) 0) else (none)) else (none)) else (none))) else (if x1.toList = ([] : List UInt8) then (none) else (some (x11, x8)))
def bISetString.l1 : Nat → ByteArray → Int → Bool → Int → List Int → Int → Int → Int → Int → ByteArray → Int → Int → Option (List Int × Bool)
 | 0, _, _, _, _, _, _, _, _, _, _, _, _ => none
 | k + 1, x1, x2, x8, x10, x11, x12, x13, x14, x15, x53, x54, x55 => if x55 < x54 then (if 0 ≤ x55 then (if x55 < (x53.size : Int) then ((big_worth.f k (bt x53 x55) x2).bind fun t221 => (if t221 < 0 then (none) else (bISetString.l1 k x1 x2 x8 x10 x11 x12 (IntKind.u64.wrap ((IntKind.u64.wrap (x13 * (IntKind.u64.wrap (x2)))) + (IntKind.u64.wrap (t221)))) (IntKind.u64.wrap (x14 * (IntKind.u64.wrap (x2)))) x15 x53 x54 (wrap64 (x55 + 1))))) else (none)) else (none)) else ((big_times.f k x11 (([x14] : List Int))).bind fun t225 => ((big_trim.f k (([x13] : List Int))).bind fun t231 => ((big_plus.f k t225 t231).bind fun t234 => (bISetString.l0 k x1 x2 x8 x10 t234 (wrap64 (x12 + x15))))))
end
def bISetString.f (k : Nat) (a0 : Int) (a1 : ByteArray) (a2 : Int) : Option (List Int × Bool) := if (a1.size : Int) > 0 then (if 0 < (a1.size : Int) then (bISetString.j0 k a1 a2 ((bt a1 0) == 45)) else (none)) else (bISetString.j0 k a1 a2 false)
theorem bISetString.mono_l : ∀ k, (∀ y0 y1 y2, LeO (bISetString.j0 k y0 y1 y2) (bISetString.j0 (k + 1) y0 y1 y2)) ∧ (∀ y0 y1 y2, LeO (bISetString.j1 k y0 y1 y2) (bISetString.j1 (k + 1) y0 y1 y2)) ∧ (∀ y0 y1 y2 y3 y4 y5, LeO (bISetString.l0 k y0 y1 y2 y3 y4 y5) (bISetString.l0 (k + 1) y0 y1 y2 y3 y4 y5)) ∧ (∀ y0 y1 y2 y3 y4 y5 y6 y7 y8 y9 y10 y11, LeO (bISetString.l1 k y0 y1 y2 y3 y4 y5 y6 y7 y8 y9 y10 y11) (bISetString.l1 (k + 1) y0 y1 y2 y3 y4 y5 y6 y7 y8 y9 y10 y11))
 | 0 => ⟨fun _ _ _ r h => by simp [bISetString.j0] at h, fun _ _ _ r h => by simp [bISetString.j1] at h, fun _ _ _ _ _ _ r h => by simp [bISetString.l0] at h, fun _ _ _ _ _ _ _ _ _ _ _ _ r h => by simp [bISetString.l1] at h⟩
 | k + 1 => by
  obtain ⟨ih0, ih1, ih2, ih3⟩ := bISetString.mono_l k
  refine ⟨?_, ?_, ?_, ?_⟩
  ·intro y0 y1 y2
   unfold bISetString.j0
   repeat' first
   | (with_reducible exact ih0 _ _ _)
   | (with_reducible exact ih1 _ _ _)
   | (with_reducible exact ih2 _ _ _ _ _ _)
   | (with_reducible exact ih3 _ _ _ _ _ _ _ _ _ _ _ _)
   | (with_reducible exact big_chunk.mono _ _)
   | (with_reducible exact big_plus.mono _ _ _)
   | (with_reducible exact big_times.mono _ _ _)
   | (with_reducible exact big_trim.mono _ _)
   | (with_reducible exact big_worth.mono _ _ _)
   | (with_reducible exact LeO.refl _)
   | (with_reducible exact LeO.none _)
   | (with_reducible refine LeO.ite ?_ ?_)
   | (with_reducible refine LeO.bind ?_ (fun _ => ?_))
   | exact ih0 _ _ _
   | exact ih1 _ _ _
   | exact ih2 _ _ _ _ _ _
   | exact ih3 _ _ _ _ _ _ _ _ _ _ _ _
   | exact big_chunk.mono _ _
   | exact big_plus.mono _ _ _
   | exact big_times.mono _ _ _
   | exact big_trim.mono _ _
   | exact big_worth.mono _ _ _
   | exact LeO.none _
   | refine LeO.ite ?_ ?_
   | refine LeO.bind ?_ (fun _ => ?_)
  ·intro y0 y1 y2
   unfold bISetString.j1
   repeat' first
   | (with_reducible exact ih0 _ _ _)
   | (with_reducible exact ih1 _ _ _)
   | (with_reducible exact ih2 _ _ _ _ _ _)
   | (with_reducible exact ih3 _ _ _ _ _ _ _ _ _ _ _ _)
   | (with_reducible exact big_chunk.mono _ _)
   | (with_reducible exact big_plus.mono _ _ _)
   | (with_reducible exact big_times.mono _ _ _)
   | (with_reducible exact big_trim.mono _ _)
   | (with_reducible exact big_worth.mono _ _ _)
   | (with_reducible exact LeO.refl _)
   | (with_reducible exact LeO.none _)
   | (with_reducible refine LeO.ite ?_ ?_)
   | (with_reducible refine LeO.bind ?_ (fun _ => ?_))
   | exact ih0 _ _ _
   | exact ih1 _ _ _
   | exact ih2 _ _ _ _ _ _
   | exact ih3 _ _ _ _ _ _ _ _ _ _ _ _
   | exact big_chunk.mono _ _
   | exact big_plus.mono _ _ _
   | exact big_times.mono _ _ _
   | exact big_trim.mono _ _
   | exact big_worth.mono _ _ _
   | exact LeO.none _
   | refine LeO.ite ?_ ?_
   | refine LeO.bind ?_ (fun _ => ?_)
  ·intro y0 y1 y2 y3 y4 y5
   unfold bISetString.l0
   repeat' first
   | (with_reducible exact ih0 _ _ _)
   | (with_reducible exact ih1 _ _ _)
   | (with_reducible exact ih2 _ _ _ _ _ _)
   | (with_reducible exact ih3 _ _ _ _ _ _ _ _ _ _ _ _)
   | (with_reducible exact big_chunk.mono _ _)
   | (with_reducible exact big_plus.mono _ _ _)
   | (with_reducible exact big_times.mono _ _ _)
   | (with_reducible exact big_trim.mono _ _)
   | (with_reducible exact big_worth.mono _ _ _)
   | (with_reducible exact LeO.refl _)
   | (with_reducible exact LeO.none _)
   | (with_reducible refine LeO.ite ?_ ?_)
   | (with_reducible refine LeO.bind ?_ (fun _ => ?_))
   | exact ih0 _ _ _
   | exact ih1 _ _ _
   | exact ih2 _ _ _ _ _ _
   | exact ih3 _ _ _ _ _ _ _ _ _ _ _ _
   | exact big_chunk.mono _ _
   | exact big_plus.mono _ _ _
   | exact big_times.mono _ _ _
   | exact big_trim.mono _ _
   | exact big_worth.mono _ _ _
   | exact LeO.none _
   | refine LeO.ite ?_ ?_
   | refine LeO.bind ?_ (fun _ => ?_)
  ·intro y0 y1 y2 y3 y4 y5 y6 y7 y8 y9 y10 y11
   unfold bISetString.l1
   repeat' first
   | (with_reducible exact ih0 _ _ _)
   | (with_reducible exact ih1 _ _ _)
   | (with_reducible exact ih2 _ _ _ _ _ _)
   | (with_reducible exact ih3 _ _ _ _ _ _ _ _ _ _ _ _)
   | (with_reducible exact big_chunk.mono _ _)
   | (with_reducible exact big_plus.mono _ _ _)
   | (with_reducible exact big_times.mono _ _ _)
   | (with_reducible exact big_trim.mono _ _)
   | (with_reducible exact big_worth.mono _ _ _)
   | (with_reducible exact LeO.refl _)
   | (with_reducible exact LeO.none _)
   | (with_reducible refine LeO.ite ?_ ?_)
   | (with_reducible refine LeO.bind ?_ (fun _ => ?_))
   | exact ih0 _ _ _
   | exact ih1 _ _ _
   | exact ih2 _ _ _ _ _ _
   | exact ih3 _ _ _ _ _ _ _ _ _ _ _ _
   | exact big_chunk.mono _ _
   | exact big_plus.mono _ _ _
   | exact big_times.mono _ _ _
   | exact big_trim.mono _ _
   | exact big_worth.mono _ _ _
   | exact LeO.none _
   | refine LeO.ite ?_ ?_
   | refine LeO.bind ?_ (fun _ => ?_)
theorem bISetString.mono : ∀ a0 a1 a2 k, LeO (bISetString.f k a0 a1 a2) (bISetString.f (k + 1) a0 a1 a2) := by
 intro a0 a1 a2 k
 obtain ⟨ih0, ih1, ih2, ih3⟩ := bISetString.mono_l k
 unfold bISetString.f
 repeat' first
   | (with_reducible exact ih0 _ _ _)
   | (with_reducible exact ih1 _ _ _)
   | (with_reducible exact ih2 _ _ _ _ _ _)
   | (with_reducible exact ih3 _ _ _ _ _ _ _ _ _ _ _ _)
   | (with_reducible exact big_chunk.mono _ _)
   | (with_reducible exact big_plus.mono _ _ _)
   | (with_reducible exact big_times.mono _ _ _)
   | (with_reducible exact big_trim.mono _ _)
   | (with_reducible exact big_worth.mono _ _ _)
   | (with_reducible exact LeO.refl _)
   | (with_reducible exact LeO.none _)
   | (with_reducible refine LeO.ite ?_ ?_)
   | (with_reducible refine LeO.bind ?_ (fun _ => ?_))
   | exact ih0 _ _ _
   | exact ih1 _ _ _
   | exact ih2 _ _ _ _ _ _
   | exact ih3 _ _ _ _ _ _ _ _ _ _ _ _
   | exact big_chunk.mono _ _
   | exact big_plus.mono _ _ _
   | exact big_times.mono _ _ _
   | exact big_trim.mono _ _
   | exact big_worth.mono _ _ _
   | exact LeO.none _
   | refine LeO.ite ?_ ?_
   | refine LeO.bind ?_ (fun _ => ?_)
set_option maxHeartbeats 8000000 in
set_option maxRecDepth 100000 in
theorem bISetString.calls (g : Nat) (f0 : Bool) (vo : Value) (k : Nat) (a0 : Int) (a1 : ByteArray) (a2 : Int) (r1 : List Int) (r2 : Bool) (r3 : List Int) (w : World) (hg : w.heap[g]? = some (.cells #[.bool f0, vo] 74 (0, 0))) (h : bISetString.f k a0 a1 a2 = some (r1, r2)) (h2 : big_trim.f k r1 = some r3) :
  Calls Try.prog 46 #[.pointer (some ⟨g, 0, none⟩), .string a1, .int .i64 a2] w fun e w' => e = .returned (.tuple #[.pointer (some ⟨g, 0, none⟩), .bool true]) ∧ PutPost w w' g (r2 && decide (0 < r3.length)) r3 := by
 have HG := Zb.mk hg
 have HT2 := Zb.mk h2
 clear hg h2
 have HB := Zb.mk (Below.refl w.heap.size w)
 have H : (if (a1.size : Int) > 0 then (if 0 < (a1.size : Int) then (bISetString.j0 k a1 a2 ((bt a1 0) == 45)) else (none)) else (bISetString.j0 k a1 a2 false)) = some (r1, r2) := h
 clear h
 have HC4 := Zb.mk H
 clear H
 go_enter Try.func46, Try.ntmps46
 go_upto_region 1 with (fail)
 go_cut [8] (fun v8 wc => ∃ (kq : Nat) (x8_3 : Bool), v8 = .bool x8_3 ∧ Zb (bISetString.j0 kq a1 a2 x8_3 = some (r1, r2)) ∧ Zb (kq ≤ k) ∧ Zb (Below w.heap.size w wc))
 case first =>
  have H := HC4.out
  clear HC4
  by_cases c5 : (a1.size : Int) > 0
  ·rw [if_pos c5] at H
   have c5b0 : decide (0 < (a1.size : Int)) = true := decide_eq_true c5
   have c5b1 : decide (0 < a1.size) = true := decide_eq_true (by omega)
   clear c5
   (first | rw [c5b0] | (simp only [Zx, ZA]; rw [c5b0]) | skip)
   by_cases c6 : 0 < (a1.size : Int)
   ·rw [if_pos c6] at H
    have c6b0 : decide (0 < (a1.size : Int)) = true := decide_eq_true c6
    have c6b1 : decide (0 < a1.size) = true := decide_eq_true (by omega)
    clear c6
    have H' := Zb.mk H
    clear H
    have p7 : 0 ≤ (0 : Int) := (by omega)
    have q7 : 0 < a1.size := (by have : (0 : Int) < (a1.size : Int) := of_decide_eq_true (by first | (with_reducible assumption) | assumption); omega)
    have hx7 : ∀ h : 0 < a1.size, ((a1[0]'h).toNat : Int) = bt a1 0 := bt_at a1 0
    clear p7
    have qi7 : (0 < (a1.size : Int)) = True := eq_true (of_decide_eq_true (by first | (with_reducible assumption) | assumption))
    replace q7 := eq_true q7
    go_wp2
    go_meet
    case rel => exact ⟨_, (((bt a1 0) == 45)), (by first | rfl | (simp; done) | (simp [*]; done)), H', ⟨by first | omega | exact Nat.le_refl _⟩, ⟨by repeat (with_reducible first | exact HB.out | apply Zc | apply Za | apply Zd)⟩⟩
   ·rw [if_neg c6] at H
    exact absurd H (by simp)
  ·rw [if_neg c5] at H
   have c5b0 : decide (0 < (a1.size : Int)) = false := decide_eq_false c5
   have c5b1 : decide (0 < a1.size) = false := decide_eq_false (by omega)
   clear c5
   (first | rw [c5b0] | (simp only [Zx, ZA]; rw [c5b0]) | skip)
   have H' := Zb.mk H
   clear H
   go_wp2
   go_meet
   case rel => exact ⟨_, (false), (by first | rfl | (simp; done) | (simp [*]; done)), H', ⟨by first | omega | exact Nat.le_refl _⟩, ⟨by repeat (with_reducible first | exact HB.out | apply Zc | apply Za | apply Zd)⟩⟩
 case rest =>
  clear HC4
  try clear p2
  try clear c4
  try clear c5
  try clear c5b0
  try clear c5b1
  try clear c6
  try clear c6b0
  try clear c6b1
  try clear p7
  try clear q7
  try clear hx7
  try clear qi7
  try clear p7
  try clear q7
  obtain ⟨kq, x8_3, rfl, HA, HJ3, HB⟩ := hcut
  cases kq with
  | zero => exact absurd HA.out (by simp [bISetString.j0])
  | succ kj3 =>
   have H := HA.out
   clear HA
   simp only [bISetString.j0] at H
   have HC8 := Zb.mk H
   clear H
   go_upto_if 27 with (fail)
   go_cut [1] (fun v1 wc => ∃ (kq : Nat) (x1_7 : ByteArray), v1 = .string x1_7 ∧ Zb (bISetString.j1 kq x1_7 a2 x8_3 = some (r1, r2)) ∧ Zb (kq ≤ kj3) ∧ Zb (Below w.heap.size w wc))
   case first =>
    have H := HC8.out
    clear HC8
    by_cases c9 : x8_3 = true
    ·subst c9
     have H1 : (if 1 ≤ (a1.size : Int) then (bISetString.j1 kj3 (a1.extract 1 a1.size) a2 true) else (none)) = some (r1, r2) := by rw [if_pos rfl] at H; exact H
     clear H
     have H := H1
     clear H1
     by_cases c10 : 1 ≤ (a1.size : Int)
     ·rw [if_pos c10] at H
      have c10b0 := eq_true c10
      have c10b1 : decide (1 ≤ (a1.size : Int)) = true := decide_eq_true c10
      clear c10
      have H' := Zb.mk H
      clear H
      go_wp2
      go_meet
      case rel => exact ⟨_, (a1.extract 1 a1.size), (by first | rfl | (simp; done) | (simp [*]; done)), H', ⟨by have := HJ3.out; first | omega | exact Nat.le_refl _⟩, ⟨by repeat (with_reducible first | exact HB.out | apply Zc | apply Za | apply Zd)⟩⟩
     ·rw [if_neg c10] at H
      exact absurd H (by simp)
    ·replace c9 := Bool.eq_false_iff.mpr c9
     subst c9
     have H1 : (bISetString.j1 kj3 a1 a2 false) = some (r1, r2) := by rw [if_neg (show ¬ (false = true) by decide)] at H; exact H
     clear H
     have H := H1
     clear H1
     have H' := Zb.mk H
     clear H
     go_wp2
     go_meet
     case rel => exact ⟨_, (a1), (by first | rfl | (simp; done) | (simp [*]; done)), H', ⟨by have := HJ3.out; first | omega | exact Nat.le_refl _⟩, ⟨by repeat (with_reducible first | exact HB.out | apply Zc | apply Za | apply Zd)⟩⟩
   case rest =>
    clear HC8
    try clear c1
    try clear p2
    try clear c4
    try clear c5
    try clear c5b0
    try clear c5b1
    try clear c6
    try clear c6b0
    try clear c6b1
    try clear p7
    try clear q7
    try clear hx7
    try clear qi7
    try clear c9
    try clear c10
    try clear c10b0
    try clear c10b1
    try clear p2
    try clear p7
    try clear q7
    obtain ⟨kq, x1_7, rfl, HA, HJ7, HB⟩ := hcut
    cases kq with
    | zero => exact absurd HA.out (by simp [bISetString.j1])
    | succ kj7 =>
     have H := HA.out
     clear HA
     simp only [bISetString.j1] at H
     replace H := Option.bind_eq_some_iff.mp H
     obtain ⟨⟨t219, t220⟩, A110, H⟩ := H
     replace H : (bISetString.l0 kj7 x1_7 a2 x8_3 t220 ([] : List Int) 0) = some (r1, r2) := H
     have A11 := Zb.mk A110
     clear A110
     have H' := Zb.mk H
     clear H
     go_wp2_with (first | ((with_reducible refine Zp (f := 77) rfl ?_); refine ZB (some 32) rfl rfl Try.func77 (by kernel_rfl) rfl #[.int .i64 a2] rfl (by (try simp only [List.map_toArray, List.map_cons, List.map_nil]); first | done | rfl | (simp only [List.length_drop, List.length_take]; rfl)) ?_; (with_reducible refine (big_chunk.calls kj7 a2 t219 t220 _ A11.out).mono ?_); rintro e w' ⟨rfl, ⟨nd, rfl⟩⟩; refine ⟨_, rfl, ?_⟩))
     go_loopg [11, 12] kj7 (fun kq v11 v12 w' => ∃ (x11_3 : List Int) (x12_3 : Int), v12 = .int .i64 x12_3 ∧ Zb (bISetString.l0 kq x1_7 a2 x8_3 t220 x11_3 x12_3 = some (r1, r2)) ∧ Zb (kq ≤ kj7) ∧ Zb (Kd.V (Kd.int .u64) 46 w' w.heap.size (fun k_ => (w.heap.size ≤ k_)) v11 x11_3) ∧ Zb (Below w.heap.size w w'))
     case atStart => exact ⟨(([] : List Int)), (0), (by first | rfl | (simp; done) | (simp [*]; done)), H', ⟨Nat.le_refl _⟩, ⟨Kd.V_nil _ _ _ _ _⟩, ⟨by repeat (with_reducible first | exact HB.out | apply Zc | apply Za | apply Zd)⟩⟩
     case round =>
      clear H'
      try clear c1
      try clear p2
      try clear c4
      try clear c5
      try clear c5b0
      try clear c5b1
      try clear c6
      try clear c6b0
      try clear c6b1
      try clear c7
      try clear p7
      try clear q7
      try clear hx7
      try clear qi7
      try clear c9
      try clear c10
      try clear c10b0
      try clear c10b1
      try clear p2
      try clear p7
      try clear q7
      obtain ⟨x11_3, x12_3, rfl, HA, HK3, HO_11, HB⟩ := hrel
      cases gk with
      | zero => exact absurd HA.out (by simp [bISetString.l0])
      | succ k3 =>
       have H := HA.out
       clear HA
       simp only [bISetString.l0] at H
       by_cases c12 : x12_3 < (x1_7.size : Int)
       ·rw [if_pos c12] at H
        have c12b0 : decide (x12_3 < (x1_7.size : Int)) = true := decide_eq_true c12
        clear c12
        by_cases c13 : t220 = 0
        ·rw [if_pos c13] at H
         exact absurd H (by simp)
        ·rw [if_neg c13] at H
         have c13b0 : (t220 == 0) = false := beq_eq_false_iff_ne.mpr c13
         have c13b1 : (t220 != 0) = true := bne_iff_ne.mpr c13
         by_cases c14 : 0 ≤ x12_3
         ·rw [if_pos c14] at H
          have c14b0 := eq_true c14
          have c14b1 : decide (0 ≤ x12_3) = true := decide_eq_true c14
          clear c14
          by_cases c15 : x12_3 ≤ (wrap64 (x12_3 + (wrap64 ((Int.tmod (wrap64 ((wrap64 ((x1_7.size : Int) - x12_3)) - 1)) t220) + 1))))
          ·rw [if_pos c15] at H
           have c15b0 := eq_true c15
           have c15b1 : decide (x12_3 ≤ (wrap64 (x12_3 + (wrap64 ((Int.tmod (wrap64 ((wrap64 ((x1_7.size : Int) - x12_3)) - 1)) t220) + 1))))) = true := decide_eq_true c15
           by_cases c16 : (wrap64 (x12_3 + (wrap64 ((Int.tmod (wrap64 ((wrap64 ((x1_7.size : Int) - x12_3)) - 1)) t220) + 1)))) ≤ (x1_7.size : Int)
           ·rw [if_pos c16] at H
            have c16b0 := eq_true c16
            have c16b1 : decide ((wrap64 (x12_3 + (wrap64 ((Int.tmod (wrap64 ((wrap64 ((x1_7.size : Int) - x12_3)) - 1)) t220) + 1)))) ≤ (x1_7.size : Int)) = true := decide_eq_true c16
            have H' := Zb.mk H
            clear H
            obtain ⟨y7, hy7⟩ : ∃ y_ : ByteArray, (x1_7.extract (x12_3 : Int).toNat ((wrap64 (x12_3 + (wrap64 ((Int.tmod (wrap64 ((wrap64 ((x1_7.size : Int) - x12_3)) - 1)) t220) + 1)))) : Int).toNat) = y_ := ⟨_, rfl⟩
            have hsl : ∀ W : World, (Instr.slice 9 (.string x1_7) (some (.int .i64 x12_3)) (some (.int .i64 (wrap64 (x12_3 + (wrap64 ((Int.tmod (wrap64 ((wrap64 ((x1_7.size : Int) - x12_3)) - 1)) t220) + 1)))))) none).run Try.prog W = .ok (.string y7) W := by
             intro W
             have hy8 := hy7
             clear hy7
             rw [← hy8]
             go_simp
            have H'' := H'
            clear H'
            rw [hy7] at H''
            have H' := H''
            clear H''
            have Ny7 := Zb.mk hy7
            clear hy7
            have kb := fun (W : World) => print_bytes (P := Try.prog) 9 107 5 Try.underlying9 Try.underlying107 Try.underlying5 y7 W
            go_wp2
            clear kb hsl
            have HBR := Zb.mk (breads wr 5 y7)
            have HWB := Zb.mk (bytes_below (Below.refl wr.heap.size wr) (Nat.le_refl _) 5 y7)
            have n0_ := Zb.mk (Kd.V_below HO_11.out HWB.out)
            have n1_ := Zb.mk (HB.out.trans (HWB.out.mono HB.out.size))
            clear HO_11 HB HWB
            have HO_11 := n0_
            have HB := n1_
            clear n0_ n1_
            generalize grownCap wr y7.size 0 5 = c5
            generalize (⟨wr.heap.size, 0, none⟩ : Addr) = ad5 at HBR ⊢
            generalize Lib.bytesWorld wr 5 y7 = w5 at HBR HO_11 HB ⊢
            go_loopg [13, 14, 55] k3 (fun kq v13 v14 v55 w' => ∃ (x13_4 : Int) (x14_4 : Int) (x55_4 : Int), v13 = .int .u64 x13_4 ∧ v14 = .int .u64 x14_4 ∧ v55 = .int .i64 x55_4 ∧ Zb (bISetString.l1 kq x1_7 a2 x8_3 t220 x11_3 x12_3 x13_4 x14_4 (wrap64 ((Int.tmod (wrap64 ((wrap64 ((x1_7.size : Int) - x12_3)) - 1)) t220) + 1)) y7 (y7.size : Int) x55_4 = some (r1, r2)) ∧ Zb (kq ≤ k3) ∧ Zb (Kd.V (Kd.int .u64) 46 w' w.heap.size (fun k_ => (w.heap.size ≤ k_)) u11 x11_3) ∧ Zb (Below w.heap.size w w') ∧ Zb (Below w5.heap.size w5 w'))
            case atStart => exact ⟨(0), (1), (0), (by first | rfl | (simp; done) | (simp [*]; done)), (by first | rfl | (simp; done) | (simp [*]; done)), (by first | rfl | (simp; done) | (simp [*]; done)), H', ⟨Nat.le_refl _⟩, ⟨by (with_reducible repeat first | apply Kd.V_drewN); exact HO_11.out⟩, ⟨by repeat (with_reducible first | exact HB.out | apply Zc | apply Za | apply Zd)⟩, ⟨Below.refl _ _⟩⟩
            case round =>
             clear H'
             try clear c1
             try clear p2
             try clear c4
             try clear c5
             try clear c5b0
             try clear c5b1
             try clear c6
             try clear c6b0
             try clear c6b1
             try clear p6
             try clear c7
             try clear p7
             try clear q7
             try clear hx7
             try clear qi7
             try clear c9
             try clear c10
             try clear c10b0
             try clear c10b1
             try clear c12
             try clear c12b0
             try clear c13
             try clear c13b0
             try clear c13b1
             try clear c14
             try clear c14b0
             try clear c14b1
             try clear c15
             try clear c15b0
             try clear c15b1
             try clear c16
             try clear c16b0
             try clear c16b1
             try clear p2
             try clear p7
             try clear q7
             obtain ⟨x13_4, x14_4, x55_4, rfl, rfl, rfl, HA, HK4, HO_11, HB, HB5⟩ := hrel
             cases gk with
             | zero => exact absurd HA.out (by simp [bISetString.l1])
             | succ k4 =>
              have H := HA.out
              clear HA
              simp only [bISetString.l1] at H
              by_cases c17 : x55_4 < (y7.size : Int)
              ·rw [if_pos c17] at H
               have c17b0 : decide (x55_4 < (y7.size : Int)) = true := decide_eq_true c17
               clear c17
               by_cases c18 : 0 ≤ x55_4
               ·rw [if_pos c18] at H
                have c18b0 : decide (0 ≤ x55_4) = true := decide_eq_true c18
                clear c18
                by_cases c19 : x55_4 < (y7.size : Int)
                ·rw [if_pos c19] at H
                 have c19b0 : decide (x55_4 < (y7.size : Int)) = true := decide_eq_true c19
                 clear c19
                 replace H := Option.bind_eq_some_iff.mp H
                 obtain ⟨t221, A210, H⟩ := H
                 replace H : (if t221 < 0 then (none) else (bISetString.l1 k4 x1_7 a2 x8_3 t220 x11_3 x12_3 (IntKind.u64.wrap ((IntKind.u64.wrap (x13_4 * (IntKind.u64.wrap (a2)))) + (IntKind.u64.wrap (t221)))) (IntKind.u64.wrap (x14_4 * (IntKind.u64.wrap (a2)))) (wrap64 ((Int.tmod (wrap64 ((wrap64 ((x1_7.size : Int) - x12_3)) - 1)) t220) + 1)) y7 (y7.size : Int) (wrap64 (x55_4 + 1)))) = some (r1, r2) := H
                 have A21 := Zb.mk A210
                 clear A210
                 by_cases c22 : t221 < 0
                 ·rw [if_pos c22] at H
                  exact absurd H (by simp)
                 ·rw [if_neg c22] at H
                  have c22b0 : decide (t221 < 0) = false := decide_eq_false c22
                  clear c22
                  have H' := Zb.mk H
                  clear H
                  have p20 : 0 ≤ (x55_4 : Int) := of_decide_eq_true (by first | (with_reducible assumption) | assumption)
                  have q20 : x55_4 < (y7.size : Int) := of_decide_eq_true (by first | (with_reducible assumption) | assumption)
                  have hx20 := bt_at y7 x55_4
                  have hxb := HBR.out x55_4 p20 q20
                  replace hxb := (HB5.out.cell (World.block_lt_of_cell? w5 _ hxb)).trans hxb
                  replace p20 := eq_true p20
                  replace q20 := eq_true q20
                  go_wp2_with (first | ((with_reducible refine Zp (f := 84) rfl ?_); refine ZB (some 61) rfl rfl Try.func84 (by kernel_rfl) rfl #[.int .u8 (bt y7 x55_4), .int .i64 a2] rfl (by (try simp only [List.map_toArray, List.map_cons, List.map_nil]); first | done | rfl | (simp only [List.length_drop, List.length_take]; rfl)) ?_; (with_reducible refine (big_worth.calls k4 (bt y7 x55_4) a2 t221 _ A21.out).mono ?_); rintro e w' ⟨rfl, ⟨nd, rfl⟩⟩; refine ⟨_, rfl, ?_⟩))
                  go_roundg k4
                  case measure => have := HJ3.out; have := HJ7.out; have := HK3.out; have := HK4.out; omega
                  case rel => exact ⟨(IntKind.u64.wrap ((IntKind.u64.wrap (x13_4 * (IntKind.u64.wrap (a2)))) + (IntKind.u64.wrap (t221)))), (IntKind.u64.wrap (x14_4 * (IntKind.u64.wrap (a2)))), (wrap64 (x55_4 + 1)), (by first | rfl | (simp; done) | (simp [*]; done)), (by first | rfl | (simp; done) | (simp [*]; done)), (by first | rfl | (simp; done) | (simp [*]; done)), H', ⟨by have := HJ3.out; have := HJ7.out; have := HK3.out; have := HK4.out; omega⟩, ⟨by (with_reducible repeat first | apply Kd.V_drewN); exact HO_11.out⟩, ⟨by repeat (with_reducible first | exact HB.out | apply Zc | apply Za | apply Zd)⟩, ⟨by repeat (first | (with_reducible first | exact HB5.out | apply Zc | apply Za | apply Zd) | exact HB5.out)⟩⟩
                ·rw [if_neg c19] at H
                 exact absurd H (by simp)
               ·rw [if_neg c18] at H
                exact absurd H (by simp)
              ·rw [if_neg c17] at H
               have c17b0 : decide (x55_4 < (y7.size : Int)) = false := decide_eq_false c17
               clear c17
               obtain ⟨y222, hy222⟩ : ∃ y_ : List Int, y_ = (([x14_4] : List Int)) := ⟨_, rfl⟩
               replace H : ((big_times.f k4 x11_3 y222).bind fun t225 => ((big_trim.f k4 (([x13_4] : List Int))).bind fun t231 => ((big_plus.f k4 t225 t231).bind fun t234 => (bISetString.l0 k4 x1_7 a2 x8_3 t220 t234 (wrap64 (x12_3 + (wrap64 ((Int.tmod (wrap64 ((wrap64 ((x1_7.size : Int) - x12_3)) - 1)) t220) + 1)))))))) = some (r1, r2) := by first | (rw [hy222]; with_reducible exact H) | (have H2_ := (Option.bind_some _ _).symm.trans H; rw [hy222]; with_reducible exact H2_) | (have H2_ := (Option.bind_some _ _).symm.trans H; with_reducible exact H2_) | with_reducible exact H | (rw [hy222]; exact H) | exact H
               have Ny222 := Zb.mk hy222
               clear hy222
               replace H := Option.bind_eq_some_iff.mp H
               obtain ⟨t225, A230, H⟩ := H
               replace H : ((big_trim.f k4 (([x13_4] : List Int))).bind fun t231 => ((big_plus.f k4 t225 t231).bind fun t234 => (bISetString.l0 k4 x1_7 a2 x8_3 t220 t234 (wrap64 (x12_3 + (wrap64 ((Int.tmod (wrap64 ((wrap64 ((x1_7.size : Int) - x12_3)) - 1)) t220) + 1))))))) = some (r1, r2) := H
               have A23 := Zb.mk A230
               clear A230
               obtain ⟨y228, hy228⟩ : ∃ y_ : List Int, y_ = (([x13_4] : List Int)) := ⟨_, rfl⟩
               replace H : ((big_trim.f k4 y228).bind fun t231 => ((big_plus.f k4 t225 t231).bind fun t234 => (bISetString.l0 k4 x1_7 a2 x8_3 t220 t234 (wrap64 (x12_3 + (wrap64 ((Int.tmod (wrap64 ((wrap64 ((x1_7.size : Int) - x12_3)) - 1)) t220) + 1))))))) = some (r1, r2) := by first | (rw [hy228]; with_reducible exact H) | (have H2_ := (Option.bind_some _ _).symm.trans H; rw [hy228]; with_reducible exact H2_) | (have H2_ := (Option.bind_some _ _).symm.trans H; with_reducible exact H2_) | with_reducible exact H | (rw [hy228]; exact H) | exact H
               have Ny228 := Zb.mk hy228
               clear hy228
               replace H := Option.bind_eq_some_iff.mp H
               obtain ⟨t231, A240, H⟩ := H
               replace H : ((big_plus.f k4 t225 t231).bind fun t234 => (bISetString.l0 k4 x1_7 a2 x8_3 t220 t234 (wrap64 (x12_3 + (wrap64 ((Int.tmod (wrap64 ((wrap64 ((x1_7.size : Int) - x12_3)) - 1)) t220) + 1)))))) = some (r1, r2) := H
               have A24 := Zb.mk A240
               clear A240
               replace H := Option.bind_eq_some_iff.mp H
               obtain ⟨t234, A250, H⟩ := H
               replace H : (bISetString.l0 k4 x1_7 a2 x8_3 t220 t234 (wrap64 (x12_3 + (wrap64 ((Int.tmod (wrap64 ((wrap64 ((x1_7.size : Int) - x12_3)) - 1)) t220) + 1))))) = some (r1, r2) := H
               have A25 := Zb.mk A250
               clear A250
               have H' := Zb.mk H
               clear H
               go_wp2_with (first | ((with_reducible refine Zt (N := 78) rfl ?_); refine Kd.R_lit (Kd.int .u64) _ 46 ?hg (N := 78) ?hd (xs := ([x14_4] : List Int)) (inner := [.int .u64 x14_4]) (ok := fun _ => True) (okp := fun _ => True) ?hr ?hp (fun _ hk => hk) trivial (Below.refl _ _) (Nat.le_refl _) (by simp) ?_; (case hd => rfl); (case hg => rfl); (case hr => first | (go_simp; done) | (go_simp; rfl)); (case hp => exact (Reps.one (show Kd.M (Kd.int .u64) _ _ _ x14_4 [.int .u64 x14_4] from rfl) (Reps.none _ _))); intro v223 w26 ho27 hb hg_ hnew_; clear hg_ hnew_; (first | rw [← Ny222.out] at ho27 | (simp only [Int.reduceToNat] at ho27; rw [← Ny222.out] at ho27)); have n0_ := Zb.mk (Kd.V_elder' (by (with_reducible repeat first | apply Kd.V_drewN); exact HO_11.out) (Kd.ZV ho27) hb); have n1_ := Zb.mk (Kd.ZG (Kd.R_newM (M := fun k_ => (w.heap.size ≤ k_)) ho27 (Zi (by repeat (with_reducible first | exact HB.out | apply Zc | apply Za | apply Zd))) (fun k_ h_ => h_)) (Zi (by repeat (with_reducible first | exact HB.out | apply Zc | apply Za | apply Zd)))); have n2_ := Zb.mk (Zl (by repeat (with_reducible first | exact HB.out | apply Zc | apply Za | apply Zd)) hb); clear HO_11; clear HB; have HO_11 := n0_; have HO224 := n1_; have HB := n2_; clear n0_ n1_ n2_; clear hb ho27; obtain ⟨Ao28, co28, eo28⟩ := Kd.V_slice HO_11.out; subst eo28; obtain ⟨Ao29, co29, eo29⟩ := Kd.Zy HO224.out; subst eo29) | ((with_reducible refine Zp (f := 86) rfl ?_); refine ZB (some 79) rfl rfl Try.func86 (by kernel_rfl) rfl #[.slice Ao28 x11_3.length co28, .slice Ao29 y222.length co29] rfl (by (try simp only [List.map_toArray, List.map_cons, List.map_nil]); first | done | rfl | (simp only [List.length_drop, List.length_take]; rfl)) ?_; (with_reducible refine (big_times.calls k4 _ _ x11_3 _ _ y222 t225 _ ?side1 ?side2 ?side3 ?side4 A23.out).mono ?_); (case side1 => repeat (first | exact (Kd.V_reads' HO_11.out).2.2 | (with_reducible refine Kd.ZC ?_ _) | (with_reducible refine Kd.ZF ?_ _) | (with_reducible refine Kd.ZN ?_))); (case side2 => exact (Kd.V_reads' HO_11.out).2.1); (case side3 => repeat (first | exact (Kd.Zv HO224.out).2.2 | (with_reducible refine Kd.ZC ?_ _) | (with_reducible refine Kd.ZF ?_ _) | (with_reducible refine Kd.ZN ?_))); (case side4 => exact (Kd.Zv HO224.out).2.1); rintro e w30 ⟨v226, rfl, ho0, hb⟩; refine ⟨_, rfl, ?_⟩; have n0_ := Zb.mk (Kd.V_below (by (with_reducible repeat first | apply Kd.V_drewN); exact HO_11.out) hb); have n1_ := Zb.mk (Kd.Zz (by (with_reducible repeat first | apply Kd.Zm | apply Kd.Zo); exact HO224.out) hb); have n2_ := Zb.mk (Kd.V_lower (Kd.V_mono (ok' := fun k_ => (w.heap.size ≤ k_) ∧ some k_ ≠ (.slice Ao29 y222.length co29 : Value).ownBlock) ho0 (fun k_ hk_ => ⟨(Nat.le_trans (Zi (by repeat (with_reducible first | exact HB.out | apply Zc | apply Za | apply Zd))) hk_), (Kd.fresh' (Kd.R_lt (by (with_reducible repeat first | apply Kd.Zm | apply Kd.Zo); exact HO224.out)) k_ hk_)⟩)) (Zi (by repeat (with_reducible first | exact HB.out | apply Zc | apply Za | apply Zd)))); have n3_ := Zb.mk (Zl (by repeat (with_reducible first | exact HB.out | apply Zc | apply Za | apply Zd)) hb); clear HO_11; clear HO224; clear HB; have HO_11 := n0_; have HO224 := n1_; have HO227 := n2_; have HB := n3_; clear n0_ n1_ n2_ n3_; (try clear hb); (try clear hb2); (try clear hk); (try clear hi); (try clear ho0)) | ((with_reducible refine Zt (N := 81) rfl ?_); refine Kd.R_lit (Kd.int .u64) _ 46 ?hg (N := 81) ?hd (xs := ([x13_4] : List Int)) (inner := [.int .u64 x13_4]) (ok := fun _ => True) (okp := fun _ => True) ?hr ?hp (fun _ hk => hk) trivial (Below.refl _ _) (Nat.le_refl _) (by simp) ?_; (case hd => rfl); (case hg => rfl); (case hr => first | (go_simp; done) | (go_simp; rfl)); (case hp => exact (Reps.one (show Kd.M (Kd.int .u64) _ _ _ x13_4 [.int .u64 x13_4] from rfl) (Reps.none _ _))); intro v229 w31 ho32 hb hg_ hnew_; clear hg_ hnew_; (first | rw [← Ny228.out] at ho32 | (simp only [Int.reduceToNat] at ho32; rw [← Ny228.out] at ho32)); have n0_ := Zb.mk (Kd.V_elder' (by (with_reducible repeat first | apply Kd.V_drewN); exact HO_11.out) (Kd.ZV ho32) hb); have n1_ := Zb.mk (Kd.ZJ (by (with_reducible repeat first | apply Kd.Zm | apply Kd.Zo); exact HO224.out) (Kd.ZV ho32) hb); have n2_ := Zb.mk (Kd.V_elder' (by (with_reducible repeat first | apply Kd.V_drewN); exact HO227.out) (Kd.ZV ho32) hb); have n3_ := Zb.mk (Kd.ZG (Kd.R_new' (Kd.R_newM (M := fun k_ => (w.heap.size ≤ k_)) ho32 (Zi (by repeat (with_reducible first | exact HB.out | apply Zc | apply Za | apply Zd))) (fun k_ h_ => h_)) (Kd.R_lt (by (with_reducible repeat first | apply Kd.Zm | apply Kd.Zo); exact HO224.out))) (Zi (by repeat (with_reducible first | exact HB.out | apply Zc | apply Za | apply Zd)))); have n4_ := Zb.mk (Zl (by repeat (with_reducible first | exact HB.out | apply Zc | apply Za | apply Zd)) hb); clear HO_11; clear HO224; clear HO227; clear HB; have HO_11 := n0_; have HO224 := n1_; have HO227 := n2_; have HO230 := n3_; have HB := n4_; clear n0_ n1_ n2_ n3_ n4_; clear hb ho32; obtain ⟨Ao33, co33, eo33⟩ := Kd.Zy HO230.out; subst eo33) | ((with_reducible refine Zp (f := 87) rfl ?_); refine ZB (some 82) rfl rfl Try.func87 (by kernel_rfl) rfl #[.slice Ao33 y228.length co33] rfl (by (try simp only [List.map_toArray, List.map_cons, List.map_nil]); first | done | rfl | (simp only [List.length_drop, List.length_take]; rfl)) ?_; (with_reducible refine (big_trim.calls k4 (fun k_ => some k_ = (.slice Ao33 y228.length co33 : Value).ownBlock) _ _ y228 t231 _ ?side1 A24.out).mono ?_); (case side1 => exact Kd.R_V (Kd.R_tight rfl (HO230.out))); rintro e w34 ⟨v232, rfl, ho0, hb⟩; refine ⟨_, rfl, ?_⟩; have n0_ := Zb.mk (Kd.V_below (by (with_reducible repeat first | apply Kd.V_drewN); exact HO_11.out) hb); have n1_ := Zb.mk (Kd.Zz (by (with_reducible repeat first | apply Kd.Zm | apply Kd.Zo); exact HO224.out) hb); have n2_ := Zb.mk (Kd.V_below (by (with_reducible repeat first | apply Kd.V_drewN); exact HO227.out) hb); have n3_ := Zb.mk (Kd.Zz (by (with_reducible repeat first | apply Kd.Zm | apply Kd.Zo); exact HO230.out) hb); have n4_ := Zb.mk (Kd.V_lower (Kd.V_mono (ok' := fun k_ => (w.heap.size ≤ k_) ∧ some k_ ≠ (.slice Ao29 y222.length co29 : Value).ownBlock) ho0 (fun k_ hk_ => ⟨Or.elim hk_ (fun hs_ => ((HO230.out).1 k_ hs_.symm).1.1) (fun hn_ => (Nat.le_trans (Zi (by repeat (with_reducible first | exact HB.out | apply Zc | apply Za | apply Zd))) hn_)), Or.elim hk_ (fun hs_ => ((HO230.out).1 k_ hs_.symm).2) (fun hn_ => (Kd.fresh' (Kd.R_lt (by (with_reducible repeat first | apply Kd.Zm | apply Kd.Zo); exact HO224.out)) k_ hn_))⟩)) (Zi (by repeat (with_reducible first | exact HB.out | apply Zc | apply Za | apply Zd)))); have n5_ := Zb.mk (Zl (by repeat (with_reducible first | exact HB.out | apply Zc | apply Za | apply Zd)) hb); clear HO_11; clear HO224; clear HO227; clear HO230; clear HB; have HO_11 := n0_; have HO224 := n1_; have HO227 := n2_; have HO230 := n3_; have HO233 := n4_; have HB := n5_; clear n0_ n1_ n2_ n3_ n4_ n5_; (try clear hb); (try clear hb2); (try clear hk); (try clear hi); (try clear ho0); obtain ⟨Ao35, co35, eo35⟩ := Kd.V_slice HO227.out; subst eo35; obtain ⟨Ao36, co36, eo36⟩ := Kd.V_slice HO233.out; subst eo36) | ((with_reducible refine Zp (f := 85) rfl ?_); refine ZB (some 83) rfl rfl Try.func85 (by kernel_rfl) rfl #[.slice Ao35 t225.length co35, .slice Ao36 t231.length co36] rfl (by (try simp only [List.map_toArray, List.map_cons, List.map_nil]); first | done | rfl | (simp only [List.length_drop, List.length_take]; rfl)) ?_; (with_reducible refine (big_plus.calls k4 _ _ t225 _ _ t231 t234 _ ?side1 ?side2 ?side3 ?side4 A25.out).mono ?_); (case side1 => repeat (first | exact (Kd.V_reads' HO227.out).2.2 | (with_reducible refine Kd.ZC ?_ _) | (with_reducible refine Kd.ZF ?_ _) | (with_reducible refine Kd.ZN ?_))); (case side2 => exact (Kd.V_reads' HO227.out).2.1); (case side3 => repeat (first | exact (Kd.V_reads' HO233.out).2.2 | (with_reducible refine Kd.ZC ?_ _) | (with_reducible refine Kd.ZF ?_ _) | (with_reducible refine Kd.ZN ?_))); (case side4 => exact (Kd.V_reads' HO233.out).2.1); rintro e w37 ⟨v235, rfl, ho0, hb⟩; refine ⟨_, rfl, ?_⟩; have n0_ := Zb.mk (Kd.V_below (by (with_reducible repeat first | apply Kd.V_drewN); exact HO_11.out) hb); have n1_ := Zb.mk (Kd.Zz (by (with_reducible repeat first | apply Kd.Zm | apply Kd.Zo); exact HO224.out) hb); have n2_ := Zb.mk (Kd.V_below (by (with_reducible repeat first | apply Kd.V_drewN); exact HO227.out) hb); have n3_ := Zb.mk (Kd.Zz (by (with_reducible repeat first | apply Kd.Zm | apply Kd.Zo); exact HO230.out) hb); have n4_ := Zb.mk (Kd.V_below (by (with_reducible repeat first | apply Kd.V_drewN); exact HO233.out) hb); have n5_ := Zb.mk (Kd.V_lower (Kd.V_mono (ok' := fun k_ => (w.heap.size ≤ k_) ∧ some k_ ≠ (.slice Ao29 y222.length co29 : Value).ownBlock ∧ some k_ ≠ (.slice Ao33 y228.length co33 : Value).ownBlock) ho0 (fun k_ hk_ => ⟨(Nat.le_trans (Zi (by repeat (with_reducible first | exact HB.out | apply Zc | apply Za | apply Zd))) hk_), (Kd.fresh' (Kd.R_lt (by (with_reducible repeat first | apply Kd.Zm | apply Kd.Zo); exact HO224.out)) k_ hk_), (Kd.fresh' (Kd.R_lt (by (with_reducible repeat first | apply Kd.Zm | apply Kd.Zo); exact HO230.out)) k_ hk_)⟩)) (Zi (by repeat (with_reducible first | exact HB.out | apply Zc | apply Za | apply Zd)))); have n6_ := Zb.mk (Zl (by repeat (with_reducible first | exact HB.out | apply Zc | apply Za | apply Zd)) hb); clear HO_11; clear HO224; clear HO227; clear HO230; clear HO233; clear HB; have HO_11 := n0_; have HO224 := n1_; have HO227 := n2_; have HO230 := n3_; have HO233 := n4_; have HO236 := n5_; have HB := n6_; clear n0_ n1_ n2_ n3_ n4_ n5_ n6_; (try clear hb); (try clear hb2); (try clear hk); (try clear hi); (try clear ho0)))
               go_roundg k4
               case measure => have := HJ3.out; have := HJ7.out; have := HK3.out; have := HK4.out; omega
               case rel => exact ⟨(t234), (wrap64 (x12_3 + (wrap64 ((Int.tmod (wrap64 ((wrap64 ((x1_7.size : Int) - x12_3)) - 1)) t220) + 1)))), (by first | rfl | (simp; done) | (simp [*]; done)), H', ⟨by have := HJ3.out; have := HJ7.out; have := HK3.out; have := HK4.out; omega⟩, ⟨by (with_reducible repeat first | apply Kd.V_drewN); exact Kd.V_mono HO236.out (fun _ hk => hk.1)⟩, ⟨by repeat (with_reducible first | exact HB.out | apply Zc | apply Za | apply Zd)⟩⟩
           ·rw [if_neg c16] at H
            exact absurd H (by simp)
          ·rw [if_neg c15] at H
           exact absurd H (by simp)
         ·rw [if_neg c14] at H
          exact absurd H (by simp)
       ·rw [if_neg c12] at H
        have c12b0 : decide (x12_3 < (x1_7.size : Int)) = false := decide_eq_false c12
        clear c12
        by_cases c38 : x1_7.toList = ([] : List UInt8)
        ·rw [if_pos c38] at H
         exact absurd H (by simp)
        ·rw [if_neg c38] at H
         have c38b0 : (x1_7.toList == ([] : List UInt8)) = false := beq_eq_false_iff_ne.mpr c38
         have c38b1 : (x1_7.toList != ([] : List UInt8)) = true := bne_iff_ne.mpr c38
         simp only [Option.some.injEq, Prod.mk.injEq] at H
         obtain ⟨rfl, rfl⟩ := H
         obtain ⟨Az, cz, ez⟩ := Kd.V_slice HO_11.out
         subst ez
         have HGB := Zb.mk (Zn HG.out HB.out)
         have HAP := Zb.mk (show ∀ k_, w.heap.size ≤ k_ → k_ ≠ g from fun k_ hk => by have := Zw HG.out; omega)
         go_wp2_with fail
         have HV := Zb.mk (show Kd.V (Kd.int .u64) 46 wr wr.heap.size (fun k_ => w.heap.size ≤ k_) (.slice Az x11_3.length cz) x11_3 from HO_11.out)
         (with_reducible refine (put_calls g f0 vo x8_3 Az cz x11_3 r3 k _ _ HGB.out HAP.out HV.out HT2.out).mono ?_)
         rintro e w1 ⟨rfl, hp⟩
         have HPP := Zb.mk (hp.after HB.out)
         clear hp
         go_wp2_with fail
         go_ret2
         exact ⟨rfl, HPP.out⟩
end Go.Proofs.Ytbmddlldadbfnaa.BA
end
section
namespace Go.Proofs.Ytbmddlldadbfnaa.BA
open Go.RowKit Go.Proofs.YtbmddlldadbfnaaW.PrintWords Go.Proofs.YtbmddlldadbfnaaW.PrintLast Go.Proofs.YtbmddlldadbfnaaW.PrintMore
attribute [local go_sem] ZU ZS max_two min_two ZP ZO ZT ZR
set_option linter.unusedVariables false
set_option linter.unusedSimpArgs false
set_option maxHeartbeats 2000000 in
theorem neg_calls (g : Nat) (nx : Bool) (l r r2 : List Int) (k : Nat) (w : World)
  (hx : IsBig w g nx l) (h : sClone.f l = some r) (h2 : big_trim.f k r = some r2) :
  Calls Try.prog 76 #[.pointer (some ⟨g, 0, none⟩), .pointer (some ⟨g, 0, none⟩)] w fun e w' =>
   e = .returned (.pointer (some ⟨g, 0, none⟩)) ∧ PutPost w w' g (!nx && decide (0 < r2.length)) r2 := by
 obtain ⟨vx, hgx, hvx⟩ := hx
 obtain ⟨A0, c0, rfl⟩ := Kd.V_slice hvx
 have HG := Zb.mk hgx
 have HC := Zb.mk (Kd.V_reads' hvx)
 have HT := Zb.mk h
 have HT2 := Zb.mk h2
 have hc0 : w.cell? ⟨g, 0, none⟩ = some (.bool nx) := Zk hgx 0
 have hc1 : w.cell? ⟨g, 1, none⟩ = some (.slice A0 l.length c0) := Zk hgx 1
 clear hgx hvx h h2
 go_enter Try.func76, Try.ntmps76
 go_wp2_with fail
 go_region_with (first
  | (go_at_call 115; refine (sClone.calls A0 c0 l r _ (Kd.C_below HC.out.2.2 (below_drew (Below.refl _ _))) HC.out.2.1 HT.out).mono ?_; rintro e w1 ⟨v, rfl, hv, hb⟩; obtain ⟨Az, cz, rfl⟩ := Kd.Zy hv; have HB := Zb.mk ((below_drew (Below.refl w.heap.size w)).trans hb); have HAP := Zb.mk (big_apart (B := w.heap.size) (Zw HG.out) hv); have HTI := Zb.mk (Kd.R_V (base' := w1.heap.size) (Kd.R_tight rfl hv)); have HGB := Zb.mk (Zn (w := w.drew) HG.out hb); have hg0 : w1.cell? ⟨g, 0, none⟩ = some (.bool nx) := Zk HGB.out 0; clear hv hb)
  | (go_at_call 88; refine (put_calls g nx (.slice A0 l.length c0) (!nx) Az cz r r2 k _ _ HGB.out HAP.out HTI.out HT2.out).mono ?_; rintro e w2 ⟨rfl, hp⟩; have HPP := Zb.mk (hp.after (w := w) HB.out); clear hp))
 all_goals
  go_wp2_with fail
  go_ret
  exact ⟨rfl, HPP.out⟩
end Go.Proofs.Ytbmddlldadbfnaa.BA
end
section
namespace Go.Proofs.Ytbmddlldadbfnaa.BA
open Go.RowKit Go.Proofs.YtbmddlldadbfnaaW.PrintWords Go.Proofs.YtbmddlldadbfnaaW.PrintLast Go.Proofs.YtbmddlldadbfnaaW.PrintMore
attribute [local go_sem] ZU ZS max_two min_two ZP ZO ZT ZR
set_option linter.unusedVariables false
set_option linter.unusedSimpArgs false
def exact_Int.f (k : Nat) (n : Bool) (l : List Int) : Option (Bool × List Int) :=
 (exact_Whole.f k l).bind fun b => (bISetBytes.f k 0 b).bind fun s => (big_trim.f k s).bind fun m =>
  if n = true then (sClone.f m).bind fun c => (big_trim.f k c).bind fun m2 => some (decide (0 < m2.length), m2) else some (false, m)
theorem NewBig.put {w w1 w2 : World} {g : Nat} {n n2 : Bool} {r r2 : List Int} (h : NewBig w w1 g n r) (hp : PutPost w1 w2 g n2 r2) : NewBig w w2 g n2 r2 :=
 ⟨h.size, hp.1, hp.below h.below h.size⟩
set_option maxHeartbeats 2000000 in
theorem exact_Int.calls (k : Nat) (n : Bool) (A : Option Addr) (c : Nat) (l : List Int) (n2 : Bool) (m2 : List Int) (w : World)
  (hr : Kd.C (Kd.int .u64) w A l.length l) (hc : l.length ≤ c) (h : exact_Int.f k n l = some (n2, m2)) :
  Calls Try.prog 39 #[.agg #[.bool n, .slice A l.length c]] w fun e w' => ∃ g, e = .returned (.pointer (some ⟨g, 0, none⟩)) ∧ NewBig w w' g n2 m2 := by
 unfold exact_Int.f at h
 replace h := Option.bind_eq_some_iff.mp h
 obtain ⟨b, hb, h⟩ := h
 replace h := Option.bind_eq_some_iff.mp h
 obtain ⟨s, hs, h⟩ := h
 replace h := Option.bind_eq_some_iff.mp h
 obtain ⟨m, hm, h⟩ := h
 have HR := Zb.mk hr
 have HC := Zb.mk hc
 have HZ1 := Zb.mk hb
 have HZ2 := Zb.mk hs
 have HZ3 := Zb.mk hm
 clear hr hc hb hs hm
 have hu24 := Try.underlying24
 cases n with
 | false =>
  simp only [Bool.false_eq_true, if_false, Option.some.injEq, Prod.mk.injEq] at h
  obtain ⟨rfl, rfl⟩ := h
  go_enter Try.func39, Try.ntmps39
  go_wp2_with fail
  refine (exact_Whole.calls k A c l b s m _ (Kd.ZC HR.out _) HC.out HZ1.out HZ2.out HZ3.out).mono ?_
  rintro e w1 ⟨g, rfl, hN⟩
  have hb1 := hN.below
  have hcx : w1.cell? ⟨w.heap.size, 0, none⟩ = some (.bool false) := (hb1.cell (by simp)).trans (Zk (blk_new w _) 0)
  have HN := Zb.mk hN
  clear hN hb1
  go_wp2_with fail
  go_ret
  exact ⟨g, rfl, ⟨Nat.le_trans (by simp) HN.out.size, HN.out.big, (Zc (Below.refl _ _) _).trans (HN.out.below.mono (by simp))⟩⟩
 | true =>
  simp only [if_true] at h
  replace h := Option.bind_eq_some_iff.mp h
  obtain ⟨q, hq, h⟩ := h
  replace h := Option.bind_eq_some_iff.mp h
  obtain ⟨m2', hm2, h⟩ := h
  simp only [Option.some.injEq, Prod.mk.injEq] at h
  obtain ⟨rfl, rfl⟩ := h
  have HZ4 := Zb.mk hq
  have HZ5 := Zb.mk hm2
  clear hq hm2
  go_enter Try.func39, Try.ntmps39
  go_wp2_with fail
  refine (exact_Whole.calls k A c l b s m _ (Kd.ZC HR.out _) HC.out HZ1.out HZ2.out HZ3.out).mono ?_
  rintro e w1 ⟨g, rfl, hN⟩
  have hb1 := hN.below
  have hcx : w1.cell? ⟨w.heap.size, 0, none⟩ = some (.bool true) := (hb1.cell (by simp)).trans (Zk (blk_new w _) 0)
  have HN := Zb.mk hN
  clear hN hb1
  go_wp2_with fail
  refine (neg_calls g false m q m2' k _ HN.out.big HZ4.out HZ5.out).mono ?_
  rintro e w2 ⟨rfl, hp⟩
  have HN2 := Zb.mk (HN.out.put hp)
  clear hp
  go_wp2_with fail
  go_ret
  refine ⟨g, rfl, ⟨Nat.le_trans (by simp) HN2.out.size, ?_, (Zc (Below.refl _ _) _).trans (HN2.out.below.mono (by simp))⟩⟩
  have := HN2.out.big
  simpa using this
end Go.Proofs.Ytbmddlldadbfnaa.BA
end
section
namespace Go.Proofs.Ytbmddlldadbfnaa.BA
open Go.RowKit Go.Proofs.YtbmddlldadbfnaaW.PrintWords Go.Proofs.YtbmddlldadbfnaaW.PrintLast Go.Proofs.YtbmddlldadbfnaaW.PrintMore
attribute [local go_sem] ZU ZS max_two min_two ZP ZO ZT ZR
set_option linter.unusedVariables false
set_option linter.unusedSimpArgs false
def bigSign.f (n : Bool) (l : List Int) : Option Int := some (if l.length = 0 then 0 else if n = true then -1 else 1)
set_option maxHeartbeats 1000000 in
theorem bigSign.calls (g : Nat) (n : Bool) (l : List Int) (r : Int) (w : World) (hx : IsBig w g n l) (h : bigSign.f n l = some r) :
  Calls Try.prog 89 #[.pointer (some ⟨g, 0, none⟩)] w fun e w' => e = .returned (.int .i64 r) ∧ Zq w w' := by
 obtain ⟨vx, hgx, hvx⟩ := hx
 obtain ⟨A0, c0, rfl⟩ := Kd.V_slice hvx
 have hgc0 : w.cell? ⟨g, 0, none⟩ = some (.bool n) := Zk hgx 0
 have hgc1 : w.cell? ⟨g, 1, none⟩ = some (.slice A0 l.length c0) := Zk hgx 1
 clear hgx hvx
 unfold bigSign.f at h
 by_cases h0 : l.length = 0
 ·rw [if_pos h0] at h
  obtain rfl := Option.some.inj h
  have hb1 : ((l.length : Int) == 0) = true := beq_iff_eq.mpr (by omega)
  clear h0 h
  go_enter Try.func89, Try.ntmps89
  go_wp2_with fail
  go_ret
  exact ⟨rfl, Zq.refl _⟩
 ·rw [if_neg h0] at h
  have hb1 : ((l.length : Int) == 0) = false := beq_eq_false_iff_ne.mpr (by omega)
  have hb2 : ¬ (l = []) := fun h_ => h0 (by rw [h_]; rfl)
  clear h0
  cases n with
  | true =>
   rw [if_pos rfl] at h
   obtain rfl := Option.some.inj h
   clear h
   go_enter Try.func89, Try.ntmps89
   go_wp2_with fail
   go_ret
   exact ⟨rfl, Zq.refl _⟩
  | false =>
   rw [if_neg (by decide)] at h
   obtain rfl := Option.some.inj h
   clear h
   go_enter Try.func89, Try.ntmps89
   go_wp2_with fail
   go_ret
   exact ⟨rfl, Zq.refl _⟩
def bigLimbs.f (k : Nat) (l : List Int) : Option (List Int) :=
 (sClone.f l).bind fun c => (big_trim.f k c).bind fun m => (bIBytes.f k m).bind fun b => exact_Limbs.f k b
theorem bigLimbs.mono : ∀ l k, LeO (bigLimbs.f k l) (bigLimbs.f (k + 1) l) := by
 intro l k
 unfold bigLimbs.f
 refine LeO.bind (LeO.refl _) (fun _ => ?_)
 refine LeO.bind (big_trim.mono _ _) (fun _ => ?_)
 refine LeO.bind (bIBytes.mono _ _) (fun _ => ?_)
 exact exact_Limbs.mono _ _
theorem bigLimbs.calls (g : Nat) (n : Bool) (k : Nat) (l r : List Int) (w : World) (hx : IsBig w g n l) (h : bigLimbs.f k l = some r) :
  Calls Try.prog 90 #[.pointer (some ⟨g, 0, none⟩)] w fun e w' => ∃ v0_ : Value, e = .returned (v0_) ∧ Kd.R (Kd.int .u64) 46 w' w.heap.size (fun _ => True) v0_ r ∧ Below w.heap.size w w' := by
 unfold bigLimbs.f at h
 replace h := Option.bind_eq_some_iff.mp h
 obtain ⟨c, h1, h⟩ := h
 replace h := Option.bind_eq_some_iff.mp h
 obtain ⟨m, h2, h⟩ := h
 replace h := Option.bind_eq_some_iff.mp h
 obtain ⟨b, h3, h⟩ := h
 exact exact_Limbs.calls g n k l c m b r w hx h1 h2 h3 h
def exact_Told.f (k : Nat) (n : Bool) (l : List Int) : Option (Bool × List Int × Bool) := (bigSign.f n l).bind fun t102 => ((bigLimbs.f k l).bind fun t103 => (if (t103.length : Int) > 4096 then (some (false, ([] : List Int), false)) else (some (decide (t102 < 0), t103, true))))
theorem exact_Told.mono : ∀ n l k, LeO (exact_Told.f k n l) (exact_Told.f (k + 1) n l) := by
 intro n l k
 unfold exact_Told.f
 repeat' first
   | (with_reducible exact bigLimbs.mono _ _)
   | (with_reducible exact LeO.refl _)
   | (with_reducible exact LeO.none _)
   | (with_reducible refine LeO.ite ?_ ?_)
   | (with_reducible refine LeO.bind ?_ (fun _ => ?_))
   | exact bigLimbs.mono _ _
   | exact LeO.none _
   | refine LeO.ite ?_ ?_
   | refine LeO.bind ?_ (fun _ => ?_)
set_option maxHeartbeats 8000000 in
set_option maxRecDepth 100000 in
theorem exact_Told.calls (g : Nat) (k : Nat) (n : Bool) (l : List Int) (r1 : Bool) (r2 : List Int) (r3 : Bool) (w : World) (hx : IsBig w g n l) (h : exact_Told.f k n l = some (r1, r2, r3)) :
  Calls Try.prog 47 #[.pointer (some ⟨g, 0, none⟩)] w fun e w' => ∃ v1_ : Value, e = .returned (.tuple #[.agg #[.bool r1, v1_], .bool r3]) ∧ Kd.R (Kd.int .u64) 46 w' w.heap.size (fun _ => True) v1_ r2 ∧ Below w.heap.size w w' := by
 have hu24 := Try.underlying24
 have HX := Zb.mk hx
 clear hx
 have HB := Zb.mk (Below.refl w.heap.size w)
 have H : ((bigSign.f n l).bind fun t102 => ((bigLimbs.f k l).bind fun t103 => (if (t103.length : Int) > 4096 then (some (false, ([] : List Int), false)) else (some (decide (t102 < 0), t103, true))))) = some (r1, r2, r3) := h
 clear h
 replace H := Option.bind_eq_some_iff.mp H
 obtain ⟨t102, A20, H⟩ := H
 replace H : ((bigLimbs.f k l).bind fun t103 => (if (t103.length : Int) > 4096 then (some (false, ([] : List Int), false)) else (some (decide (t102 < 0), t103, true)))) = some (r1, r2, r3) := H
 have A2 := Zb.mk A20
 clear A20
 replace H := Option.bind_eq_some_iff.mp H
 obtain ⟨t103, A30, H⟩ := H
 replace H : (if (t103.length : Int) > 4096 then (some (false, ([] : List Int), false)) else (some (decide (t102 < 0), t103, true))) = some (r1, r2, r3) := H
 have A3 := Zb.mk A30
 clear A30
 by_cases c4 : (t103.length : Int) > 4096
 ·rw [if_pos c4] at H
  have c4b0 : decide (4096 < (t103.length : Int)) = true := decide_eq_true c4
  have c4b1 : decide (4096 < t103.length) = true := decide_eq_true (by omega)
  clear c4
  simp only [Option.some.injEq, Prod.mk.injEq] at H
  obtain ⟨rfl, rfl, rfl⟩ := H
  go_enter Try.func47, Try.ntmps47
  go_wp2_with (first | ((with_reducible refine Zt (N := 2) rfl ?_); refine Zs ?hg (N := 2) ?hd (cs := #[.bool false, .slice none 0 0]) (t := 24) ?hr ?_; (case hd => rfl); (case hg => rfl); (case hr => first | (go_simp; done) | (go_simp; rfl)); intro gb101 hg w5 hbox hb; have n0_ := Zb.mk (Zl (by repeat (with_reducible first | exact HB.out | apply Zc | apply Za | apply Zd)) hb); have n1_ := Zb.mk (hbox); have n2_ := Zb.mk ((by rw [hg]; exact (Zi (by repeat (with_reducible first | exact HB.out | apply Zc | apply Za | apply Zd))) : w.heap.size ≤ gb101)); have n3_ := Zb.mk ((by rw [hg]; exact (Zi (by repeat (with_reducible first | exact HB.out | apply Zc | apply Za | apply Zd))) : w.heap.size ≤ gb101)); clear HB; have HB := n0_; have BK101 := n1_; have GW101 := n2_; have GE101 := n3_; clear n0_ n1_ n2_ n3_; clear hb hbox hg) | ((with_reducible refine Zp (f := 89) rfl ?_); refine ZB (some 6) rfl rfl Try.func89 (by kernel_rfl) rfl #[.pointer (some ⟨g, 0, none⟩)] rfl (by (try simp only [List.map_toArray, List.map_cons, List.map_nil]); first | done | rfl | (simp only [List.length_drop, List.length_take]; rfl)) ?_; (with_reducible refine (bigSign.calls g n l t102 _ (HX.out.below HB.out) A2.out).mono ?_); rintro e w' ⟨rfl, ⟨nd, rfl⟩⟩; refine ⟨_, rfl, ?_⟩; (try (rw [ZK w5]; generalize hq_ : World.drewN w5 _ = w5; have n0_ : Zb (w5.heap[gb101]? = some (.cells #[.bool false, .slice none 0 0] 24 (0, 0))) := ⟨by rw [← hq_]; exact (by (with_reducible repeat first | refine Ze ?_ _ | refine Zg ?_ | refine Zf ?_ _); exact BK101.out)⟩; have n1_ : Zb (Below w.heap.size w w5) := ⟨by rw [← hq_]; exact (by repeat (with_reducible first | exact HB.out | apply Zc | apply Za | apply Zd | refine Zh ?_ GE101.out))⟩; clear BK101 HB hq_; have BK101 := n0_; have HB := n1_; clear n0_ n1_))) | ((with_reducible refine Zp (f := 90) rfl ?_); refine ZB (some 9) rfl rfl Try.func90 (by kernel_rfl) rfl #[.pointer (some ⟨g, 0, none⟩)] rfl (by (try simp only [List.map_toArray, List.map_cons, List.map_nil]); first | done | rfl | (simp only [List.length_drop, List.length_take]; rfl)) ?_; (with_reducible refine (bigLimbs.calls g n k l t103 _ (HX.out.below HB.out) A3.out).mono ?_); rintro e w6 ⟨v104, rfl, ho0, hb⟩; refine ⟨_, rfl, ?_⟩; have n0_ := Zb.mk (Kd.ZG ho0 (Zi (by repeat (with_reducible first | exact HB.out | apply Zc | apply Za | apply Zd | refine Zh ?_ GE101.out)))); have n1_ := Zb.mk (Zn (g := gb101) (o := .cells #[.bool false, .slice none 0 0] 24 (0, 0)) (by (with_reducible repeat first | refine Ze ?_ _ | refine Zg ?_ | refine Zf ?_ _); exact BK101.out) hb); have n2_ := Zb.mk (Zl (by repeat (with_reducible first | exact HB.out | apply Zc | apply Za | apply Zd | refine Zh ?_ GE101.out)) hb); clear BK101; clear HB; have HO105 := n0_; have BK101 := n1_; have HB := n2_; clear n0_ n1_ n2_; (try clear hb); (try clear hb2); (try clear hk); (try clear hi); (try clear ho0); obtain ⟨Ao7, co7, eo7⟩ := Kd.Zy HO105.out; subst eo7) | ((with_reducible refine Zt (N := 4) rfl ?_); refine Zs ?hg (N := 4) ?hd (cs := #[.bool false, .slice none 0 0]) (t := 24) ?hr ?_; (case hd => rfl); (case hg => rfl); (case hr => first | (go_simp; done) | (go_simp; rfl)); intro gb106 hg w8 hbox hb; have n0_ := Zb.mk (Kd.Zz (by (with_reducible repeat first | apply Kd.Zm | apply Kd.Zo); exact HO105.out) hb); have n1_ := Zb.mk (Zn (g := gb101) (o := .cells #[.bool false, .slice none 0 0] 24 (0, 0)) (by (with_reducible repeat first | refine Ze ?_ _ | refine Zg ?_ | refine Zf ?_ _); exact BK101.out) hb); have n2_ := Zb.mk (Zl (by repeat (with_reducible first | exact HB.out | apply Zc | apply Za | apply Zd | refine Zh ?_ GE101.out)) hb); have n3_ := Zb.mk (hbox); have n4_ := Zb.mk ((by rw [hg]; exact (Zi (by repeat (with_reducible first | exact HB.out | apply Zc | apply Za | apply Zd | refine Zh ?_ GE101.out))) : w.heap.size ≤ gb106)); have n5_ := Zb.mk ((by rw [hg]; exact (Zi (by repeat (with_reducible first | exact HB.out | apply Zc | apply Za | apply Zd | refine Zh ?_ GE101.out))) : w.heap.size ≤ gb106)); have n6_ := Zb.mk ((by rw [hg]; exact Nat.ne_of_lt (Zw (g := gb101) (o := .cells #[.bool false, .slice none 0 0] 24 (0, 0)) (by (with_reducible repeat first | refine Ze ?_ _ | refine Zg ?_ | refine Zf ?_ _); exact BK101.out)) : gb101 ≠ gb106)); have n7_ := Zb.mk ((by rw [hg]; exact Nat.ne_of_gt (Zw (g := gb101) (o := .cells #[.bool false, .slice none 0 0] 24 (0, 0)) (by (with_reducible repeat first | refine Ze ?_ _ | refine Zg ?_ | refine Zf ?_ _); exact BK101.out)) : gb106 ≠ gb101)); clear HO105; clear BK101; clear HB; have HO105 := n0_; have BK101 := n1_; have HB := n2_; have BK106 := n3_; have GW106 := n4_; have GE106 := n5_; have NB101_106 := n6_; have NB106_101 := n7_; clear n0_ n1_ n2_ n3_ n4_ n5_ n6_ n7_; clear hb hbox hg; have hnb9 := NB106_101.out; have hnc9 := NB101_106.out; have hcz10_0 : w8.cell? ⟨gb106, 0, none⟩ = some (.bool false) := (Zk BK106.out 0).trans rfl; have hcz10_1 : w8.cell? ⟨gb106, 1, none⟩ = some (.slice none 0 0) := (Zk BK106.out 1).trans rfl; have hfz10_0 := Zj BK106.out 0; have hfz10_1 := Zj BK106.out 1; have hcz11_0 : w8.cell? ⟨gb101, 0, none⟩ = some (.bool false) := (Zk BK101.out 0).trans rfl; have hcz11_1 : w8.cell? ⟨gb101, 1, none⟩ = some (.slice none 0 0) := (Zk BK101.out 1).trans rfl; have hfz11_0 := Zj BK101.out 0; have hfz11_1 := Zj BK101.out 1))
  refine bodyPost_ret (results_ct rfl _ _ gb101 24 #[.bool false, .slice none 0 0] (0, 0) _ rfl (by (with_reducible repeat first | refine Ze ?_ _ | refine Zg ?_ | refine Zf ?_ _); refine Zu (cs := #[.bool false, .slice none 0 0]) ?_ 1 _ rfl; (with_reducible repeat first | refine Ze ?_ _ | refine Zg ?_ | refine Zf ?_ _); refine Zu (cs := #[.bool false, .slice none 0 0]) ?_ 0 _ rfl; (with_reducible repeat first | refine Ze ?_ _ | refine Zg ?_ | refine Zf ?_ _); refine Zr ?_ NB101_106.out _; (with_reducible repeat first | refine Ze ?_ _ | refine Zg ?_ | refine Zf ?_ _); refine Zr ?_ NB101_106.out _; (with_reducible repeat first | refine Ze ?_ _ | refine Zg ?_ | refine Zf ?_ _); exact BK101.out) Try.underlying24 rfl (by kernel_rfl)) rfl ?_
  exact ⟨_, by first | rfl | (simp [errW_none, errW_some] <;> rfl) | (simp [*, errW_none, errW_some] <;> rfl), by first | exact Kd.R_nil _ _ _ _ _ | exact Kd.V_nil _ _ _ _ _ | exact Kd.S_nil _ _ _ _ _, by repeat (with_reducible first | exact HB.out | apply Zc | apply Za | apply Zd | refine Zh ?_ GE101.out | refine Zh ?_ GE106.out)⟩
 ·rw [if_neg c4] at H
  have c4b0 : decide (4096 < (t103.length : Int)) = false := decide_eq_false c4
  have c4b1 : decide (4096 < t103.length) = false := decide_eq_false (by omega)
  clear c4
  simp only [Option.some.injEq, Prod.mk.injEq] at H
  obtain ⟨rfl, rfl, rfl⟩ := H
  go_enter Try.func47, Try.ntmps47
  go_wp2_with (first | ((with_reducible refine Zt (N := 2) rfl ?_); refine Zs ?hg (N := 2) ?hd (cs := #[.bool false, .slice none 0 0]) (t := 24) ?hr ?_; (case hd => rfl); (case hg => rfl); (case hr => first | (go_simp; done) | (go_simp; rfl)); intro gb101 hg w12 hbox hb; have n0_ := Zb.mk (Zl (by repeat (with_reducible first | exact HB.out | apply Zc | apply Za | apply Zd)) hb); have n1_ := Zb.mk (hbox); have n2_ := Zb.mk ((by rw [hg]; exact (Zi (by repeat (with_reducible first | exact HB.out | apply Zc | apply Za | apply Zd))) : w.heap.size ≤ gb101)); have n3_ := Zb.mk ((by rw [hg]; exact (Zi (by repeat (with_reducible first | exact HB.out | apply Zc | apply Za | apply Zd))) : w.heap.size ≤ gb101)); clear HB; have HB := n0_; have BK101 := n1_; have GW101 := n2_; have GE101 := n3_; clear n0_ n1_ n2_ n3_; clear hb hbox hg) | ((with_reducible refine Zp (f := 89) rfl ?_); refine ZB (some 6) rfl rfl Try.func89 (by kernel_rfl) rfl #[.pointer (some ⟨g, 0, none⟩)] rfl (by (try simp only [List.map_toArray, List.map_cons, List.map_nil]); first | done | rfl | (simp only [List.length_drop, List.length_take]; rfl)) ?_; (with_reducible refine (bigSign.calls g n l t102 _ (HX.out.below HB.out) A2.out).mono ?_); rintro e w' ⟨rfl, ⟨nd, rfl⟩⟩; refine ⟨_, rfl, ?_⟩; (try (rw [ZK w12]; generalize hq_ : World.drewN w12 _ = w12; have n0_ : Zb (w12.heap[gb101]? = some (.cells #[.bool false, .slice none 0 0] 24 (0, 0))) := ⟨by rw [← hq_]; exact (by (with_reducible repeat first | refine Ze ?_ _ | refine Zg ?_ | refine Zf ?_ _); exact BK101.out)⟩; have n1_ : Zb (Below w.heap.size w w12) := ⟨by rw [← hq_]; exact (by repeat (with_reducible first | exact HB.out | apply Zc | apply Za | apply Zd | refine Zh ?_ GE101.out))⟩; clear BK101 HB hq_; have BK101 := n0_; have HB := n1_; clear n0_ n1_))) | ((with_reducible refine Zp (f := 90) rfl ?_); refine ZB (some 9) rfl rfl Try.func90 (by kernel_rfl) rfl #[.pointer (some ⟨g, 0, none⟩)] rfl (by (try simp only [List.map_toArray, List.map_cons, List.map_nil]); first | done | rfl | (simp only [List.length_drop, List.length_take]; rfl)) ?_; (with_reducible refine (bigLimbs.calls g n k l t103 _ (HX.out.below HB.out) A3.out).mono ?_); rintro e w13 ⟨v104, rfl, ho0, hb⟩; refine ⟨_, rfl, ?_⟩; have n0_ := Zb.mk (Kd.ZG ho0 (Zi (by repeat (with_reducible first | exact HB.out | apply Zc | apply Za | apply Zd | refine Zh ?_ GE101.out)))); have n1_ := Zb.mk (Zn (g := gb101) (o := .cells #[.bool false, .slice none 0 0] 24 (0, 0)) (by (with_reducible repeat first | refine Ze ?_ _ | refine Zg ?_ | refine Zf ?_ _); exact BK101.out) hb); have n2_ := Zb.mk (Zl (by repeat (with_reducible first | exact HB.out | apply Zc | apply Za | apply Zd | refine Zh ?_ GE101.out)) hb); clear BK101; clear HB; have HO105 := n0_; have BK101 := n1_; have HB := n2_; clear n0_ n1_ n2_; (try clear hb); (try clear hb2); (try clear hk); (try clear hi); (try clear ho0); obtain ⟨Ao14, co14, eo14⟩ := Kd.Zy HO105.out; subst eo14) | ((with_reducible refine Zt (N := 4) rfl ?_); refine Zs ?hg (N := 4) ?hd (cs := #[.bool false, .slice none 0 0]) (t := 24) ?hr ?_; (case hd => rfl); (case hg => rfl); (case hr => first | (go_simp; done) | (go_simp; rfl)); intro gb106 hg w15 hbox hb; have n0_ := Zb.mk (Kd.Zz (by (with_reducible repeat first | apply Kd.Zm | apply Kd.Zo); exact HO105.out) hb); have n1_ := Zb.mk (Zn (g := gb101) (o := .cells #[.bool false, .slice none 0 0] 24 (0, 0)) (by (with_reducible repeat first | refine Ze ?_ _ | refine Zg ?_ | refine Zf ?_ _); exact BK101.out) hb); have n2_ := Zb.mk (Zl (by repeat (with_reducible first | exact HB.out | apply Zc | apply Za | apply Zd | refine Zh ?_ GE101.out)) hb); have n3_ := Zb.mk (hbox); have n4_ := Zb.mk ((by rw [hg]; exact (Zi (by repeat (with_reducible first | exact HB.out | apply Zc | apply Za | apply Zd | refine Zh ?_ GE101.out))) : w.heap.size ≤ gb106)); have n5_ := Zb.mk ((by rw [hg]; exact (Zi (by repeat (with_reducible first | exact HB.out | apply Zc | apply Za | apply Zd | refine Zh ?_ GE101.out))) : w.heap.size ≤ gb106)); have n6_ := Zb.mk ((by rw [hg]; exact Nat.ne_of_lt (Zw (g := gb101) (o := .cells #[.bool false, .slice none 0 0] 24 (0, 0)) (by (with_reducible repeat first | refine Ze ?_ _ | refine Zg ?_ | refine Zf ?_ _); exact BK101.out)) : gb101 ≠ gb106)); have n7_ := Zb.mk ((by rw [hg]; exact Nat.ne_of_gt (Zw (g := gb101) (o := .cells #[.bool false, .slice none 0 0] 24 (0, 0)) (by (with_reducible repeat first | refine Ze ?_ _ | refine Zg ?_ | refine Zf ?_ _); exact BK101.out)) : gb106 ≠ gb101)); clear HO105; clear BK101; clear HB; have HO105 := n0_; have BK101 := n1_; have HB := n2_; have BK106 := n3_; have GW106 := n4_; have GE106 := n5_; have NB101_106 := n6_; have NB106_101 := n7_; clear n0_ n1_ n2_ n3_ n4_ n5_ n6_ n7_; clear hb hbox hg; have hnb16 := NB106_101.out; have hnc16 := NB101_106.out; have hcz17_0 : w15.cell? ⟨gb106, 0, none⟩ = some (.bool false) := (Zk BK106.out 0).trans rfl; have hcz17_1 : w15.cell? ⟨gb106, 1, none⟩ = some (.slice none 0 0) := (Zk BK106.out 1).trans rfl; have hfz17_0 := Zj BK106.out 0; have hfz17_1 := Zj BK106.out 1; have hcz18_0 : w15.cell? ⟨gb101, 0, none⟩ = some (.bool false) := (Zk BK101.out 0).trans rfl; have hcz18_1 : w15.cell? ⟨gb101, 1, none⟩ = some (.slice none 0 0) := (Zk BK101.out 1).trans rfl; have hfz18_0 := Zj BK101.out 0; have hfz18_1 := Zj BK101.out 1))
  refine bodyPost_ret (results_ct rfl _ _ gb101 24 #[.bool (decide (t102 < 0)), .slice Ao14 t103.length co14] (0, 0) _ rfl (by (with_reducible repeat first | refine Ze ?_ _ | refine Zg ?_ | refine Zf ?_ _); refine Zu (cs := #[.bool (decide (t102 < 0)), .slice none 0 0]) ?_ 1 _ rfl; (with_reducible repeat first | refine Ze ?_ _ | refine Zg ?_ | refine Zf ?_ _); refine Zu (cs := #[.bool false, .slice none 0 0]) ?_ 0 _ rfl; (with_reducible repeat first | refine Ze ?_ _ | refine Zg ?_ | refine Zf ?_ _); refine Zr ?_ NB101_106.out _; (with_reducible repeat first | refine Ze ?_ _ | refine Zg ?_ | refine Zf ?_ _); refine Zr ?_ NB101_106.out _; (with_reducible repeat first | refine Ze ?_ _ | refine Zg ?_ | refine Zf ?_ _); exact BK101.out) Try.underlying24 rfl (by kernel_rfl)) rfl ?_
  exact ⟨_, by first | rfl | (simp [errW_none, errW_some] <;> rfl) | (simp [*, errW_none, errW_some] <;> rfl), by (with_reducible repeat first | apply Kd.Zm | apply Kd.Zo); exact Kd.ZE (Kd.ZH (p := ⟨gb101, 1, none⟩) (Kd.ZH (p := ⟨gb101, 0, none⟩) (Kd.ZH (p := ⟨gb106, 1, none⟩) (Kd.ZH (p := ⟨gb106, 0, none⟩) (Kd.ZI (Kd.ZI HO105.out BK106.out (by decide)) BK101.out (by decide)) (fun _ hk => hk.1.2) (.bool (decide (t102 < 0)))) (fun _ hk => hk.1.2) (.slice Ao14 t103.length co14)) (fun _ hk => hk.2) (.bool (decide (t102 < 0)))) (fun _ hk => hk.2) (.slice Ao14 t103.length co14)) (fun _ hk => trivial), by repeat (with_reducible first | exact HB.out | apply Zc | apply Za | apply Zd | refine Zh ?_ GE101.out | refine Zh ?_ GE106.out)⟩
end Go.Proofs.Ytbmddlldadbfnaa.BA
end
section
namespace Go.Proofs.Ytbmddlldadbfnaa.BA
open Go.RowKit Go.Proofs.YtbmddlldadbfnaaW.PrintWords Go.Proofs.YtbmddlldadbfnaaW.PrintLast Go.Proofs.YtbmddlldadbfnaaW.PrintMore
attribute [local go_sem] ZU ZS max_two min_two ZP ZO ZT ZR
set_option linter.unusedVariables false
set_option linter.unusedSimpArgs false
theorem exact_Int.mono : ∀ n l k, LeO (exact_Int.f k n l) (exact_Int.f (k + 1) n l) := by
 intro n l k
 unfold exact_Int.f
 refine LeO.bind (exact_Whole.mono _ _) (fun _ => ?_)
 refine LeO.bind (bISetBytes.mono _ _ _) (fun _ => ?_)
 refine LeO.bind (big_trim.mono _ _) (fun _ => ?_)
 refine LeO.ite ?_ (LeO.refl _)
 refine LeO.bind (LeO.refl _) (fun _ => ?_)
 refine LeO.bind (big_trim.mono _ _) (fun _ => LeO.refl _)
def base_Print.f (k : Nat) (n : Bool) (l : List Int) (a1 : Int) : Option (ByteArray × Int) :=
 (limb_Right.f n l).bind fun t => if t = true then (base_may.f a1).bind fun m => if m = true then (exact_Int.f k n l).bind fun q => (bIText.f k q.2 a1 q.1).bind fun s => some (s, 0) else some ((⟨#[]⟩ : ByteArray), 2) else some ((⟨#[]⟩ : ByteArray), 2)
theorem base_Print.mono : ∀ n l a1 k, LeO (base_Print.f k n l a1) (base_Print.f (k + 1) n l a1) := by
 intro n l a1 k
 unfold base_Print.f
 refine LeO.bind (LeO.refl _) (fun _ => ?_)
 refine LeO.ite ?_ (LeO.refl _)
 refine LeO.bind (LeO.refl _) (fun _ => ?_)
 refine LeO.ite ?_ (LeO.refl _)
 refine LeO.bind (exact_Int.mono _ _ _) (fun _ => ?_)
 exact LeO.bind (bIText.mono _ _ _ _) (fun _ => LeO.refl _)
set_option maxHeartbeats 2000000 in
theorem base_Print.calls (k : Nat) (a0_0 : Bool) (A0_1 : Option Addr) (c0_1 : Nat) (l0_1 : List Int) (a1 : Int) (r1 : ByteArray) (r2 : Int) (w : World) (hr0_1 : Kd.C (Kd.int .u64) w A0_1 l0_1.length l0_1) (hc0_1 : l0_1.length ≤ c0_1) (h : base_Print.f k a0_0 l0_1 a1 = some (r1, r2)) :
  Calls Try.prog 12 #[.agg #[.bool a0_0, .slice A0_1 l0_1.length c0_1], .int .i64 a1] w fun e w' => e = .returned (.tuple #[.string r1, .int .i64 r2]) ∧ Below w.heap.size w w' := by
 have HR := Zb.mk hr0_1
 have HC := Zb.mk hc0_1
 have hu24 := Try.underlying24
 unfold base_Print.f at h
 replace h := Option.bind_eq_some_iff.mp h
 obtain ⟨t, ht, h⟩ := h
 have HZ1 := Zb.mk ht
 clear ht hr0_1 hc0_1
 cases t with
 | false =>
  simp only [Bool.false_eq_true, if_false, Option.some.injEq, Prod.mk.injEq] at h
  obtain ⟨rfl, rfl⟩ := h
  go_enter Try.func12, Try.ntmps12
  go_wp2_with fail
  refine (limb_Right.calls a0_0 A0_1 c0_1 l0_1 false _ (Kd.ZC HR.out _) HC.out HZ1.out).mono ?_
  rintro e w1 ⟨rfl, hb⟩
  have HB := Zb.mk hb
  clear hb
  go_wp2_with fail
  go_ret2
  exact ⟨rfl, (Zc (Below.refl _ _) _).trans (HB.out.mono (by simp))⟩
 | true =>
  simp only [if_true] at h
  replace h := Option.bind_eq_some_iff.mp h
  obtain ⟨m, hm, h⟩ := h
  have HZ2 := Zb.mk hm
  clear hm
  cases m with
  | false =>
   simp only [Bool.false_eq_true, if_false, Option.some.injEq, Prod.mk.injEq] at h
   obtain ⟨rfl, rfl⟩ := h
   go_enter Try.func12, Try.ntmps12
   go_wp2_with fail
   refine (limb_Right.calls a0_0 A0_1 c0_1 l0_1 true _ (Kd.ZC HR.out _) HC.out HZ1.out).mono ?_
   rintro e w1 ⟨rfl, hb⟩
   have HB := Zb.mk hb
   clear hb
   go_wp2_with fail
   refine (base_may.calls a1 false _ HZ2.out).mono ?_
   rintro e w2 ⟨rfl, ⟨nd, rfl⟩⟩
   go_wp2_with fail
   go_ret2
   exact ⟨rfl, Za ((Zc (Below.refl _ _) _).trans (HB.out.mono (by simp))) _⟩
  | true =>
   simp only [if_true] at h
   replace h := Option.bind_eq_some_iff.mp h
   obtain ⟨q, hq, h⟩ := h
   replace h := Option.bind_eq_some_iff.mp h
   obtain ⟨s, hs, h⟩ := h
   simp only [Option.some.injEq, Prod.mk.injEq] at h
   obtain ⟨rfl, rfl⟩ := h
   obtain ⟨n2, m2⟩ := q
   have HZ3 := Zb.mk hq
   have HZ4 := Zb.mk hs
   clear hq hs
   go_enter Try.func12, Try.ntmps12
   go_wp2_with fail
   refine (limb_Right.calls a0_0 A0_1 c0_1 l0_1 true _ (Kd.ZC HR.out _) HC.out HZ1.out).mono ?_
   rintro e w1 ⟨rfl, hb⟩
   have hcx0 : w1.cell? ⟨w.heap.size, 0, none⟩ = some (.bool a0_0) := (hb.cell (by simp)).trans (Zk (blk_new w _) 0)
   have hcx1 : w1.cell? ⟨w.heap.size, 1, none⟩ = some (.slice A0_1 l0_1.length c0_1) := (hb.cell (by simp)).trans (Zk (blk_new w _) 1)
   have HR1 := Zb.mk (Kd.C_below (Kd.ZC HR.out _) hb)
   have HB := Zb.mk ((Zc (Below.refl w.heap.size w) _).trans (hb.mono (by simp)))
   clear hb
   go_wp2_with fail
   refine (base_may.calls a1 true _ HZ2.out).mono ?_
   rintro e w2 ⟨rfl, ⟨nd, rfl⟩⟩
   go_wp2_with fail
   refine (exact_Int.calls k a0_0 A0_1 c0_1 l0_1 n2 m2 _ (Kd.ZF HR1.out _) HC.out HZ3.out).mono ?_
   rintro e w3 ⟨g, rfl, hN⟩
   have HN := Zb.mk hN
   clear hN
   go_wp2_with fail
   refine (bIText.calls g k m2 a1 n2 s _ HN.out.big HZ4.out).mono ?_
   rintro e w4 ⟨rfl, hb4⟩
   have HB4 := Zb.mk hb4
   clear hb4
   go_wp2_with fail
   go_ret2
   exact ⟨rfl, (((Za HB.out nd)).trans (HN.out.below.mono HB.out.size)).trans (HB4.out.mono (Nat.le_trans HB.out.size HN.out.below.size))⟩
end Go.Proofs.Ytbmddlldadbfnaa.BA
end
section
namespace Go.Proofs.Ytbmddlldadbfnaa.BA
open Go.RowKit Go.Proofs.YtbmddlldadbfnaaW.PrintWords Go.Proofs.YtbmddlldadbfnaaW.PrintLast Go.Proofs.YtbmddlldadbfnaaW.PrintMore
attribute [local go_sem] ZU ZS max_two min_two ZP ZO ZT ZR
set_option linter.unusedVariables false
set_option linter.unusedSimpArgs false
def stepIter (W : World) (b : Nat) (s : ByteArray) (p : Nat) : World := { W with heap := W.heap.setIfInBounds b (.stringIter s p) }
theorem stepIter_at (W : World) (b : Nat) (s : ByteArray) (p : Nat) (h : b < W.heap.size) : (stepIter W b s p).heap[b]? = some (.stringIter s p) := by
 simp [stepIter, h]
theorem stepIter_size (W : World) (b : Nat) (s : ByteArray) (p : Nat) : (stepIter W b s p).heap.size = W.heap.size := by
 simp [stepIter]
theorem run_next_at {P : Program} (W : World) (b : Nat) (s : ByteArray) (pos : Nat) (ty : TypeId) (hb : W.heap[b]? = some (.stringIter s pos)) (h : pos < s.size) :
  (Instr.next (.pointer (some ⟨b, 0, none⟩)) true ty).run P W =
   .ok (.tuple #[.bool true, .int .i64 pos, .int .i32 (Utf8.decode s pos).1]) (stepIter W b s (pos + (Utf8.decode s pos).2)) := by
 simp only [Instr.next, getObj, setObj, Sem.run_bind, Sem.run, hb, Result.andThen, h, if_true]
 simp [goInt, stepIter]
theorem run_next_end_at {P : Program} (W : World) (b : Nat) (s : ByteArray) (pos : Nat) (ty : TypeId) (hb : W.heap[b]? = some (.stringIter s pos)) (h : ¬ pos < s.size) :
  (Instr.next (.pointer (some ⟨b, 0, none⟩)) true ty).run P W = .ok (.tuple #[.bool false]) W := by
 simp [Instr.next, getObj, Sem.run, hb, h]
theorem below_stepIter {B : Nat} {w W : World} (h : Below B w W) {b : Nat} (hb : B ≤ b) (s : ByteArray) (p : Nat) : Below B w (stepIter W b s p) :=
 h.trans ⟨rfl, rfl, rfl, by rw [stepIter_size]; exact Nat.le_refl _, fun k hk => by simp [stepIter, Array.getElem?_setIfInBounds]; omega⟩
def base_runeAt.l0 : Nat → ByteArray → Int → Nat → Option Int
 | 0, _, _, _ => none
 | k + 1, s, r, i => if i < s.size then (if bt s i < 128 then (if bt s i = r then some (i : Int) else base_runeAt.l0 k s r (i + 1)) else none) else some (-1)
def base_runeAt.f (k : Nat) (s : ByteArray) (r : Int) : Option Int := base_runeAt.l0 k s r 0
set_option maxHeartbeats 1000000 in
theorem base_runeAt.calls (k : Nat) (s : ByteArray) (r : Int) (res : Int) (w : World) (h : base_runeAt.f k s r = some res) :
  Calls Try.prog 83 #[.string s, .int .i32 r] w fun e w' => e = .returned (.int .i64 res) ∧ Below w.heap.size w w' := by
 have H' := Zb.mk h
 clear h
 go_enter Try.func83, Try.ntmps83
 go_wp2
 go_loopg [5] k (fun kq v5 w' => ∃ (pos : Nat), Zb (base_runeAt.l0 kq s r pos = some res) ∧ Zb (kq ≤ k) ∧ w' = w.iter s pos)
 case atStart => exact ⟨0, H', ⟨Nat.le_refl _⟩, rfl⟩
 case round =>
  clear H'
  obtain ⟨pos, HA, HK, rfl⟩ := hrel
  cases gk with
  | zero => exact absurd HA.out (by simp [base_runeAt.l0])
  | succ k1 =>
   have H := HA.out
   clear HA
   simp only [base_runeAt.l0] at H
   by_cases c1 : pos < s.size
   ·rw [if_pos c1] at H
    by_cases c2 : bt s pos < 128
    ·rw [if_pos c2] at H
     have hbt : bt s pos = ((s[pos]'c1).toNat : Int) := by unfold bt; rw [dif_pos (by simpa using c1)]; rfl
     have hdec := decode_ascii s pos c1 (by omega)
     have hnx : ∀ ty, (Instr.next (.pointer (some ⟨w.heap.size, 0, none⟩)) true ty).run Try.prog (w.iter s pos) = .ok (.tuple #[.bool true, .int .i64 pos, .int .i32 (bt s pos)]) (w.iter s (pos + 1)) := by
      intro ty
      have := run_next_any (P := Try.prog) w s pos ty c1
      rw [hdec] at this
      rw [hbt]
      exact this
     clear hbt hdec
     by_cases c3 : bt s pos = r
     ·rw [if_pos c3] at H
      obtain rfl := Option.some.inj H
      have c3b : (bt s pos == r) = true := beq_iff_eq.mpr c3
      clear c3 c1 c2
      go_wp2
      go_ret
      exact ⟨rfl, Zc (Below.refl _ _) _⟩
     ·rw [if_neg c3] at H
      have c3b : (bt s pos == r) = false := beq_eq_false_iff_ne.mpr c3
      have H' := Zb.mk H
      clear c3 H c1 c2
      go_wp2
      go_roundg k1
      case measure => have := HK.out; omega
      case rel => exact ⟨pos + 1, H', ⟨by have := HK.out; omega⟩, rfl⟩
    ·rw [if_neg c2] at H
     exact absurd H (by simp)
   ·rw [if_neg c1] at H
    obtain rfl := Option.some.inj H
    have hnx : ∀ ty, (Instr.next (.pointer (some ⟨w.heap.size, 0, none⟩)) true ty).run Try.prog (w.iter s pos) = _ := fun ty => run_next_end w s pos ty c1
    clear c1
    go_wp2
    go_ret
    exact ⟨rfl, Zc (Below.refl _ _) _⟩
def baseDigits (a1 : Int) : ByteArray := (⟨#[48, 49, 50, 51, 52, 53, 54, 55, 56, 57, 97, 98, 99, 100, 101, 102, 103, 104, 105, 106, 107, 108, 109, 110, 111, 112, 113, 114, 115, 116, 117, 118, 119, 120, 121, 122]⟩ : ByteArray).extract 0 a1.toNat
def base_wrong.l0 : Nat → ByteArray → Int → ByteArray → Int → Nat → Option Int
 | 0, _, _, _, _, _ => none
 | k + 1, s, a1, body, minus, pos => if pos < body.size then
   (base_runeAt.f k (baseDigits a1) ((Utf8.decode body pos).1 : Int)).bind fun n =>
    if n < 0 then some (wrap64 (minus + pos))
    else if n = 0 ∧ pos = 0 ∧ minus > 0 then some (wrap64 (minus + pos))
    else if pos = 1 ∧ bt body 0 = 48 then some (wrap64 (minus + pos))
    else base_wrong.l0 k s a1 body minus (pos + (Utf8.decode body pos).2)
   else if body.size = 0 then some (s.size : Int) else some (-1)
def base_wrong.f (k : Nat) (s : ByteArray) (a1 : Int) : Option Int :=
 if 0 ≤ a1 ∧ a1 ≤ 36 then (strings_TrimPrefix.f s (⟨#[45]⟩ : ByteArray)).bind fun body => base_wrong.l0 k s a1 body (wrap64 ((s.size : Int) - body.size)) 0 else none
set_option maxHeartbeats 2000000 in
theorem base_wrong.calls (k : Nat) (s : ByteArray) (a1 : Int) (res : Int) (w : World) (h : base_wrong.f k s a1 = some res) :
  Calls Try.prog 45 #[.string s, .int .i64 a1] w fun e w' => e = .returned (.int .i64 res) ∧ Below w.heap.size w w' := by
 unfold base_wrong.f at h
 split at h
 ·rename_i hc
  replace h := Option.bind_eq_some_iff.mp h
  obtain ⟨body, hbody, h⟩ := h
  have H' := Zb.mk h
  have HZ1 := Zb.mk hbody
  have hsl : ∀ W : World, (Instr.slice 9 (.string (⟨#[48, 49, 50, 51, 52, 53, 54, 55, 56, 57, 97, 98, 99, 100, 101, 102, 103, 104, 105, 106, 107, 108, 109, 110, 111, 112, 113, 114, 115, 116, 117, 118, 119, 120, 121, 122]⟩ : ByteArray)) none (some (.int .i64 a1)) none).run Try.prog W = .ok (.string (baseDigits a1)) W := by
   intro W
   obtain ⟨h0, h36⟩ := hc
   unfold baseDigits
   have q0 : decide (0 ≤ a1) = true := decide_eq_true h0
   have q1 : decide (a1 ≤ 36) = true := decide_eq_true h36
   go_simp
  clear hc h hbody
  go_enter Try.func45, Try.ntmps45
  go_wp2_with fail
  refine (strings_TrimPrefix.calls s (⟨#[45]⟩ : ByteArray) body _ HZ1.out).mono ?_
  rintro e w1 ⟨rfl, ⟨nd, rfl⟩⟩
  go_wp2_with fail
  generalize hm : wrap64 ((s.size : Int) - body.size) = m at H' ⊢
  clear hm
  go_loopg [7] k (fun kq v7 w' => ∃ (pos : Nat), Zb (base_wrong.l0 kq s a1 body m pos = some res) ∧ Zb (kq ≤ k) ∧ Zb (w'.heap[w.heap.size]? = some (.stringIter body pos)) ∧ Zb (Below w.heap.size w w'))
  case atStart => exact ⟨0, H', ⟨Nat.le_refl _⟩, ⟨World.iter_heap (w.drewN nd) body 0⟩, ⟨Zc (Za (Below.refl _ _) _) _⟩⟩
  case round =>
   clear H'
   obtain ⟨pos, HA, HK, HI, HB⟩ := hrel
   cases gk with
   | zero => exact absurd HA.out (by simp [base_wrong.l0])
   | succ k1 =>
    have H := HA.out
    clear HA
    simp only [base_wrong.l0] at H
    by_cases c1 : pos < body.size
    ·rw [if_pos c1] at H
     replace H := Option.bind_eq_some_iff.mp H
     obtain ⟨n, hn, H⟩ := H
     have HZ2 := Zb.mk hn
     clear hn
     have hnx : ∀ ty, (Instr.next (.pointer (some ⟨w.heap.size, 0, none⟩)) true ty).run Try.prog wr = _ := fun ty => run_next_at wr w.heap.size body pos ty HI.out c1
     have hx7 : ∀ h : 0 < body.size, ((body[0]'h).toNat : Int) = bt body 0 := bt_at body 0
     have qi7 : (0 < (body.size : Int)) = True := eq_true (by omega)
     have qi8 : (0 < body.size) = True := eq_true (by omega)
     clear c1
     by_cases d1 : n < 0
     ·rw [if_pos d1] at H
      have e1 : decide (n < 0) = true := decide_eq_true d1
      clear d1
      obtain rfl := Option.some.inj H
      clear H
      go_wp2_with (go_at_call 83; refine (base_runeAt.calls k1 (baseDigits a1) _ n _ HZ2.out).mono ?_; rintro e w2 ⟨rfl, hb2⟩; have HB2 := Zb.mk hb2; clear hb2)
      go_ret
      exact ⟨rfl, (below_stepIter HB.out (Nat.le_refl _) _ _).trans (HB2.out.mono (by rw [stepIter_size]; exact HB.out.size))⟩
     ·rw [if_neg d1] at H
      have e1 : decide (n < 0) = false := decide_eq_false d1
      clear d1
      by_cases d2 : n = 0
      ·have e2 : (n == 0) = true := beq_iff_eq.mpr d2
       by_cases d3 : pos = 0
       ·have e3 : ((pos : Int) == 0) = true := beq_iff_eq.mpr (by omega)
        have e3n : (pos == 0) = true := beq_iff_eq.mpr d3
        by_cases d4 : m > 0
        ·rw [if_pos ⟨d2, d3, d4⟩] at H
         have e4 : decide (0 < m) = true := decide_eq_true d4
         clear d2 d3 d4
         obtain rfl := Option.some.inj H
         clear H
         go_wp2_with (go_at_call 83; refine (base_runeAt.calls k1 (baseDigits a1) _ n _ HZ2.out).mono ?_; rintro e w2 ⟨rfl, hb2⟩; have HB2 := Zb.mk hb2; clear hb2)
         go_ret
         exact ⟨rfl, (below_stepIter HB.out (Nat.le_refl _) _ _).trans (HB2.out.mono (by rw [stepIter_size]; exact HB.out.size))⟩
        ·rw [if_neg (fun h_ => d4 h_.2.2), if_neg (fun h_ => by have := h_.1; omega)] at H
         have e4 : decide (0 < m) = false := decide_eq_false d4
         have e5 : ((pos : Int) == 1) = false := beq_eq_false_iff_ne.mpr (by omega)
         have e5n : (pos == 1) = false := beq_eq_false_iff_ne.mpr (by omega)
         clear d2 d3 d4
         have H' := Zb.mk H
         clear H
         go_wp2_with (go_at_call 83; refine (base_runeAt.calls k1 (baseDigits a1) _ n _ HZ2.out).mono ?_; rintro e w2 ⟨rfl, hb2⟩; have HB2 := Zb.mk hb2; clear hb2)
         go_roundg k1
         case measure => have := HK.out; omega
         case rel => exact ⟨pos + (Utf8.decode body pos).2, H', ⟨by have := HK.out; omega⟩, ⟨(HB2.out.block _ (by rw [stepIter_size]; exact Zw HI.out)).trans (stepIter_at _ _ _ _ (Zw HI.out))⟩, ⟨(below_stepIter HB.out (Nat.le_refl _) _ _).trans (HB2.out.mono (by rw [stepIter_size]; exact HB.out.size))⟩⟩
       ·have e3 : ((pos : Int) == 0) = false := beq_eq_false_iff_ne.mpr (by omega)
        have e3n : (pos == 0) = false := beq_eq_false_iff_ne.mpr d3
        rw [if_neg (fun h_ => d3 h_.2.1)] at H
        clear d2 d3
        by_cases d5 : pos = 1
        ·by_cases d6 : bt body 0 = 48
         ·rw [if_pos ⟨d5, d6⟩] at H
          have e5 : ((pos : Int) == 1) = true := beq_iff_eq.mpr (by omega)
          have e5n : (pos == 1) = true := beq_iff_eq.mpr d5
          have e6 : (bt body 0 == 48) = true := beq_iff_eq.mpr d6
          clear d5 d6
          obtain rfl := Option.some.inj H
          clear H
          go_wp2_with (go_at_call 83; refine (base_runeAt.calls k1 (baseDigits a1) _ n _ HZ2.out).mono ?_; rintro e w2 ⟨rfl, hb2⟩; have HB2 := Zb.mk hb2; clear hb2)
          go_ret
          exact ⟨rfl, (below_stepIter HB.out (Nat.le_refl _) _ _).trans (HB2.out.mono (by rw [stepIter_size]; exact HB.out.size))⟩
         ·rw [if_neg (fun h_ => d6 h_.2)] at H
          have e5 : ((pos : Int) == 1) = true := beq_iff_eq.mpr (by omega)
          have e5n : (pos == 1) = true := beq_iff_eq.mpr d5
          have e6 : (bt body 0 == 48) = false := beq_eq_false_iff_ne.mpr d6
          clear d5 d6
          have H' := Zb.mk H
          clear H
          go_wp2_with (go_at_call 83; refine (base_runeAt.calls k1 (baseDigits a1) _ n _ HZ2.out).mono ?_; rintro e w2 ⟨rfl, hb2⟩; have HB2 := Zb.mk hb2; clear hb2)
          go_roundg k1
          case measure => have := HK.out; omega
          case rel => exact ⟨pos + (Utf8.decode body pos).2, H', ⟨by have := HK.out; omega⟩, ⟨(HB2.out.block _ (by rw [stepIter_size]; exact Zw HI.out)).trans (stepIter_at _ _ _ _ (Zw HI.out))⟩, ⟨(below_stepIter HB.out (Nat.le_refl _) _ _).trans (HB2.out.mono (by rw [stepIter_size]; exact HB.out.size))⟩⟩
        ·rw [if_neg (fun h_ => d5 h_.1)] at H
         have e5 : ((pos : Int) == 1) = false := beq_eq_false_iff_ne.mpr (by omega)
         have e5n : (pos == 1) = false := beq_eq_false_iff_ne.mpr d5
         clear d5
         have H' := Zb.mk H
         clear H
         go_wp2_with (go_at_call 83; refine (base_runeAt.calls k1 (baseDigits a1) _ n _ HZ2.out).mono ?_; rintro e w2 ⟨rfl, hb2⟩; have HB2 := Zb.mk hb2; clear hb2)
         go_roundg k1
         case measure => have := HK.out; omega
         case rel => exact ⟨pos + (Utf8.decode body pos).2, H', ⟨by have := HK.out; omega⟩, ⟨(HB2.out.block _ (by rw [stepIter_size]; exact Zw HI.out)).trans (stepIter_at _ _ _ _ (Zw HI.out))⟩, ⟨(below_stepIter HB.out (Nat.le_refl _) _ _).trans (HB2.out.mono (by rw [stepIter_size]; exact HB.out.size))⟩⟩
      ·have e2 : (n == 0) = false := beq_eq_false_iff_ne.mpr d2
       rw [if_neg (fun h_ => d2 h_.1)] at H
       clear d2
       by_cases d5 : pos = 1
       ·by_cases d6 : bt body 0 = 48
        ·rw [if_pos ⟨d5, d6⟩] at H
         have e5 : ((pos : Int) == 1) = true := beq_iff_eq.mpr (by omega)
         have e5n : (pos == 1) = true := beq_iff_eq.mpr d5
         have e6 : (bt body 0 == 48) = true := beq_iff_eq.mpr d6
         clear d5 d6
         obtain rfl := Option.some.inj H
         clear H
         go_wp2_with (go_at_call 83; refine (base_runeAt.calls k1 (baseDigits a1) _ n _ HZ2.out).mono ?_; rintro e w2 ⟨rfl, hb2⟩; have HB2 := Zb.mk hb2; clear hb2)
         go_ret
         exact ⟨rfl, (below_stepIter HB.out (Nat.le_refl _) _ _).trans (HB2.out.mono (by rw [stepIter_size]; exact HB.out.size))⟩
        ·rw [if_neg (fun h_ => d6 h_.2)] at H
         have e5 : ((pos : Int) == 1) = true := beq_iff_eq.mpr (by omega)
         have e5n : (pos == 1) = true := beq_iff_eq.mpr d5
         have e6 : (bt body 0 == 48) = false := beq_eq_false_iff_ne.mpr d6
         clear d5 d6
         have H' := Zb.mk H
         clear H
         go_wp2_with (go_at_call 83; refine (base_runeAt.calls k1 (baseDigits a1) _ n _ HZ2.out).mono ?_; rintro e w2 ⟨rfl, hb2⟩; have HB2 := Zb.mk hb2; clear hb2)
         go_roundg k1
         case measure => have := HK.out; omega
         case rel => exact ⟨pos + (Utf8.decode body pos).2, H', ⟨by have := HK.out; omega⟩, ⟨(HB2.out.block _ (by rw [stepIter_size]; exact Zw HI.out)).trans (stepIter_at _ _ _ _ (Zw HI.out))⟩, ⟨(below_stepIter HB.out (Nat.le_refl _) _ _).trans (HB2.out.mono (by rw [stepIter_size]; exact HB.out.size))⟩⟩
       ·rw [if_neg (fun h_ => d5 h_.1)] at H
        have e5 : ((pos : Int) == 1) = false := beq_eq_false_iff_ne.mpr (by omega)
        have e5n : (pos == 1) = false := beq_eq_false_iff_ne.mpr d5
        clear d5
        have H' := Zb.mk H
        clear H
        go_wp2_with (go_at_call 83; refine (base_runeAt.calls k1 (baseDigits a1) _ n _ HZ2.out).mono ?_; rintro e w2 ⟨rfl, hb2⟩; have HB2 := Zb.mk hb2; clear hb2)
        go_roundg k1
        case measure => have := HK.out; omega
        case rel => exact ⟨pos + (Utf8.decode body pos).2, H', ⟨by have := HK.out; omega⟩, ⟨(HB2.out.block _ (by rw [stepIter_size]; exact Zw HI.out)).trans (stepIter_at _ _ _ _ (Zw HI.out))⟩, ⟨(below_stepIter HB.out (Nat.le_refl _) _ _).trans (HB2.out.mono (by rw [stepIter_size]; exact HB.out.size))⟩⟩
    ·rw [if_neg c1] at H
     have hnx : ∀ ty, (Instr.next (.pointer (some ⟨w.heap.size, 0, none⟩)) true ty).run Try.prog wr = _ := fun ty => run_next_end_at wr w.heap.size body pos ty HI.out c1
     clear c1
     by_cases d7 : body.size = 0
     ·rw [if_pos d7] at H
      obtain rfl := Option.some.inj H
      have e7 : body.toList = [] := by
       have h2 : body.toList.length = body.size := by rw [ByteArray.toList_eq]; rfl
       rw [d7] at h2
       exact List.eq_nil_of_length_eq_zero h2
      have e8 : (body.toList == ([] : List UInt8)) = true := beq_iff_eq.mpr e7
      clear d7 H e7
      go_wp2
      go_ret
      exact ⟨rfl, HB.out⟩
     ·rw [if_neg d7] at H
      obtain rfl := Option.some.inj H
      have e7 : ¬ body.toList = [] := by
       intro h_
       have h2 : body.toList.length = body.size := by rw [ByteArray.toList_eq]; rfl
       rw [h_] at h2
       exact d7 h2.symm
      have e8 : (body.toList == ([] : List UInt8)) = false := beq_eq_false_iff_ne.mpr e7
      have e9 : body.toList.isEmpty = false := by simpa using e7
      clear d7 H
      go_wp2
      go_ret
      exact ⟨rfl, HB.out⟩
 ·exact absurd h (by simp)
end Go.Proofs.Ytbmddlldadbfnaa.BA
end

/- Part of the proof that what is read twice of the text of a number of at most 40 limbs lies apart, spare room and all, and what is read a third time is what was read first. -/
import Derived.Laws.AppendOwnNone
import Derived.Test.YtbmddlldadbfnaaProg
import Derived.Below
import Derived.Deep.Draws
import Derived.Deep.AppendLies
import Derived.Maps.AppendAt
import Derived.OwnWalk
import Derived.Laws.BytesArg
import Derived.Laws.MakeOwn
import Derived.Laws.OwnMore
import Derived.Deep.OwnRows
import Derived.Tactics
import Derived.Lib.ConvBytes
import Derived.Laws.Slices
import Derived.WalkKit
import Derived.KernelRfl
import Derived.RowKit3
import Derived.Deep.LoopGhost
import Derived.Deep.QuietTactic
import Derived.BigQuiet
import Derived.WideLaws
import Derived.Deep.DeepCutAuto
import Derived.Deep.CutBlock
import Derived.Deep.RegionHeld3
import Derived.Laws.Rows
import Derived.Lib.AppendStr
import Derived.ArgAppend
import Derived.Laws.IdiomCopy
import Derived.OrdersHeld
import Derived.Laws.BitsLemmas
import Derived.RowKit
import Derived.Test.YtbmddlldadbfnaaCG12
section
namespace Go.Proofs.Ytbmddlldadbfnaa.BS
open Go.Proofs.Ytbmddlldadbfnaa.BM (w64 u64)
open Go.RowKit Go.Proofs.Ytbmddlldadbfnaa.BA Go.Proofs.Ytbmddlldadbfnaa.BB Go.Proofs.YtbmddlldadbfnaaW.PrintWords Go.Proofs.YtbmddlldadbfnaaW.PrintLast Go.Proofs.YtbmddlldadbfnaaW.PrintMore
attribute [local go_sem] ZU ZS max_two min_two ZP ZO ZT ZR
set_option linter.unusedVariables false
set_option linter.unusedSimpArgs false
structure Fr (S : Nat → Prop) (w w' : World) : Prop where
 os : w'.os = w.os
 tape : w'.tape = w.tape
 output : w'.output = w.output
 size : w.heap.size ≤ w'.heap.size
 block : ∀ k, k < w.heap.size → ¬ S k → w'.heap[k]? = w.heap[k]?
namespace Fr
variable {S T : Nat → Prop} {a w w' : World}
theorem of_below (S : Nat → Prop) (h : Below w.heap.size w w') : Fr S w w' := ⟨h.os, h.tape, h.output, h.size, fun k hk _ => h.block k hk⟩
theorem of_mv {O O' : Nat → Option Nat} (h : Mv (fun x => x ≠ none) O w O' w') : Fr (fun b => O b ≠ none) w w' := ⟨h.os, h.tape, h.output, h.size, fun k hk hS => h.block k hk hS⟩
theorem trans (h : Fr S a w) (k : Fr S w w') : Fr S a w' := ⟨k.os.trans h.os, k.tape.trans h.tape, k.output.trans h.output, Nat.le_trans h.size k.size, fun i hi hS => (k.block i (Nat.lt_of_lt_of_le hi h.size) hS).trans (h.block i hi hS)⟩
theorem mono (h : Fr S a w) (hS : ∀ x, x < a.heap.size → S x → T x) : Fr T a w := ⟨h.os, h.tape, h.output, h.size, fun k hk hn => h.block k hk (fun hs => hn (hS k hk hs))⟩
theorem below (h : Fr S a w) (k : Below w.heap.size w w') : Fr S a w' := h.trans (of_below S k)
theorem to_below {B : Nat} (h : Fr S a w) (hB : B ≤ a.heap.size) (hS : ∀ k, k < a.heap.size → S k → B ≤ k) : Below B a w := ⟨h.os, h.tape, h.output, h.size, fun k hk => h.block k (by omega) (fun hs => by have := hS k (by omega) hs; omega)⟩
end Fr
theorem Rw.of_block {E : El} {w w' : World} {O : Nat → Option Nat} {k n c : Nat} {v : Value} (h : Rw E w O k v n c 0) (hb : ∀ g, v.ownBlock = some g → w'.heap[g]? = w.heap[g]?) : Rw E w' O k v n c 0 := by
 rcases h with h | ⟨g, f, rfl, h0, h1, h2, h3, h4, h5, h6⟩
 ·exact .inl h
 ·exact .inr ⟨g, f, rfl, h0, h1, h2, h3, h4.of_block (hb g rfl), h5, fun i hi => absurd hi (by omega)⟩
theorem Rw.own_lt {E : El} {w : World} {O : Nat → Option Nat} {k n c m : Nat} {v : Value} (h : Rw E w O k v n c m) : ∀ g, v.ownBlock = some g → g < w.heap.size ∧ O g = some k := by
 intro g hg
 rcases h with ⟨rfl, _⟩ | ⟨g', f, rfl, h0, h1, h2, h3, h4, h5, h6⟩
 ·cases hg
 ·cases hg; exact ⟨h4.lt, h0⟩
theorem Hd.of_block {w w' : World} {O : Nat → Option Nat} {L : Nat} {p : Option Nat} {e : TypeId} {K c : Nat} {v : Nat → Value} (h : Hd w O L p e K c v) (hb : w'.heap[L]? = w.heap[L]?) : Hd w' O L p e K c v := by
 obtain ⟨h0, h1, f, h2, h3⟩ := h
 exact ⟨h0, h1, f, h2.of_block hb, h3⟩
set_option maxHeartbeats 16000000 in
set_option maxRecDepth 100000 in
theorem apart_calls {w : World} {B L cL L2 cL2 : Nat} (O O2 : Nat → Option Nat) (v v2 : Nat → Value) (n c n2 c2 : Nat → Nat) (hblk : w.heap[B]? = some (.cells (bagCells (.slice (some ⟨L, 0, none⟩) 2 cL) (.slice (some ⟨L2, 0, none⟩) 2 cL2)) 101 (0, 0)))
  (hL : Hd w O L none 22 2 cL v) (hr : Fam EL w O 2 v n c (fun _ => 0)) (hL2 : Hd w O2 L2 none 55 2 cL2 v2) (hr2 : Fam EW w O2 2 v2 n2 c2 (fun _ => 0)) (hn : ∀ j, j < 2 → n j ≤ 1000) (hn2 : ∀ j, j < 2 → n2 j ≤ 1000)
  (hB : O B = none) (hB2 : O2 B = none) (hLL : O L2 = none) (hv2 : ∀ j, j < 2 → ∀ g, (v2 j).ownBlock = some g → O g = none) :
  Calls Try.prog 65 #[.pointer (some ⟨B, 0, none⟩)] w fun e w' => e = .returned (.bool true) ∧ Fr (fun b => O b ≠ none ∨ O2 b ≠ none) w w' := by
 have hu101 := Try.underlying101
 have hc : w.cell? ⟨B, 0, none⟩ = some (.slice (some ⟨L, 0, none⟩) 2 cL) := (Zk hblk 0).trans rfl
 have HL := Zb.mk hL
 have HR := Zb.mk hr
 have HL2 := Zb.mk hL2
 have HR2 := Zb.mk hr2
 have HN := Zb.mk hn
 have HN2 := Zb.mk hn2
 have HBK := Zb.mk hblk
 have HV := Zb.mk hv2
 have HO := Zb.mk (And.intro hB (And.intro hB2 hLL))
 clear hblk hL hr hL2 hr2 hn hn2 hv2 hB hB2 hLL
 go_enter Try.func65, Try.ntmps65
 go_wp2_with fail
 refine (flatLimbs_calls L cL 2 v n c O w (by decide) HN.out HL.out HR.out).mono ?_
 rintro ev w96 ⟨rfl, O1, hm⟩
 have hfr : Fr (fun b => O b ≠ none ∨ O2 b ≠ none) w w96 := (Fr.of_mv hm).mono fun x _ h => .inl h
 have hbk := (hm.block B (Zw HBK.out) (by rw [HO.out.1]; exact fun h => h rfl)).trans HBK.out
 have hl2 := HL2.out.of_block (hm.block L2 HL2.out.lt (by rw [HO.out.2.2]; exact fun h => h rfl))
 have hr2 : Fam EW w96 O2 2 v2 n2 c2 (fun _ => 0) := fun j hj => (HR2.out j hj).of_block fun g hg => hm.block g ((HR2.out j hj).own_lt g hg).1 (by rw [HV.out j hj g hg]; exact fun h => h rfl)
 clear hm HL HR HL2 HR2 HBK HV hc
 have HF := Zb.mk hfr
 have HBK := Zb.mk hbk
 have HL2 := Zb.mk hl2
 have HR2 := Zb.mk hr2
 clear hfr hbk hl2 hr2
 have hc : w96.cell? ⟨B, 1, none⟩ = some (.slice none 0 0) := (Zk HBK.out 1).trans rfl
 go_wp2_with fail
 refine (flat97_calls w96).mono ?_
 rintro ev w97 ⟨rfl, hb⟩
 have hfr := HF.out.below hb
 have hbk := Zn HBK.out hb
 have hl2 := HL2.out.of_block (hb.block L2 HL2.out.lt)
 have hr2 : Fam EW w97 O2 2 v2 n2 c2 (fun _ => 0) := fun j hj => (HR2.out j hj).of_block fun g hg => hb.block g ((HR2.out j hj).own_lt g hg).1
 clear hb HL2 HR2 HF HBK hc
 have HL2 := Zb.mk hl2
 have HR2 := Zb.mk hr2
 clear hl2 hr2
 have HF := Zb.mk hfr
 have HBK := Zb.mk hbk
 clear hfr hbk
 have hc : w97.cell? ⟨B, 2, none⟩ = some (.slice none 0 0) := (Zk HBK.out 2).trans rfl
 go_wp2_with fail
 refine (flat98_calls w97).mono ?_
 rintro ev w98 ⟨rfl, hb⟩
 have hfr := HF.out.below hb
 have hbk := Zn HBK.out hb
 have hl2 := HL2.out.of_block (hb.block L2 HL2.out.lt)
 have hr2 : Fam EW w98 O2 2 v2 n2 c2 (fun _ => 0) := fun j hj => (HR2.out j hj).of_block fun g hg => hb.block g ((HR2.out j hj).own_lt g hg).1
 clear hb HL2 HR2 HF HBK hc
 have HL2 := Zb.mk hl2
 have HR2 := Zb.mk hr2
 clear hl2 hr2
 have HF := Zb.mk hfr
 have HBK := Zb.mk hbk
 clear hfr hbk
 have hc : w98.cell? ⟨B, 3, none⟩ = some (.slice none 0 0) := (Zk HBK.out 3).trans rfl
 go_wp2_with fail
 refine (flat99_calls w98).mono ?_
 rintro ev w99 ⟨rfl, hb⟩
 have hfr := HF.out.below hb
 have hbk := Zn HBK.out hb
 have hl2 := HL2.out.of_block (hb.block L2 HL2.out.lt)
 have hr2 : Fam EW w99 O2 2 v2 n2 c2 (fun _ => 0) := fun j hj => (HR2.out j hj).of_block fun g hg => hb.block g ((HR2.out j hj).own_lt g hg).1
 clear hb HL2 HR2 HF HBK hc
 have HL2 := Zb.mk hl2
 have HR2 := Zb.mk hr2
 clear hl2 hr2
 have HF := Zb.mk hfr
 have HBK := Zb.mk hbk
 clear hfr hbk
 have hc : w99.cell? ⟨B, 4, none⟩ = some (.slice none 0 0) := (Zk HBK.out 4).trans rfl
 go_wp2_with fail
 refine (flat100_calls w99).mono ?_
 rintro ev w100 ⟨rfl, hb⟩
 have hfr := HF.out.below hb
 have hbk := Zn HBK.out hb
 have hl2 := HL2.out.of_block (hb.block L2 HL2.out.lt)
 have hr2 : Fam EW w100 O2 2 v2 n2 c2 (fun _ => 0) := fun j hj => (HR2.out j hj).of_block fun g hg => hb.block g ((HR2.out j hj).own_lt g hg).1
 clear hb HL2 HR2 HF HBK hc
 have HL2 := Zb.mk hl2
 have HR2 := Zb.mk hr2
 clear hl2 hr2
 have HF := Zb.mk hfr
 have HBK := Zb.mk hbk
 clear hfr hbk
 have hc : w100.cell? ⟨B, 5, none⟩ = some (.slice none 0 0) := (Zk HBK.out 5).trans rfl
 go_wp2_with fail
 refine (flat101_calls w100).mono ?_
 rintro ev w101 ⟨rfl, hb⟩
 have hfr := HF.out.below hb
 have hbk := Zn HBK.out hb
 have hl2 := HL2.out.of_block (hb.block L2 HL2.out.lt)
 have hr2 : Fam EW w101 O2 2 v2 n2 c2 (fun _ => 0) := fun j hj => (HR2.out j hj).of_block fun g hg => hb.block g ((HR2.out j hj).own_lt g hg).1
 clear hb HL2 HR2 HF HBK hc
 have HL2 := Zb.mk hl2
 have HR2 := Zb.mk hr2
 clear hl2 hr2
 have HF := Zb.mk hfr
 have HBK := Zb.mk hbk
 clear hfr hbk
 have hc : w101.cell? ⟨B, 6, none⟩ = some (.slice none 0 0) := (Zk HBK.out 6).trans rfl
 go_wp2_with fail
 refine (flat102_calls w101).mono ?_
 rintro ev w102 ⟨rfl, hb⟩
 have hfr := HF.out.below hb
 have hbk := Zn HBK.out hb
 have hl2 := HL2.out.of_block (hb.block L2 HL2.out.lt)
 have hr2 : Fam EW w102 O2 2 v2 n2 c2 (fun _ => 0) := fun j hj => (HR2.out j hj).of_block fun g hg => hb.block g ((HR2.out j hj).own_lt g hg).1
 clear hb HL2 HR2 HF HBK hc
 have HL2 := Zb.mk hl2
 have HR2 := Zb.mk hr2
 clear hl2 hr2
 have HF := Zb.mk hfr
 have HBK := Zb.mk hbk
 clear hfr hbk
 have hc : w102.cell? ⟨B, 7, none⟩ = some (.slice (some ⟨L2, 0, none⟩) 2 cL2) := (Zk HBK.out 7).trans rfl
 go_wp2_with fail
 refine (flatWholes_calls L2 cL2 2 v2 n2 c2 O2 w102 (by decide) HN2.out HL2.out HR2.out).mono ?_
 rintro ev w103 ⟨rfl, O3, hm⟩
 have hfr : Fr (fun b => O b ≠ none ∨ O2 b ≠ none) w w103 := HF.out.trans ((Fr.of_mv hm).mono fun x _ h => .inr h)
 have hbk := (hm.block B (Zw HBK.out) (by rw [HO.out.2.1]; exact fun h => h rfl)).trans HBK.out
 clear hm HL2 HR2 HF HBK hc
 have HF := Zb.mk hfr
 have HBK := Zb.mk hbk
 clear hfr hbk
 have hc : w103.cell? ⟨B, 8, none⟩ = some (.slice none 0 0) := (Zk HBK.out 8).trans rfl
 go_wp2_with fail
 refine (flat104_calls w103).mono ?_
 rintro ev w104 ⟨rfl, hb⟩
 have hfr := HF.out.below hb
 have hbk := Zn HBK.out hb
 clear hb HF HBK hc
 have HF := Zb.mk hfr
 have HBK := Zb.mk hbk
 clear hfr hbk
 have hc : w104.cell? ⟨B, 9, none⟩ = some (.slice none 0 0) := (Zk HBK.out 9).trans rfl
 go_wp2_with fail
 refine (flat105_calls w104).mono ?_
 rintro ev w105 ⟨rfl, hb⟩
 have hfr := HF.out.below hb
 have hbk := Zn HBK.out hb
 clear hb HF HBK hc
 have HF := Zb.mk hfr
 have HBK := Zb.mk hbk
 clear hfr hbk
 have hc : w105.cell? ⟨B, 10, none⟩ = some (.slice none 0 0) := (Zk HBK.out 10).trans rfl
 go_wp2_with fail
 refine (flat106_calls w105).mono ?_
 rintro ev w106 ⟨rfl, hb⟩
 have hfr := HF.out.below hb
 have hbk := Zn HBK.out hb
 clear hb HF HBK hc
 have HF := Zb.mk hfr
 have HBK := Zb.mk hbk
 clear hfr hbk
 have hc : w106.cell? ⟨B, 11, none⟩ = some (.slice none 0 0) := (Zk HBK.out 11).trans rfl
 go_wp2_with fail
 refine (flat107_calls w106).mono ?_
 rintro ev w107 ⟨rfl, hb⟩
 have hfr := HF.out.below hb
 have hbk := Zn HBK.out hb
 clear hb HF HBK hc
 have HF := Zb.mk hfr
 have HBK := Zb.mk hbk
 clear hfr hbk
 have hc : w107.cell? ⟨B, 12, none⟩ = some (.slice none 0 0) := (Zk HBK.out 12).trans rfl
 go_wp2_with fail
 refine (flat108_calls w107).mono ?_
 rintro ev w108 ⟨rfl, hb⟩
 have hfr := HF.out.below hb
 have hbk := Zn HBK.out hb
 clear hb HF HBK hc
 have HF := Zb.mk hfr
 have HBK := Zb.mk hbk
 clear hfr hbk
 have hc : w108.cell? ⟨B, 13, none⟩ = some (.slice none 0 0) := (Zk HBK.out 13).trans rfl
 go_wp2_with fail
 refine (flat109_calls w108).mono ?_
 rintro ev w109 ⟨rfl, hb⟩
 have hfr := HF.out.below hb
 have hbk := Zn HBK.out hb
 clear hb HF HBK hc
 have HF := Zb.mk hfr
 have HBK := Zb.mk hbk
 clear hfr hbk
 go_wp2_with fail
 go_ret
 exact ⟨rfl, HF.out⟩
end Go.Proofs.Ytbmddlldadbfnaa.BS
end
section
namespace Go.Proofs.Ytbmddlldadbfnaa.BS
open Go.Proofs.Ytbmddlldadbfnaa.BM (w64 u64)
open Go.RowKit Go.Proofs.Ytbmddlldadbfnaa.BA Go.Proofs.Ytbmddlldadbfnaa.BB Go.Proofs.YtbmddlldadbfnaaW.PrintWords Go.Proofs.YtbmddlldadbfnaaW.PrintLast Go.Proofs.YtbmddlldadbfnaaW.PrintMore
attribute [local go_sem] ZU ZS max_two min_two ZP ZO ZT ZR
set_option linter.unusedVariables false
set_option linter.unusedSimpArgs false
def two {α : Type} (a b : α) : Nat → α := fun j => if j = 0 then a else b
theorem owns_hd {w : World} {base : Nat} {e : TypeId} {lv a b : Value} (h : w.ownsRow base e 1 lv 2 [a, b]) : ∃ L c, lv = .slice (some ⟨L, 0, none⟩) 2 c ∧ base ≤ L ∧ ∀ O : Nat → Option Nat, O L = none → Hd w O L none e 2 c (two a b) := by
 rcases h.2 with ⟨_, h2⟩ | ⟨g, cap, cur, rfl, h3, h4, h5, h6, h7, h8⟩
 ·cases h2
 ·refine ⟨g, cap, rfl, h3, fun O hO => ⟨hO, h5, fun x => cur[x]?.getD default, ⟨cur, h4, by rw [h7, Nat.mul_one], fun i hi => ?_⟩, fun j hj => ?_⟩⟩
  ·show cur[i]? = some (cur[i]?.getD default)
   rw [Array.getElem?_eq_getElem (by rw [h7, Nat.mul_one]; exact hi)]; rfl
  ·have hx : cur[j]? = [a, b][j]? := by rw [← h8, List.getElem?_take_of_lt (by omega), Array.getElem?_toList]
   show cur[j]?.getD default = two a b j
   rw [hx]
   have : j = 0 ∨ j = 1 := by omega
   rcases this with rfl | rfl <;> rfl
set_option maxHeartbeats 8000000 in
set_option maxRecDepth 100000 in
theorem ApartWholes_calls {w : World} {H R0 R1 : Nat} {g0 g1 : Bool} {A0 A1 : Option Addr} {n0 c0 n1 c1 : Nat} (O : Nat → Option Nat) (hh : w.heap[H]? = some (.cells #[.slice (some ⟨R0, 0, none⟩) 1 1, .slice (some ⟨R1, 0, none⟩) 1 1] 55 (0, 0)))
  (h0 : w.heap[R0]? = some (.cells #[.bool g0, .slice A0 n0 c0] 24 (0, 0))) (h1 : w.heap[R1]? = some (.cells #[.bool g1, .slice A1 n1 c1] 24 (0, 0)))
  (hr0 : Rw EL w O 0 (.slice A0 n0 c0) n0 c0 0) (hr1 : Rw EL w O 1 (.slice A1 n1 c1) n1 c1 0) (hn0 : n0 ≤ 1000) (hn1 : n1 ≤ 1000) (hO0 : O R0 = none) (hO1 : O R1 = none) (h01 : R0 ≠ R1) :
  Calls Try.prog 30 #[.slice (some ⟨H, 0, none⟩) 2 2] w fun e w' => e = .returned (.bool true) ∧ Fr (fun b => O b ≠ none ∨ b = R0 ∨ b = R1) w w' := by
 have hu101 := Try.underlying101
 have HH := Zb.mk hh
 have H0 := Zb.mk h0
 have H1 := Zb.mk h1
 have HR0 := Zb.mk hr0
 have HR1 := Zb.mk hr1
 have HN := Zb.mk (And.intro hn0 hn1)
 have HO := Zb.mk (And.intro hO0 (And.intro hO1 h01))
 clear hh h0 h1 hr0 hr1 hn0 hn1 hO0 hO1 h01
 go_enter Try.func30, Try.ntmps30
 go_wp2_with fail
 have hbag : BagIs (w.alloc (.cells (bagCells (.slice none 0 0) (.slice none 0 0)) 101)) w.heap.size w.heap.size (.slice none 0 0) (.slice none 0 0) [] [] := ⟨blk_new w _, Nat.le_refl _, World.ownsRow_nil _ _ _ _, World.ownsRow_nil _ _ _ _⟩
 have HBG := Zb.mk hbag
 clear hbag
 go_loopg [4] 3 (fun kq v4 w2 => ∃ (k : Nat) (lv wv : Value), (k + kq = 3 ∧ k ≤ 2) ∧ v4 = .int .i64 (k : Int) ∧ Zb (BagIs w2 w.heap.size w.heap.size lv wv ([Value.slice A0 n0 c0, .slice A1 n1 c1].take k) ([Value.slice (some ⟨R0, 0, none⟩) 1 1, .slice (some ⟨R1, 0, none⟩) 1 1].take k)) ∧ Zb (Below w.heap.size w w2))
 case atStart => exact ⟨0, _, _, ⟨rfl, by decide⟩, rfl, HBG, ⟨Zc (Below.refl _ _) _⟩⟩
 case round =>
  clear HBG
  obtain ⟨k, lv, wv, hk, rfl, HBG, HBL⟩ := hrel
  have hwr := HBL.out.size
  have hhr := (HBL.out.block H (Zw HH.out)).trans HH.out
  cases gk with
  | zero => exact absurd hk (by omega)
  | succ k1 =>
   have hk3 : k = 0 ∨ k = 1 ∨ k = 2 := by omega
   rcases hk3 with rfl | rfl | rfl
   ·have hx : wr.cell? ⟨H, 0, none⟩ = some (.slice (some ⟨R0, 0, none⟩) 1 1) := (Zk hhr 0).trans rfl
    have e1 : wrap64 ((0 : Int) + 1) = 1 := w64 (by decide) (by decide)
    go_wp2_with fail
    refine (putWholes_calls (R := R0) (ng := g0) (A := A0) (n := n0) (c := c0) HBG.out hwr (by simp) (by simp) (Zw H0.out) ((HBL.out.block R0 (Zw H0.out)).trans H0.out)).mono ?_
    rintro ev w5 ⟨rfl, lv', wv', hb5, hbel⟩
    have HP := Zb.mk hb5
    have HQ := Zb.mk (HBL.out.trans hbel)
    clear hb5 hbel
    go_wp2_with fail
    go_roundg k1
    case measure => omega
    case rel => exact ⟨1, lv', wv', ⟨by omega, by decide⟩, by first | rfl | exact congrArg (Value.int .i64) e1, HP, HQ⟩
   ·have hx : wr.cell? ⟨H, 1, none⟩ = some (.slice (some ⟨R1, 0, none⟩) 1 1) := (Zk hhr 1).trans rfl
    have e1 : wrap64 ((1 : Int) + 1) = 2 := w64 (by decide) (by decide)
    go_wp2_with fail
    refine (putWholes_calls (R := R1) (ng := g1) (A := A1) (n := n1) (c := c1) HBG.out hwr (by simp) (by simp) (Zw H1.out) ((HBL.out.block R1 (Zw H1.out)).trans H1.out)).mono ?_
    rintro ev w5 ⟨rfl, lv', wv', hb5, hbel⟩
    have HP := Zb.mk hb5
    have HQ := Zb.mk (HBL.out.trans hbel)
    clear hb5 hbel
    go_wp2_with fail
    go_roundg k1
    case measure => omega
    case rel => exact ⟨2, lv', wv', ⟨by omega, by decide⟩, by first | rfl | exact congrArg (Value.int .i64) e1, HP, HQ⟩
   ·obtain ⟨L, cL, rfl, hL1, hL2⟩ := owns_hd HBG.out.lim
    obtain ⟨M, cM, rfl, hM1, hM2⟩ := owns_hd HBG.out.who
    have hlt0 := Zw H0.out
    have hlt1 := Zw H1.out
    have q0 : wr.heap[R0]? = some (.cells #[.bool g0, .slice A0 n0 c0] 24 (0, 0)) := (HBL.out.block R0 hlt0).trans H0.out
    have q1 : wr.heap[R1]? = some (.cells #[.bool g1, .slice A1 n1 c1] 24 (0, 0)) := (HBL.out.block R1 hlt1).trans H1.out
    have hmv := mv_new (O := O) HBL.out none
    have hw0 := HR0.out.mv hmv (fun h => h) (fun h => h)
    have hw1 := HR1.out.mv hmv (fun h => h) (fun h => h)
    have hO2 : ∀ b, w.heap.size ≤ b → (fun b => if b = R0 then some 0 else if b = R1 then some 1 else none : Nat → Option Nat) b = none := fun b hb => by
     show (if b = R0 then some 0 else if b = R1 then some 1 else none : Option Nat) = none
     rw [if_neg (by omega), if_neg (by omega)]
    have hfm : Fam EL wr (own O w.heap.size none) 2 (two (.slice A0 n0 c0) (.slice A1 n1 c1)) (two n0 n1) (two c0 c1) (fun _ => 0) := by
     intro j hj
     have : j = 0 ∨ j = 1 := by omega
     rcases this with rfl | rfl
     ·exact hw0
     ·exact hw1
    have hfw : Fam EW wr (fun b => if b = R0 then some 0 else if b = R1 then some 1 else none) 2 (two (.slice (some ⟨R0, 0, none⟩) 1 1) (.slice (some ⟨R1, 0, none⟩) 1 1)) (two 1 1) (two 1 1) (fun _ => 0) := by
     intro j hj
     have : j = 0 ∨ j = 1 := by omega
     rcases this with rfl | rfl
     ·exact .inr ⟨R0, two (.bool g0) (.slice A0 n0 c0), rfl, if_pos rfl, Nat.le_refl _, by decide, Nat.zero_le _, ⟨_, q0, rfl, fun i hi => by have : i = 0 ∨ i = 1 := (by have : i < 2 := hi; omega); rcases this with rfl | rfl <;> rfl⟩, fun i hi => by have : i = 0 ∨ i = 1 := (by have : i < 2 := hi; omega); rcases this with rfl | rfl <;> rfl, fun i hi => absurd hi (Nat.not_lt_zero _)⟩
     ·exact .inr ⟨R1, two (.bool g1) (.slice A1 n1 c1), rfl, (if_neg (fun h => HO.out.2.2 h.symm)).trans (if_pos rfl), Nat.le_refl _, by decide, Nat.zero_le _, ⟨_, q1, rfl, fun i hi => by have : i = 0 ∨ i = 1 := (by have : i < 2 := hi; omega); rcases this with rfl | rfl <;> rfl⟩, fun i hi => by have : i = 0 ∨ i = 1 := (by have : i < 2 := hi; omega); rcases this with rfl | rfl <;> rfl, fun i hi => absurd hi (Nat.not_lt_zero _)⟩
    have hap := apart_calls (own O w.heap.size none) (fun b => if b = R0 then some 0 else if b = R1 then some 1 else none) _ _ _ _ _ _ HBG.out.blk (hL2 _ (own_ge hL1)) hfm (hM2 _ (hO2 M hM1)) hfw
     (fun j hj => by have : j = 0 ∨ j = 1 := (by omega); rcases this with rfl | rfl; exact HN.out.1; exact HN.out.2) (fun j hj => by have : j = 0 ∨ j = 1 := (by omega); rcases this with rfl | rfl <;> decide)
     (own_ge (Nat.le_refl _)) (hO2 _ (Nat.le_refl _)) (own_ge hM1)
     (fun j hj g hg => by
      have : j = 0 ∨ j = 1 := by omega
      rcases this with rfl | rfl
      ·cases hg; exact (own_lt hlt0).trans HO.out.1
      ·cases hg; exact (own_lt hlt1).trans HO.out.2.1)
    have HAP := Zb.mk hap
    clear hL2 hM2 hw0 hw1 hfm hfw hap hO2 q0 q1
    go_wp2_with fail
    refine HAP.out.mono ?_
    rintro ev w9 ⟨rfl, hfr⟩
    have HF := Zb.mk hfr
    clear hfr
    go_wp2_with fail
    go_ret
    refine ⟨rfl, (Fr.of_below _ HBL.out).trans (HF.out.mono fun x _ hx => ?_)⟩
    rcases hx with hx | hx
    ·by_cases hxb : x < w.heap.size
     ·rw [own_lt hxb] at hx; exact .inl hx
     ·exact absurd (own_ge (by omega)) hx
    ·by_cases e0 : x = R0
     ·exact .inr (.inl e0)
     ·by_cases e1 : x = R1
      ·exact .inr (.inr e1)
      ·exact absurd ((if_neg e0).trans (if_neg e1)) hx
end Go.Proofs.Ytbmddlldadbfnaa.BS
end
section
namespace Go.Proofs.Ytbmddlldadbfnaa.BS
open Go.Proofs.Ytbmddlldadbfnaa.BM (w64 u64)
open Go.RowKit Go.Proofs.Ytbmddlldadbfnaa.BA Go.Proofs.Ytbmddlldadbfnaa.BB Go.Proofs.YtbmddlldadbfnaaW.PrintWords Go.Proofs.YtbmddlldadbfnaaW.PrintLast Go.Proofs.YtbmddlldadbfnaaW.PrintMore
open Go.Proofs.Ytbmddlldadbfnaa.BP (own_C)
attribute [local go_sem] ZU ZS max_two min_two ZP ZO ZT ZR
set_option linter.unusedVariables false
set_option linter.unusedSimpArgs false
theorem C_none (w : World) : Kd.C (Kd.int .u64) w none 0 [] := Kd.C_of_reads (d := (0 : Int)) (h1 := fun _ => rfl) ⟨rfl, by decide, fun h => absurd h (by decide)⟩
theorem owns_reads {w : World} {base : Nat} {v : Value} {l : List Int} (h : w.ownsRow base 46 1 v l.length (BP.nums l)) (hm : l.length ≤ 1000000) : ∃ A c, v = .slice A l.length c ∧ l.length ≤ c ∧ Kd.C (Kd.int .u64) w A l.length l ∧ ∀ g, v.ownBlock = some g → base ≤ g := by
 have h' := h
 rcases h.2 with ⟨rfl, h2⟩ | ⟨g, cap, cur, rfl, h3, h4, h5, h6, h7, h8⟩
 ·obtain rfl := List.eq_nil_of_length_eq_zero h2
  exact ⟨none, 0, rfl, Nat.le_refl _, C_none w, fun g hg => by cases hg⟩
 ·exact ⟨_, cap, rfl, h5, own_C h' rfl (by omega), fun g' hg => by cases hg; exact h3⟩
set_option maxHeartbeats 4000000 in
set_option maxRecDepth 100000 in
theorem CopyLimbs_calls {A : Option Addr} {c : Nat} {l : List Int} {w : World} (hC : Kd.C (Kd.int .u64) w A l.length l) (hA : A = none → l = [] ∧ c = 0) (hl : l.length ≤ 1000) :
  Calls Try.prog 63 #[.slice A l.length c] w fun e w' => ∃ A' c', e = .returned (.slice A' l.length c') ∧ l.length ≤ c' ∧ Kd.C (Kd.int .u64) w' A' l.length l ∧ (∀ g, (Value.slice A' l.length c').ownBlock = some g → w.heap.size ≤ g) ∧ Below w.heap.size w w' := by
 obtain ⟨i0, hi0, hz0, hsz0, hby0⟩ := info_parts BB.info46
 have HC := Zb.mk hC
 clear hC
 go_enter Try.func63, Try.ntmps63
 cases A with
 | none =>
  obtain ⟨rfl, rfl⟩ := hA rfl
  go_wp2_with ((with_reducible refine gate_builtin (b := .append) (xs := #[.tmp 4, .tmp 5]) rfl ?_); at_builtin; refine wpList_append_own_none rfl _ _ 22 rfl w.heap.size 46 i0 1 Try.underlying22 hi0 (.slice none 0 0) 0 [] rfl (World.ownsRow_nil _ _ _ _) rfl ?_)
  go_ret
  exact ⟨none, 0, rfl, C_none w, fun g hg => (by cases hg), Below.refl _ _⟩
 | some ad =>
  have hnews : ∀ j u, (BP.nums l)[j]? = some u → w.cell? (ad.add j) = some u := by
   intro j u hj
   have hjl : j < l.length := by
    rcases Nat.lt_or_ge j l.length with h | h
    ·exact h
    ·simp [BP.nums, List.getElem?_eq_none h] at hj
   obtain ⟨_, _, hc⟩ := Kd.reads_of_C (d := (0 : Int)) HC.out
   obtain ⟨ad', had, hd⟩ := hc (Nat.lt_of_le_of_lt (Nat.zero_le _) hjl)
   cases had
   have h3 : u = .int .u64 (l.getD j 0) := by simp [BP.nums, hjl] at hj; rw [← hj]; simp [List.getD_eq_getElem?_getD, hjl]
   rw [h3]
   exact hd j hjl
  go_wp2_with ((with_reducible refine gate_builtin (b := .append) (xs := #[.tmp 4, .tmp 5]) rfl ?_); at_builtin; refine wpList_append_own _ rfl _ _ 22 rfl w.heap.size 46 i0 (.int .u64 0) 1 8 Try.underlying22 hi0 hz0 hsz0 hby0 rfl Nat.one_pos (.slice none 0 0) 0 [] rfl (World.ownsRow_nil _ _ _ _) ad l.length c (BP.nums l) rfl (by simp [BP.nums]) hnews (fun u hu => ?s2) ?s3 ?s4 (Nat.le_refl _) ?_)
  case s2 => obtain ⟨x, _, rfl⟩ := List.mem_map.1 hu; rfl
  case s3 => simp only [maxLen]; omega
  case s4 => omega
  intro v' w' hown hg _
  try rw [Nat.zero_add] at hown
  try rw [List.nil_append] at hown
  obtain ⟨A', c', rfl, h1, h2, h3⟩ := owns_reads hown (by omega)
  have HB := Zb.mk ((Below.refl w.heap.size w).grown hg (Nat.le_refl _) (fun k hk => by cases hk))
  have H2 := Zb.mk h2
  have H3 := Zb.mk h3
  clear hown hg h2 h3
  go_wp2_with fail
  go_ret
  exact ⟨A', c', rfl, h1, H2.out, H3.out, HB.out⟩
theorem C_set_ {w : World} {A : Option Addr} {n : Nat} {xs : List Int} (h : Kd.C (Kd.int .u64) w A n xs) {p : Addr} (hp : ∀ g, A = some g → g.block ≠ p.block) (u : Value) : Kd.C (Kd.int .u64) (w.setCell p u) A n xs := by
 cases A with
 | some ad => exact BP.C_set h (hp ad rfl) u
 | none =>
  obtain ⟨h1, h2, h3⟩ := Kd.reads_of_C (d := (0 : Int)) h
  exact Kd.C_of_reads (d := (0 : Int)) (h1 := fun _ => rfl) ⟨h1, h2, fun hn => by obtain ⟨_, h4, _⟩ := h3 hn; cases h4⟩
theorem two_boxes_ {w w1 : World} {o1 o2 : Obj} (hb : Below ((w.alloc o1).alloc o2).heap.size ((w.alloc o1).alloc o2) w1) : w1.heap[w.heap.size]? = some o1 ∧ w1.heap[w.heap.size + 1]? = some o2 ∧ Below w.heap.size w w1 := by
 have h2 := Zn (blk_new (w.alloc o1) o2) hb
 rw [show (w.alloc o1).heap.size = w.heap.size + 1 by simp] at h2
 exact ⟨Zn (Zf (blk_new w o1) o2) hb, h2, (Zc (Zc (Below.refl w.heap.size w) _) _).trans (hb.mono (by simp; omega))⟩
set_option maxHeartbeats 4000000 in
set_option maxRecDepth 100000 in
theorem CopyInt_calls {n : Bool} {A : Option Addr} {c : Nat} {l : List Int} {w : World} (hC : Kd.C (Kd.int .u64) w A l.length l) (hA : A = none → l = [] ∧ c = 0) (hl : l.length ≤ 1000) :
  Calls Try.prog 29 #[.agg #[.bool n, .slice A l.length c]] w fun e w' => ∃ A' c', e = .returned (.agg #[.bool n, .slice A' l.length c']) ∧ l.length ≤ c' ∧ Kd.C (Kd.int .u64) w' A' l.length l ∧ (∀ g, (Value.slice A' l.length c').ownBlock = some g → w.heap.size ≤ g) ∧ Below w.heap.size w w' := by
 have hu24 := Try.underlying24
 have HC := Zb.mk hC
 clear hC
 go_enter Try.func29, Try.ntmps29
 go_wp2_with fail
 refine (CopyLimbs_calls (Kd.ZC (Kd.ZC HC.out _) _) hA hl).mono ?_
 rintro ev w5 ⟨A', c', rfl, h1, h2, h3, hb⟩
 obtain ⟨k0, k1, hB⟩ := two_boxes_ hb
 have h2s : ∀ g, A' = some g → g.block ≠ w.heap.size ∧ g.block ≠ w.heap.size + 1 := fun g hg => by
  have := h3 g.block (by rw [hg]; rfl)
  rw [show ((w.alloc (.cells #[.bool n, .slice A l.length c] 24)).alloc (.cells #[.bool false, .slice none 0 0] 24)).heap.size = w.heap.size + 2 by simp] at this
  omega
 have x0 : w5.cell? ⟨w.heap.size, 0, none⟩ = some (.bool n) := (Zk k0 0).trans rfl
 have x1 : w5.cell? ⟨w.heap.size, 1, none⟩ = some (.slice A l.length c) := (Zk k0 1).trans rfl
 have y0 : w5.cell? ⟨w.heap.size + 1, 0, none⟩ = some (.bool false) := (Zk k1 0).trans rfl
 have y1 : w5.cell? ⟨w.heap.size + 1, 1, none⟩ = some (.slice none 0 0) := (Zk k1 1).trans rfl
 have f0 := Zj k0 1
 have f1 := Zj k1 0
 have f2 := Zj k1 1
 have H1 := Zb.mk h1
 have H2 := Zb.mk h2
 have H3 := Zb.mk h3
 have HS := Zb.mk h2s
 have HB := Zb.mk hB
 have K0 := Zb.mk k0
 have K1 := Zb.mk k1
 clear h1 h2 h3 h2s hB hb k0 k1
 go_wp2_with fail
 refine bodyPost_ret (results_cell_row rfl _ _ (w.heap.size + 1) 24 #[.bool n, .slice A' l.length c'] (0, 0) _ rfl (Zu (Zu (Zr K1.out (Nat.succ_ne_self _) _) 0 _ rfl) 1 _ rfl) Try.underlying24 rfl (by kernel_rfl)) rfl ?_
 exact ⟨A', c', rfl, H1.out, C_set_ (C_set_ (C_set_ H2.out (fun g hg => (HS.out g hg).1) _) (fun g hg => (HS.out g hg).2) _) (fun g hg => (HS.out g hg).2) _, fun g hg => Nat.le_trans (Nat.le_trans (Nat.le_add_right _ 2) (Nat.le_of_eq (by simp))) (H3.out g hg), Zh (Zh (Zh HB.out (Nat.le_refl _)) (Nat.le_succ _)) (Nat.le_succ _)⟩
theorem Rw_of_R {w : World} {base k : Nat} {ok : Nat → Prop} {A : Option Addr} {n c : Nat} {l : List Int} (h : Kd.R (Kd.int .u64) 46 w base ok (.slice A n c) l) {O : Nat → Option Nat} (hO : ∀ g, (Value.slice A n c).ownBlock = some g → O g = some k) : Rw EL w O k (.slice A n c) n c 0 := by
 obtain ⟨h1, h2, h3⟩ := Kd.Zv h
 obtain ⟨inner, _, hr⟩ := Kd.R_own h
 rcases hr with ⟨hv, hn⟩ | ⟨g, cap, cur, hv, h4, h5, h6, h7, h8, h9⟩
 ·cases hv
  exact .inl ⟨rfl, rfl, rfl, rfl⟩
 ·injection hv with e1 e2 e3
  subst e1 e3
  refine .inr ⟨g, fun x => cur[x]?.getD default, rfl, hO g rfl, h2, h7, Nat.zero_le _, ⟨cur, h5, h8, fun i hi => ?_⟩, fun i hi => ?_, fun i hi => absurd hi (Nat.not_lt_zero _)⟩
  ·have hi' : i < cur.size := by rw [h8]; exact hi
   show cur[i]? = some (cur[i]?.getD default)
   rw [Array.getElem?_eq_getElem hi']; rfl
  ·have hi' : i < n := by have : i < n * 1 := hi; omega
   obtain ⟨_, _, hc⟩ := Kd.reads_of_C (d := (0 : Int)) h3
   obtain ⟨ad, had, hd⟩ := hc (by omega)
   cases had
   have hx := hd i (by omega)
   rw [Addr.add_lit, Nat.zero_add] at hx
   have hy : w.cell? ⟨g, i, none⟩ = cur[i]? := by simp [World.cell?, h5]
   show (cur[i]?.getD default).oneCell' = true
   rw [← hy, hx]
   rfl
end Go.Proofs.Ytbmddlldadbfnaa.BS
end
section
namespace Go.Proofs.Ytbmddlldadbfnaa.BD
open Go.RowKit Go.Proofs.Ytbmddlldadbfnaa.BA Go.Proofs.Ytbmddlldadbfnaa.BB Go.Proofs.YtbmddlldadbfnaaW.PrintWords Go.Proofs.YtbmddlldadbfnaaW.PrintLast Go.Proofs.YtbmddlldadbfnaaW.PrintMore
attribute [local go_sem] ZU ZS max_two min_two ZP ZO ZT ZR
set_option linter.unusedVariables false
set_option linter.unusedSimpArgs false
def errW : Option Int → Value
 | none => .nilIface
 | some c => .iface 0 (.int .i64 c)
theorem errW_none : errW none = .nilIface := rfl
theorem errW_some (c : Int) : errW (some c) = .iface 0 (.int .i64 c) := rfl
theorem info46 : (Try.prog.info? 46).map (fun i => (i.zero, i.size, i.bytes)) = some (some (.int .u64 0), 1, 8) := by kernel_rfl
end Go.Proofs.Ytbmddlldadbfnaa.BD
end
section
namespace Go.Proofs.Ytbmddlldadbfnaa.BD
open Go.RowKit Go.Proofs.Ytbmddlldadbfnaa.BA Go.Proofs.Ytbmddlldadbfnaa.BB Go.Proofs.YtbmddlldadbfnaaW.PrintWords Go.Proofs.YtbmddlldadbfnaaW.PrintLast Go.Proofs.YtbmddlldadbfnaaW.PrintMore
attribute [local go_sem] ZU ZS max_two min_two ZP ZO ZT ZR
set_option linter.unusedVariables false
set_option linter.unusedSimpArgs false
theorem eqA35 (d : Nat) (w : World) (x0 y0 : Int) (x1 y1 : Int) :
  (Op.equalIn (d + 2) 35 (.agg #[.int .i64 x0, .int .i64 x1]) (.agg #[.int .i64 y0, .int .i64 y1])).run Try.prog w = .ok (x0 == y0 && (x1 == y1)) w := by
 refine eqA_of Try.underlying35 (by kernel_rfl) ?_
 refine eqf_cons (by rfl) (by go_simp; rfl) (by go_simp; rfl) (by go_simp) ?_
 exact eqf_last (by rfl) (by go_simp; rfl) (by go_simp; rfl) (by go_simp)
end Go.Proofs.Ytbmddlldadbfnaa.BD
end
section
namespace Go.Proofs.Ytbmddlldadbfnaa.BD
open Go.RowKit Go.Proofs.Ytbmddlldadbfnaa.BA Go.Proofs.Ytbmddlldadbfnaa.BB Go.Proofs.YtbmddlldadbfnaaW.PrintWords Go.Proofs.YtbmddlldadbfnaaW.PrintLast Go.Proofs.YtbmddlldadbfnaaW.PrintMore
attribute [local go_sem] ZU ZS max_two min_two ZP ZO ZT ZR
set_option linter.unusedVariables false
set_option linter.unusedSimpArgs false
attribute [local go_sem high] eqA35
def rkPick.f (a0 : Int) (a1 : Int) : Option (Int) := if a1 < 1 then (some 0) else (if a1 = 0 then (none) else (if (Int.tmod a0 a1) < 0 then (some (wrap64 ((Int.tmod a0 a1) + a1))) else (some (Int.tmod a0 a1))))
set_option maxHeartbeats 8000000 in
set_option maxRecDepth 100000 in
theorem rkPick.calls (a0 : Int) (a1 : Int) (r : Int) (w : World) (h : rkPick.f a0 a1 = some r) :
  Calls Try.prog 22 #[.int .i64 a0, .int .i64 a1] w fun e w' => e = .returned (.int .i64 r) ∧ Zq w w' := by
 have H : (if a1 < 1 then (some 0) else (if a1 = 0 then (none) else (if (Int.tmod a0 a1) < 0 then (some (wrap64 ((Int.tmod a0 a1) + a1))) else (some (Int.tmod a0 a1))))) = some r := h
 clear h
 by_cases c3 : a1 < 1
 ·rw [if_pos c3] at H
  have c3b0 : decide (a1 < 1) = true := decide_eq_true c3
  clear c3
  obtain rfl := Option.some.inj H
  go_enter Try.func22, Try.ntmps22
  go_wp2
  go_ret
  exact ⟨by first | rfl | (simp; done) | (simp [*]; done), by repeat (first | exact Zq.refl _ | apply Zq.step)⟩
 ·rw [if_neg c3] at H
  have c3b0 : decide (a1 < 1) = false := decide_eq_false c3
  clear c3
  by_cases c4 : a1 = 0
  ·rw [if_pos c4] at H
   exact absurd H (by simp)
  ·rw [if_neg c4] at H
   have c4b0 : (a1 == 0) = false := beq_eq_false_iff_ne.mpr c4
   have c4b1 : (a1 != 0) = true := bne_iff_ne.mpr c4
   by_cases c5 : (Int.tmod a0 a1) < 0
   ·rw [if_pos c5] at H
    have c5b0 : decide ((Int.tmod a0 a1) < 0) = true := decide_eq_true c5
    clear c5
    obtain rfl := Option.some.inj H
    go_enter Try.func22, Try.ntmps22
    go_wp2
    go_ret
    exact ⟨by first | rfl | (simp; done) | (simp [*]; done), by repeat (first | exact Zq.refl _ | apply Zq.step)⟩
   ·rw [if_neg c5] at H
    have c5b0 : decide ((Int.tmod a0 a1) < 0) = false := decide_eq_false c5
    clear c5
    obtain rfl := Option.some.inj H
    go_enter Try.func22, Try.ntmps22
    go_wp2
    go_ret
    exact ⟨by first | rfl | (simp; done) | (simp [*]; done), by repeat (first | exact Zq.refl _ | apply Zq.step)⟩
def w19of.f (a0 : Int) : Option (Int) := (rkPick.f a0 35).bind fun t101 => (some (wrap64 (2 + t101)))
set_option maxHeartbeats 8000000 in
set_option maxRecDepth 100000 in
theorem w19of.calls (a0 : Int) (r : Int) (w : World) (h : w19of.f a0 = some r) :
  Calls Try.prog 20 #[.int .i64 a0] w fun e w' => e = .returned (.int .i64 r) ∧ Zq w w' := by
 have H : ((rkPick.f a0 35).bind fun t101 => (some (wrap64 (2 + t101)))) = some r := h
 clear h
 replace H := Option.bind_eq_some_iff.mp H
 obtain ⟨t101, A20, H⟩ := H
 replace H : (some (wrap64 (2 + t101))) = some r := H
 have A2 := Zb.mk A20
 clear A20
 obtain rfl := Option.some.inj H
 go_enter Try.func20, Try.ntmps20
 go_wp2_with (first | ((with_reducible refine Zp (f := 22) rfl ?_); refine ZB (some 4) rfl rfl Try.func22 (by kernel_rfl) rfl #[.int .i64 a0, .int .i64 35] rfl (by (try simp only [List.map_toArray, List.map_cons, List.map_nil]); first | done | rfl | (simp only [List.length_drop, List.length_take]; rfl)) ?_; (with_reducible refine (rkPick.calls a0 35 t101 _ A2.out).mono ?_); rintro e w' ⟨rfl, ⟨nd, rfl⟩⟩; refine ⟨_, rfl, ?_⟩))
 go_ret
 exact ⟨by first | rfl | (simp; done) | (simp [*]; done), by repeat (first | exact Zq.refl _ | apply Zq.step)⟩
def rmWhole_Int.f (k : Nat) (a0_0 : Bool) (l0_1 : List Int) (a1 : Int) : Option (Bool × List Int) := if (l0_1.length : Int) > a1 then (if 0 ≤ a1 then (if a1 ≤ (l0_1.length : Int) then ((r00NatTrim.f k (l0_1.take (a1 : Int).toNat)).bind fun t105 => (if a0_0 = true then (some (decide (0 < t105.length), t105)) else (some (false, t105)))) else (none)) else (none)) else ((r00NatTrim.f k l0_1).bind fun t108 => (if a0_0 = true then (some (decide (0 < t108.length), t108)) else (some (false, t108))))
set_option maxHeartbeats 8000000 in
set_option maxRecDepth 100000 in
theorem rmWhole_Int.calls (k : Nat) (a0_0 : Bool) (A0_1 : Option Addr) (c0_1 : Nat) (l0_1 : List Int) (a1 : Int) (r1 : Bool) (r2 : List Int) (w : World) (hr0_1 : Kd.C (Kd.int .u64) w A0_1 l0_1.length l0_1) (hc0_1 : l0_1.length ≤ c0_1) (h : rmWhole_Int.f k a0_0 l0_1 a1 = some (r1, r2)) :
  Calls Try.prog 21 #[.agg #[.bool a0_0, .slice A0_1 l0_1.length c0_1], .int .i64 a1] w fun e w' => ∃ v1_ : Value, e = .returned (.agg #[.bool r1, v1_]) ∧ Kd.R (Kd.int .u64) 46 w' w.heap.size (fun _ => True) v1_ r2 ∧ Below w.heap.size w w' := by
 have hu40 := Try.underlying40
 have hu24 := Try.underlying24
 have HR0_1 := Zb.mk hr0_1
 have HC0_1 := Zb.mk hc0_1
 clear hr0_1 hc0_1
 have HB := Zb.mk (Below.refl w.heap.size w)
 have H : (if (l0_1.length : Int) > a1 then (if 0 ≤ a1 then (if a1 ≤ (l0_1.length : Int) then ((r00NatTrim.f k (l0_1.take (a1 : Int).toNat)).bind fun t105 => (if a0_0 = true then (some (decide (0 < t105.length), t105)) else (some (false, t105)))) else (none)) else (none)) else ((r00NatTrim.f k l0_1).bind fun t108 => (if a0_0 = true then (some (decide (0 < t108.length), t108)) else (some (false, t108))))) = some (r1, r2) := h
 clear h
 by_cases c3 : (l0_1.length : Int) > a1
 ·rw [if_pos c3] at H
  have c3b0 : decide (a1 < (l0_1.length : Int)) = true := decide_eq_true c3
  clear c3
  by_cases c4 : 0 ≤ a1
  ·rw [if_pos c4] at H
   have c4b0 := eq_true c4
   have c4b1 : decide (0 ≤ a1) = true := decide_eq_true c4
   clear c4
   by_cases c5 : a1 ≤ (l0_1.length : Int)
   ·rw [if_pos c5] at H
    have c5b0 := eq_true c5
    have c5b1 : decide (a1 ≤ (l0_1.length : Int)) = true := decide_eq_true c5
    clear c5
    replace H := Option.bind_eq_some_iff.mp H
    obtain ⟨t105, A60, H⟩ := H
    replace H : (if a0_0 = true then (some (decide (0 < t105.length), t105)) else (some (false, t105))) = some (r1, r2) := H
    have A6 := Zb.mk A60
    clear A60
    by_cases c7 : a0_0 = true
    ·subst c7
     have H1 : (some (decide (0 < t105.length), t105)) = some (r1, r2) := by rw [if_pos rfl] at H; exact H
     clear H
     have H := H1
     clear H1
     simp only [Option.some.injEq, Prod.mk.injEq] at H
     obtain ⟨rfl, rfl⟩ := H
     go_enter Try.func21, Try.ntmps21
     go_wp2_with (first | ((with_reducible refine Zt (N := 2) rfl ?_); (try (refine gate_guard (by rfl) ?_; dsimp only)); refine Zs ?hg (N := 2) ?hd (cs := #[.bool true, .slice A0_1 l0_1.length c0_1]) (t := 40) ?hr ?_; (case hd => rfl); (case hg => rfl); (case hr => first | (go_simp; done) | (go_simp; rfl)); intro gb102 hg w8 hbox hb; have n0_ := Zb.mk (Zl (by repeat (with_reducible first | exact HB.out | apply Zc | apply Za | apply Zd)) hb); have n1_ := Zb.mk (hbox); have n2_ := Zb.mk ((by rw [hg]; exact (Zi (by repeat (with_reducible first | exact HB.out | apply Zc | apply Za | apply Zd))) : w.heap.size ≤ gb102)); have n3_ := Zb.mk ((by rw [hg]; exact (Zi (by repeat (with_reducible first | exact HB.out | apply Zc | apply Za | apply Zd))) : w.heap.size ≤ gb102)); clear HB; have HB := n0_; have BK102 := n1_; have GW102 := n2_; have GE102 := n3_; clear n0_ n1_ n2_ n3_; clear hb hbox hg) | ((with_reducible refine Zt (N := 4) rfl ?_); (try (refine gate_guard (by rfl) ?_; dsimp only)); refine Zs ?hg (N := 4) ?hd (cs := #[.bool false, .slice none 0 0]) (t := 24) ?hr ?_; (case hd => rfl); (case hg => rfl); (case hr => first | (go_simp; done) | (go_simp; rfl)); intro gb103 hg w9 hbox hb; have n0_ := Zb.mk (Zn (g := gb102) (o := .cells #[.bool true, .slice A0_1 l0_1.length c0_1] 40 (0, 0)) (by (with_reducible repeat first | refine Ze ?_ _ | refine Zg ?_ | refine Zf ?_ _); exact BK102.out) hb); have n1_ := Zb.mk (Zl (by repeat (with_reducible first | exact HB.out | apply Zc | apply Za | apply Zd | refine Zh ?_ GE102.out)) hb); have n2_ := Zb.mk (hbox); have n3_ := Zb.mk ((by rw [hg]; exact (Zi (by repeat (with_reducible first | exact HB.out | apply Zc | apply Za | apply Zd | refine Zh ?_ GE102.out))) : w.heap.size ≤ gb103)); have n4_ := Zb.mk ((by rw [hg]; exact (Zi (by repeat (with_reducible first | exact HB.out | apply Zc | apply Za | apply Zd | refine Zh ?_ GE102.out))) : w.heap.size ≤ gb103)); have n5_ := Zb.mk ((by rw [hg]; exact Nat.ne_of_lt (Zw (g := gb102) (o := .cells #[.bool true, .slice A0_1 l0_1.length c0_1] 40 (0, 0)) (by (with_reducible repeat first | refine Ze ?_ _ | refine Zg ?_ | refine Zf ?_ _); exact BK102.out)) : gb102 ≠ gb103)); have n6_ := Zb.mk ((by rw [hg]; exact Nat.ne_of_gt (Zw (g := gb102) (o := .cells #[.bool true, .slice A0_1 l0_1.length c0_1] 40 (0, 0)) (by (with_reducible repeat first | refine Ze ?_ _ | refine Zg ?_ | refine Zf ?_ _); exact BK102.out)) : gb103 ≠ gb102)); clear BK102; clear HB; have BK102 := n0_; have HB := n1_; have BK103 := n2_; have GW103 := n3_; have GE103 := n4_; have NB102_103 := n5_; have NB103_102 := n6_; clear n0_ n1_ n2_ n3_ n4_ n5_ n6_; clear hb hbox hg; have hnb10 := NB102_103.out; have hnc10 := NB103_102.out; have hcz11_0 : w9.cell? ⟨gb102, 0, none⟩ = some (.bool true) := (Zk BK102.out 0).trans rfl; have hcz11_1 : w9.cell? ⟨gb102, 1, none⟩ = some (.slice A0_1 l0_1.length c0_1) := (Zk BK102.out 1).trans rfl; have hfz11_0 := Zj BK102.out 0; have hfz11_1 := Zj BK102.out 1; obtain ⟨i012, hi012, _, hsz12, _⟩ := info_parts info46; obtain ⟨hcut12, hA12, hC12⟩ := print_take_of (P := Try.prog) (Value.int .u64) 0 22 46 .i64 Try.underlying22 hi012 hsz12 A0_1 c0_1 l0_1 a1 (of_decide_eq_true (by first | (with_reducible assumption) | assumption)) (of_decide_eq_true (by first | (with_reducible assumption) | assumption)) HC0_1.out; have HR104 := Zb.mk (Kd.C_of_reads (h1 := fun _ => rfl) (hA12 _ (Kd.reads_of_C HR0_1.out))); have HC104 := Zb.mk hC12; clear hA12 hC12 hi012 hsz12) | ((with_reducible refine Zp (f := 53) rfl ?_); refine ZB (some 17) rfl rfl Try.func53 (by kernel_rfl) rfl #[.slice A0_1 (l0_1.take (a1 : Int).toNat).length c0_1] rfl (by (try simp only [List.map_toArray, List.map_cons, List.map_nil]); first | done | (rw [show (l0_1.take (a1 : Int).toNat).length = a1.toNat from (by rw [List.length_take]; have h_ : (a1 : Int) ≤ (l0_1.length : Int) := of_decide_eq_true (by first | (with_reducible assumption) | assumption); omega)] <;> rfl) | rfl | (simp only [List.length_drop, List.length_take]; rfl)) ?_; (with_reducible refine (r00NatTrim.calls k _ _ (l0_1.take (a1 : Int).toNat) t105 _ ?side1 ?side2 A6.out).mono ?_); (case side1 => repeat (first | exact (Kd.C_below HR104.out HB.out) | (with_reducible refine Kd.ZC ?_ _) | (with_reducible refine Kd.ZF ?_ _) | (with_reducible refine Kd.ZN ?_))); (case side2 => exact HC104.out); rintro e w13 ⟨v106, rfl, ho0, hb⟩; refine ⟨_, rfl, ?_⟩; have n0_ := Zb.mk (Kd.ZG ho0 (Zi (by repeat (with_reducible first | exact HB.out | apply Zc | apply Za | apply Zd | refine Zh ?_ GE102.out | refine Zh ?_ GE103.out)))); have n1_ := Zb.mk (Zn (g := gb102) (o := .cells #[.bool true, .slice A0_1 l0_1.length c0_1] 40 (0, 0)) (by (with_reducible repeat first | refine Ze ?_ _ | refine Zg ?_ | refine Zf ?_ _); exact BK102.out) hb); have n2_ := Zb.mk (Zn (g := gb103) (o := .cells #[.bool false, .slice none 0 0] 24 (0, 0)) (by (with_reducible repeat first | refine Ze ?_ _ | refine Zg ?_ | refine Zf ?_ _); exact BK103.out) hb); have n3_ := Zb.mk (Zl (by repeat (with_reducible first | exact HB.out | apply Zc | apply Za | apply Zd | refine Zh ?_ GE102.out | refine Zh ?_ GE103.out)) hb); clear BK102; clear BK103; clear HB; have HO107 := n0_; have BK102 := n1_; have BK103 := n2_; have HB := n3_; clear n0_ n1_ n2_ n3_; (try clear hb); (try clear hb2); (try clear hk); (try clear hi); (try clear ho0); have hcz14_0 : w13.cell? ⟨gb102, 0, none⟩ = some (.bool true) := (Zk BK102.out 0).trans rfl; have hcz14_1 : w13.cell? ⟨gb102, 1, none⟩ = some (.slice A0_1 l0_1.length c0_1) := (Zk BK102.out 1).trans rfl; have hfz14_0 := Zj BK102.out 0; have hfz14_1 := Zj BK102.out 1; obtain ⟨Ao15, co15, eo15⟩ := Kd.Zy HO107.out; subst eo15; have hcz16_0 : w13.cell? ⟨gb103, 0, none⟩ = some (.bool false) := (Zk BK103.out 0).trans rfl; have hcz16_1 : w13.cell? ⟨gb103, 1, none⟩ = some (.slice none 0 0) := (Zk BK103.out 1).trans rfl; have hfz16_0 := Zj BK103.out 0; have hfz16_1 := Zj BK103.out 1))
     refine bodyPost_ret (results_cell_row rfl _ _ gb103 24 #[.bool (decide (0 < t105.length)), .slice Ao15 t105.length co15] (0, 0) _ rfl (by (with_reducible repeat first | refine Ze ?_ _ | refine Zg ?_ | refine Zf ?_ _); refine Zu (cs := #[.bool (decide (0 < t105.length)), .slice none 0 0]) ?_ 1 _ rfl; (with_reducible repeat first | refine Ze ?_ _ | refine Zg ?_ | refine Zf ?_ _); refine Zu (cs := #[.bool false, .slice none 0 0]) ?_ 0 _ rfl; (with_reducible repeat first | refine Ze ?_ _ | refine Zg ?_ | refine Zf ?_ _); exact BK103.out) Try.underlying24 rfl (by kernel_rfl)) rfl ?_
     exact ⟨_, by first | rfl | (simp [errW_none, errW_some] <;> rfl) | (simp [*, errW_none, errW_some] <;> rfl), by (with_reducible repeat first | apply Kd.Zm | apply Kd.Zo); exact Kd.ZE (Kd.ZH (p := ⟨gb103, 1, none⟩) (Kd.ZH (p := ⟨gb103, 0, none⟩) (Kd.ZI HO107.out BK103.out (by decide)) (fun _ hk => hk.2) (.bool (decide (0 < t105.length)))) (fun _ hk => hk.2) (.slice Ao15 t105.length co15)) (fun _ hk => trivial), by repeat (with_reducible first | exact HB.out | apply Zc | apply Za | apply Zd | refine Zh ?_ GE102.out | refine Zh ?_ GE103.out)⟩
    ·replace c7 := Bool.eq_false_iff.mpr c7
     subst c7
     have H1 : (some (false, t105)) = some (r1, r2) := by rw [if_neg (show ¬ (false = true) by decide)] at H; exact H
     clear H
     have H := H1
     clear H1
     simp only [Option.some.injEq, Prod.mk.injEq] at H
     obtain ⟨rfl, rfl⟩ := H
     go_enter Try.func21, Try.ntmps21
     go_wp2_with (first | ((with_reducible refine Zt (N := 2) rfl ?_); (try (refine gate_guard (by rfl) ?_; dsimp only)); refine Zs ?hg (N := 2) ?hd (cs := #[.bool false, .slice A0_1 l0_1.length c0_1]) (t := 40) ?hr ?_; (case hd => rfl); (case hg => rfl); (case hr => first | (go_simp; done) | (go_simp; rfl)); intro gb102 hg w17 hbox hb; have n0_ := Zb.mk (Zl (by repeat (with_reducible first | exact HB.out | apply Zc | apply Za | apply Zd)) hb); have n1_ := Zb.mk (hbox); have n2_ := Zb.mk ((by rw [hg]; exact (Zi (by repeat (with_reducible first | exact HB.out | apply Zc | apply Za | apply Zd))) : w.heap.size ≤ gb102)); have n3_ := Zb.mk ((by rw [hg]; exact (Zi (by repeat (with_reducible first | exact HB.out | apply Zc | apply Za | apply Zd))) : w.heap.size ≤ gb102)); clear HB; have HB := n0_; have BK102 := n1_; have GW102 := n2_; have GE102 := n3_; clear n0_ n1_ n2_ n3_; clear hb hbox hg) | ((with_reducible refine Zt (N := 4) rfl ?_); (try (refine gate_guard (by rfl) ?_; dsimp only)); refine Zs ?hg (N := 4) ?hd (cs := #[.bool false, .slice none 0 0]) (t := 24) ?hr ?_; (case hd => rfl); (case hg => rfl); (case hr => first | (go_simp; done) | (go_simp; rfl)); intro gb103 hg w18 hbox hb; have n0_ := Zb.mk (Zn (g := gb102) (o := .cells #[.bool false, .slice A0_1 l0_1.length c0_1] 40 (0, 0)) (by (with_reducible repeat first | refine Ze ?_ _ | refine Zg ?_ | refine Zf ?_ _); exact BK102.out) hb); have n1_ := Zb.mk (Zl (by repeat (with_reducible first | exact HB.out | apply Zc | apply Za | apply Zd | refine Zh ?_ GE102.out)) hb); have n2_ := Zb.mk (hbox); have n3_ := Zb.mk ((by rw [hg]; exact (Zi (by repeat (with_reducible first | exact HB.out | apply Zc | apply Za | apply Zd | refine Zh ?_ GE102.out))) : w.heap.size ≤ gb103)); have n4_ := Zb.mk ((by rw [hg]; exact (Zi (by repeat (with_reducible first | exact HB.out | apply Zc | apply Za | apply Zd | refine Zh ?_ GE102.out))) : w.heap.size ≤ gb103)); have n5_ := Zb.mk ((by rw [hg]; exact Nat.ne_of_lt (Zw (g := gb102) (o := .cells #[.bool false, .slice A0_1 l0_1.length c0_1] 40 (0, 0)) (by (with_reducible repeat first | refine Ze ?_ _ | refine Zg ?_ | refine Zf ?_ _); exact BK102.out)) : gb102 ≠ gb103)); have n6_ := Zb.mk ((by rw [hg]; exact Nat.ne_of_gt (Zw (g := gb102) (o := .cells #[.bool false, .slice A0_1 l0_1.length c0_1] 40 (0, 0)) (by (with_reducible repeat first | refine Ze ?_ _ | refine Zg ?_ | refine Zf ?_ _); exact BK102.out)) : gb103 ≠ gb102)); clear BK102; clear HB; have BK102 := n0_; have HB := n1_; have BK103 := n2_; have GW103 := n3_; have GE103 := n4_; have NB102_103 := n5_; have NB103_102 := n6_; clear n0_ n1_ n2_ n3_ n4_ n5_ n6_; clear hb hbox hg; have hnb19 := NB102_103.out; have hnc19 := NB103_102.out; have hcz20_0 : w18.cell? ⟨gb102, 0, none⟩ = some (.bool false) := (Zk BK102.out 0).trans rfl; have hcz20_1 : w18.cell? ⟨gb102, 1, none⟩ = some (.slice A0_1 l0_1.length c0_1) := (Zk BK102.out 1).trans rfl; have hfz20_0 := Zj BK102.out 0; have hfz20_1 := Zj BK102.out 1; obtain ⟨i021, hi021, _, hsz21, _⟩ := info_parts info46; obtain ⟨hcut21, hA21, hC21⟩ := print_take_of (P := Try.prog) (Value.int .u64) 0 22 46 .i64 Try.underlying22 hi021 hsz21 A0_1 c0_1 l0_1 a1 (of_decide_eq_true (by first | (with_reducible assumption) | assumption)) (of_decide_eq_true (by first | (with_reducible assumption) | assumption)) HC0_1.out; have HR104 := Zb.mk (Kd.C_of_reads (h1 := fun _ => rfl) (hA21 _ (Kd.reads_of_C HR0_1.out))); have HC104 := Zb.mk hC21; clear hA21 hC21 hi021 hsz21) | ((with_reducible refine Zp (f := 53) rfl ?_); refine ZB (some 17) rfl rfl Try.func53 (by kernel_rfl) rfl #[.slice A0_1 (l0_1.take (a1 : Int).toNat).length c0_1] rfl (by (try simp only [List.map_toArray, List.map_cons, List.map_nil]); first | done | (rw [show (l0_1.take (a1 : Int).toNat).length = a1.toNat from (by rw [List.length_take]; have h_ : (a1 : Int) ≤ (l0_1.length : Int) := of_decide_eq_true (by first | (with_reducible assumption) | assumption); omega)] <;> rfl) | rfl | (simp only [List.length_drop, List.length_take]; rfl)) ?_; (with_reducible refine (r00NatTrim.calls k _ _ (l0_1.take (a1 : Int).toNat) t105 _ ?side1 ?side2 A6.out).mono ?_); (case side1 => repeat (first | exact (Kd.C_below HR104.out HB.out) | (with_reducible refine Kd.ZC ?_ _) | (with_reducible refine Kd.ZF ?_ _) | (with_reducible refine Kd.ZN ?_))); (case side2 => exact HC104.out); rintro e w22 ⟨v106, rfl, ho0, hb⟩; refine ⟨_, rfl, ?_⟩; have n0_ := Zb.mk (Kd.ZG ho0 (Zi (by repeat (with_reducible first | exact HB.out | apply Zc | apply Za | apply Zd | refine Zh ?_ GE102.out | refine Zh ?_ GE103.out)))); have n1_ := Zb.mk (Zn (g := gb102) (o := .cells #[.bool false, .slice A0_1 l0_1.length c0_1] 40 (0, 0)) (by (with_reducible repeat first | refine Ze ?_ _ | refine Zg ?_ | refine Zf ?_ _); exact BK102.out) hb); have n2_ := Zb.mk (Zn (g := gb103) (o := .cells #[.bool false, .slice none 0 0] 24 (0, 0)) (by (with_reducible repeat first | refine Ze ?_ _ | refine Zg ?_ | refine Zf ?_ _); exact BK103.out) hb); have n3_ := Zb.mk (Zl (by repeat (with_reducible first | exact HB.out | apply Zc | apply Za | apply Zd | refine Zh ?_ GE102.out | refine Zh ?_ GE103.out)) hb); clear BK102; clear BK103; clear HB; have HO107 := n0_; have BK102 := n1_; have BK103 := n2_; have HB := n3_; clear n0_ n1_ n2_ n3_; (try clear hb); (try clear hb2); (try clear hk); (try clear hi); (try clear ho0); have hcz23_0 : w22.cell? ⟨gb102, 0, none⟩ = some (.bool false) := (Zk BK102.out 0).trans rfl; have hcz23_1 : w22.cell? ⟨gb102, 1, none⟩ = some (.slice A0_1 l0_1.length c0_1) := (Zk BK102.out 1).trans rfl; have hfz23_0 := Zj BK102.out 0; have hfz23_1 := Zj BK102.out 1; obtain ⟨Ao24, co24, eo24⟩ := Kd.Zy HO107.out; subst eo24; have hcz25_0 : w22.cell? ⟨gb103, 0, none⟩ = some (.bool false) := (Zk BK103.out 0).trans rfl; have hcz25_1 : w22.cell? ⟨gb103, 1, none⟩ = some (.slice none 0 0) := (Zk BK103.out 1).trans rfl; have hfz25_0 := Zj BK103.out 0; have hfz25_1 := Zj BK103.out 1))
     refine bodyPost_ret (results_cell_row rfl _ _ gb103 24 #[.bool false, .slice Ao24 t105.length co24] (0, 0) _ rfl (by (with_reducible repeat first | refine Ze ?_ _ | refine Zg ?_ | refine Zf ?_ _); refine Zu (cs := #[.bool false, .slice none 0 0]) ?_ 1 _ rfl; (with_reducible repeat first | refine Ze ?_ _ | refine Zg ?_ | refine Zf ?_ _); refine Zu (cs := #[.bool false, .slice none 0 0]) ?_ 0 _ rfl; (with_reducible repeat first | refine Ze ?_ _ | refine Zg ?_ | refine Zf ?_ _); exact BK103.out) Try.underlying24 rfl (by kernel_rfl)) rfl ?_
     exact ⟨_, by first | rfl | (simp [errW_none, errW_some] <;> rfl) | (simp [*, errW_none, errW_some] <;> rfl), by (with_reducible repeat first | apply Kd.Zm | apply Kd.Zo); exact Kd.ZE (Kd.ZH (p := ⟨gb103, 1, none⟩) (Kd.ZH (p := ⟨gb103, 0, none⟩) (Kd.ZI HO107.out BK103.out (by decide)) (fun _ hk => hk.2) (.bool false)) (fun _ hk => hk.2) (.slice Ao24 t105.length co24)) (fun _ hk => trivial), by repeat (with_reducible first | exact HB.out | apply Zc | apply Za | apply Zd | refine Zh ?_ GE102.out | refine Zh ?_ GE103.out)⟩
   ·rw [if_neg c5] at H
    exact absurd H (by simp)
  ·rw [if_neg c4] at H
   exact absurd H (by simp)
 ·rw [if_neg c3] at H
  have c3b0 : decide (a1 < (l0_1.length : Int)) = false := decide_eq_false c3
  clear c3
  replace H := Option.bind_eq_some_iff.mp H
  obtain ⟨t108, A260, H⟩ := H
  replace H : (if a0_0 = true then (some (decide (0 < t108.length), t108)) else (some (false, t108))) = some (r1, r2) := H
  have A26 := Zb.mk A260
  clear A260
  by_cases c27 : a0_0 = true
  ·subst c27
   have H1 : (some (decide (0 < t108.length), t108)) = some (r1, r2) := by rw [if_pos rfl] at H; exact H
   clear H
   have H := H1
   clear H1
   simp only [Option.some.injEq, Prod.mk.injEq] at H
   obtain ⟨rfl, rfl⟩ := H
   go_enter Try.func21, Try.ntmps21
   go_wp2_with (first | ((with_reducible refine Zt (N := 2) rfl ?_); (try (refine gate_guard (by rfl) ?_; dsimp only)); refine Zs ?hg (N := 2) ?hd (cs := #[.bool true, .slice A0_1 l0_1.length c0_1]) (t := 40) ?hr ?_; (case hd => rfl); (case hg => rfl); (case hr => first | (go_simp; done) | (go_simp; rfl)); intro gb102 hg w28 hbox hb; have n0_ := Zb.mk (Zl (by repeat (with_reducible first | exact HB.out | apply Zc | apply Za | apply Zd)) hb); have n1_ := Zb.mk (hbox); have n2_ := Zb.mk ((by rw [hg]; exact (Zi (by repeat (with_reducible first | exact HB.out | apply Zc | apply Za | apply Zd))) : w.heap.size ≤ gb102)); have n3_ := Zb.mk ((by rw [hg]; exact (Zi (by repeat (with_reducible first | exact HB.out | apply Zc | apply Za | apply Zd))) : w.heap.size ≤ gb102)); clear HB; have HB := n0_; have BK102 := n1_; have GW102 := n2_; have GE102 := n3_; clear n0_ n1_ n2_ n3_; clear hb hbox hg) | ((with_reducible refine Zt (N := 4) rfl ?_); (try (refine gate_guard (by rfl) ?_; dsimp only)); refine Zs ?hg (N := 4) ?hd (cs := #[.bool false, .slice none 0 0]) (t := 24) ?hr ?_; (case hd => rfl); (case hg => rfl); (case hr => first | (go_simp; done) | (go_simp; rfl)); intro gb103 hg w29 hbox hb; have n0_ := Zb.mk (Zn (g := gb102) (o := .cells #[.bool true, .slice A0_1 l0_1.length c0_1] 40 (0, 0)) (by (with_reducible repeat first | refine Ze ?_ _ | refine Zg ?_ | refine Zf ?_ _); exact BK102.out) hb); have n1_ := Zb.mk (Zl (by repeat (with_reducible first | exact HB.out | apply Zc | apply Za | apply Zd | refine Zh ?_ GE102.out)) hb); have n2_ := Zb.mk (hbox); have n3_ := Zb.mk ((by rw [hg]; exact (Zi (by repeat (with_reducible first | exact HB.out | apply Zc | apply Za | apply Zd | refine Zh ?_ GE102.out))) : w.heap.size ≤ gb103)); have n4_ := Zb.mk ((by rw [hg]; exact (Zi (by repeat (with_reducible first | exact HB.out | apply Zc | apply Za | apply Zd | refine Zh ?_ GE102.out))) : w.heap.size ≤ gb103)); have n5_ := Zb.mk ((by rw [hg]; exact Nat.ne_of_lt (Zw (g := gb102) (o := .cells #[.bool true, .slice A0_1 l0_1.length c0_1] 40 (0, 0)) (by (with_reducible repeat first | refine Ze ?_ _ | refine Zg ?_ | refine Zf ?_ _); exact BK102.out)) : gb102 ≠ gb103)); have n6_ := Zb.mk ((by rw [hg]; exact Nat.ne_of_gt (Zw (g := gb102) (o := .cells #[.bool true, .slice A0_1 l0_1.length c0_1] 40 (0, 0)) (by (with_reducible repeat first | refine Ze ?_ _ | refine Zg ?_ | refine Zf ?_ _); exact BK102.out)) : gb103 ≠ gb102)); clear BK102; clear HB; have BK102 := n0_; have HB := n1_; have BK103 := n2_; have GW103 := n3_; have GE103 := n4_; have NB102_103 := n5_; have NB103_102 := n6_; clear n0_ n1_ n2_ n3_ n4_ n5_ n6_; clear hb hbox hg; have hnb30 := NB102_103.out; have hnc30 := NB103_102.out; have hcz31_0 : w29.cell? ⟨gb102, 0, none⟩ = some (.bool true) := (Zk BK102.out 0).trans rfl; have hcz31_1 : w29.cell? ⟨gb102, 1, none⟩ = some (.slice A0_1 l0_1.length c0_1) := (Zk BK102.out 1).trans rfl; have hfz31_0 := Zj BK102.out 0; have hfz31_1 := Zj BK102.out 1) | ((with_reducible refine Zp (f := 53) rfl ?_); refine ZB (some 17) rfl rfl Try.func53 (by kernel_rfl) rfl #[.slice A0_1 l0_1.length c0_1] rfl (by (try simp only [List.map_toArray, List.map_cons, List.map_nil]); first | done | rfl | (simp only [List.length_drop, List.length_take]; rfl)) ?_; (with_reducible refine (r00NatTrim.calls k _ _ l0_1 t108 _ ?side1 ?side2 A26.out).mono ?_); (case side1 => repeat (first | exact (Kd.C_below HR0_1.out HB.out) | (with_reducible refine Kd.ZC ?_ _) | (with_reducible refine Kd.ZF ?_ _) | (with_reducible refine Kd.ZN ?_))); (case side2 => exact HC0_1.out); rintro e w32 ⟨v109, rfl, ho0, hb⟩; refine ⟨_, rfl, ?_⟩; have n0_ := Zb.mk (Kd.ZG ho0 (Zi (by repeat (with_reducible first | exact HB.out | apply Zc | apply Za | apply Zd | refine Zh ?_ GE102.out | refine Zh ?_ GE103.out)))); have n1_ := Zb.mk (Zn (g := gb102) (o := .cells #[.bool true, .slice A0_1 l0_1.length c0_1] 40 (0, 0)) (by (with_reducible repeat first | refine Ze ?_ _ | refine Zg ?_ | refine Zf ?_ _); exact BK102.out) hb); have n2_ := Zb.mk (Zn (g := gb103) (o := .cells #[.bool false, .slice none 0 0] 24 (0, 0)) (by (with_reducible repeat first | refine Ze ?_ _ | refine Zg ?_ | refine Zf ?_ _); exact BK103.out) hb); have n3_ := Zb.mk (Zl (by repeat (with_reducible first | exact HB.out | apply Zc | apply Za | apply Zd | refine Zh ?_ GE102.out | refine Zh ?_ GE103.out)) hb); clear BK102; clear BK103; clear HB; have HO110 := n0_; have BK102 := n1_; have BK103 := n2_; have HB := n3_; clear n0_ n1_ n2_ n3_; (try clear hb); (try clear hb2); (try clear hk); (try clear hi); (try clear ho0); have hcz33_0 : w32.cell? ⟨gb102, 0, none⟩ = some (.bool true) := (Zk BK102.out 0).trans rfl; have hcz33_1 : w32.cell? ⟨gb102, 1, none⟩ = some (.slice A0_1 l0_1.length c0_1) := (Zk BK102.out 1).trans rfl; have hfz33_0 := Zj BK102.out 0; have hfz33_1 := Zj BK102.out 1; obtain ⟨Ao34, co34, eo34⟩ := Kd.Zy HO110.out; subst eo34; have hcz35_0 : w32.cell? ⟨gb103, 0, none⟩ = some (.bool false) := (Zk BK103.out 0).trans rfl; have hcz35_1 : w32.cell? ⟨gb103, 1, none⟩ = some (.slice none 0 0) := (Zk BK103.out 1).trans rfl; have hfz35_0 := Zj BK103.out 0; have hfz35_1 := Zj BK103.out 1))
   refine bodyPost_ret (results_cell_row rfl _ _ gb103 24 #[.bool (decide (0 < t108.length)), .slice Ao34 t108.length co34] (0, 0) _ rfl (by (with_reducible repeat first | refine Ze ?_ _ | refine Zg ?_ | refine Zf ?_ _); refine Zu (cs := #[.bool (decide (0 < t108.length)), .slice none 0 0]) ?_ 1 _ rfl; (with_reducible repeat first | refine Ze ?_ _ | refine Zg ?_ | refine Zf ?_ _); refine Zu (cs := #[.bool false, .slice none 0 0]) ?_ 0 _ rfl; (with_reducible repeat first | refine Ze ?_ _ | refine Zg ?_ | refine Zf ?_ _); exact BK103.out) Try.underlying24 rfl (by kernel_rfl)) rfl ?_
   exact ⟨_, by first | rfl | (simp [errW_none, errW_some] <;> rfl) | (simp [*, errW_none, errW_some] <;> rfl), by (with_reducible repeat first | apply Kd.Zm | apply Kd.Zo); exact Kd.ZE (Kd.ZH (p := ⟨gb103, 1, none⟩) (Kd.ZH (p := ⟨gb103, 0, none⟩) (Kd.ZI HO110.out BK103.out (by decide)) (fun _ hk => hk.2) (.bool (decide (0 < t108.length)))) (fun _ hk => hk.2) (.slice Ao34 t108.length co34)) (fun _ hk => trivial), by repeat (with_reducible first | exact HB.out | apply Zc | apply Za | apply Zd | refine Zh ?_ GE102.out | refine Zh ?_ GE103.out)⟩
  ·replace c27 := Bool.eq_false_iff.mpr c27
   subst c27
   have H1 : (some (false, t108)) = some (r1, r2) := by rw [if_neg (show ¬ (false = true) by decide)] at H; exact H
   clear H
   have H := H1
   clear H1
   simp only [Option.some.injEq, Prod.mk.injEq] at H
   obtain ⟨rfl, rfl⟩ := H
   go_enter Try.func21, Try.ntmps21
   go_wp2_with (first | ((with_reducible refine Zt (N := 2) rfl ?_); (try (refine gate_guard (by rfl) ?_; dsimp only)); refine Zs ?hg (N := 2) ?hd (cs := #[.bool false, .slice A0_1 l0_1.length c0_1]) (t := 40) ?hr ?_; (case hd => rfl); (case hg => rfl); (case hr => first | (go_simp; done) | (go_simp; rfl)); intro gb102 hg w36 hbox hb; have n0_ := Zb.mk (Zl (by repeat (with_reducible first | exact HB.out | apply Zc | apply Za | apply Zd)) hb); have n1_ := Zb.mk (hbox); have n2_ := Zb.mk ((by rw [hg]; exact (Zi (by repeat (with_reducible first | exact HB.out | apply Zc | apply Za | apply Zd))) : w.heap.size ≤ gb102)); have n3_ := Zb.mk ((by rw [hg]; exact (Zi (by repeat (with_reducible first | exact HB.out | apply Zc | apply Za | apply Zd))) : w.heap.size ≤ gb102)); clear HB; have HB := n0_; have BK102 := n1_; have GW102 := n2_; have GE102 := n3_; clear n0_ n1_ n2_ n3_; clear hb hbox hg) | ((with_reducible refine Zt (N := 4) rfl ?_); (try (refine gate_guard (by rfl) ?_; dsimp only)); refine Zs ?hg (N := 4) ?hd (cs := #[.bool false, .slice none 0 0]) (t := 24) ?hr ?_; (case hd => rfl); (case hg => rfl); (case hr => first | (go_simp; done) | (go_simp; rfl)); intro gb103 hg w37 hbox hb; have n0_ := Zb.mk (Zn (g := gb102) (o := .cells #[.bool false, .slice A0_1 l0_1.length c0_1] 40 (0, 0)) (by (with_reducible repeat first | refine Ze ?_ _ | refine Zg ?_ | refine Zf ?_ _); exact BK102.out) hb); have n1_ := Zb.mk (Zl (by repeat (with_reducible first | exact HB.out | apply Zc | apply Za | apply Zd | refine Zh ?_ GE102.out)) hb); have n2_ := Zb.mk (hbox); have n3_ := Zb.mk ((by rw [hg]; exact (Zi (by repeat (with_reducible first | exact HB.out | apply Zc | apply Za | apply Zd | refine Zh ?_ GE102.out))) : w.heap.size ≤ gb103)); have n4_ := Zb.mk ((by rw [hg]; exact (Zi (by repeat (with_reducible first | exact HB.out | apply Zc | apply Za | apply Zd | refine Zh ?_ GE102.out))) : w.heap.size ≤ gb103)); have n5_ := Zb.mk ((by rw [hg]; exact Nat.ne_of_lt (Zw (g := gb102) (o := .cells #[.bool false, .slice A0_1 l0_1.length c0_1] 40 (0, 0)) (by (with_reducible repeat first | refine Ze ?_ _ | refine Zg ?_ | refine Zf ?_ _); exact BK102.out)) : gb102 ≠ gb103)); have n6_ := Zb.mk ((by rw [hg]; exact Nat.ne_of_gt (Zw (g := gb102) (o := .cells #[.bool false, .slice A0_1 l0_1.length c0_1] 40 (0, 0)) (by (with_reducible repeat first | refine Ze ?_ _ | refine Zg ?_ | refine Zf ?_ _); exact BK102.out)) : gb103 ≠ gb102)); clear BK102; clear HB; have BK102 := n0_; have HB := n1_; have BK103 := n2_; have GW103 := n3_; have GE103 := n4_; have NB102_103 := n5_; have NB103_102 := n6_; clear n0_ n1_ n2_ n3_ n4_ n5_ n6_; clear hb hbox hg; have hnb38 := NB102_103.out; have hnc38 := NB103_102.out; have hcz39_0 : w37.cell? ⟨gb102, 0, none⟩ = some (.bool false) := (Zk BK102.out 0).trans rfl; have hcz39_1 : w37.cell? ⟨gb102, 1, none⟩ = some (.slice A0_1 l0_1.length c0_1) := (Zk BK102.out 1).trans rfl; have hfz39_0 := Zj BK102.out 0; have hfz39_1 := Zj BK102.out 1) | ((with_reducible refine Zp (f := 53) rfl ?_); refine ZB (some 17) rfl rfl Try.func53 (by kernel_rfl) rfl #[.slice A0_1 l0_1.length c0_1] rfl (by (try simp only [List.map_toArray, List.map_cons, List.map_nil]); first | done | rfl | (simp only [List.length_drop, List.length_take]; rfl)) ?_; (with_reducible refine (r00NatTrim.calls k _ _ l0_1 t108 _ ?side1 ?side2 A26.out).mono ?_); (case side1 => repeat (first | exact (Kd.C_below HR0_1.out HB.out) | (with_reducible refine Kd.ZC ?_ _) | (with_reducible refine Kd.ZF ?_ _) | (with_reducible refine Kd.ZN ?_))); (case side2 => exact HC0_1.out); rintro e w40 ⟨v109, rfl, ho0, hb⟩; refine ⟨_, rfl, ?_⟩; have n0_ := Zb.mk (Kd.ZG ho0 (Zi (by repeat (with_reducible first | exact HB.out | apply Zc | apply Za | apply Zd | refine Zh ?_ GE102.out | refine Zh ?_ GE103.out)))); have n1_ := Zb.mk (Zn (g := gb102) (o := .cells #[.bool false, .slice A0_1 l0_1.length c0_1] 40 (0, 0)) (by (with_reducible repeat first | refine Ze ?_ _ | refine Zg ?_ | refine Zf ?_ _); exact BK102.out) hb); have n2_ := Zb.mk (Zn (g := gb103) (o := .cells #[.bool false, .slice none 0 0] 24 (0, 0)) (by (with_reducible repeat first | refine Ze ?_ _ | refine Zg ?_ | refine Zf ?_ _); exact BK103.out) hb); have n3_ := Zb.mk (Zl (by repeat (with_reducible first | exact HB.out | apply Zc | apply Za | apply Zd | refine Zh ?_ GE102.out | refine Zh ?_ GE103.out)) hb); clear BK102; clear BK103; clear HB; have HO110 := n0_; have BK102 := n1_; have BK103 := n2_; have HB := n3_; clear n0_ n1_ n2_ n3_; (try clear hb); (try clear hb2); (try clear hk); (try clear hi); (try clear ho0); have hcz41_0 : w40.cell? ⟨gb102, 0, none⟩ = some (.bool false) := (Zk BK102.out 0).trans rfl; have hcz41_1 : w40.cell? ⟨gb102, 1, none⟩ = some (.slice A0_1 l0_1.length c0_1) := (Zk BK102.out 1).trans rfl; have hfz41_0 := Zj BK102.out 0; have hfz41_1 := Zj BK102.out 1; obtain ⟨Ao42, co42, eo42⟩ := Kd.Zy HO110.out; subst eo42; have hcz43_0 : w40.cell? ⟨gb103, 0, none⟩ = some (.bool false) := (Zk BK103.out 0).trans rfl; have hcz43_1 : w40.cell? ⟨gb103, 1, none⟩ = some (.slice none 0 0) := (Zk BK103.out 1).trans rfl; have hfz43_0 := Zj BK103.out 0; have hfz43_1 := Zj BK103.out 1))
   refine bodyPost_ret (results_cell_row rfl _ _ gb103 24 #[.bool false, .slice Ao42 t108.length co42] (0, 0) _ rfl (by (with_reducible repeat first | refine Ze ?_ _ | refine Zg ?_ | refine Zf ?_ _); refine Zu (cs := #[.bool false, .slice none 0 0]) ?_ 1 _ rfl; (with_reducible repeat first | refine Ze ?_ _ | refine Zg ?_ | refine Zf ?_ _); refine Zu (cs := #[.bool false, .slice none 0 0]) ?_ 0 _ rfl; (with_reducible repeat first | refine Ze ?_ _ | refine Zg ?_ | refine Zf ?_ _); exact BK103.out) Try.underlying24 rfl (by kernel_rfl)) rfl ?_
   exact ⟨_, by first | rfl | (simp [errW_none, errW_some] <;> rfl) | (simp [*, errW_none, errW_some] <;> rfl), by (with_reducible repeat first | apply Kd.Zm | apply Kd.Zo); exact Kd.ZE (Kd.ZH (p := ⟨gb103, 1, none⟩) (Kd.ZH (p := ⟨gb103, 0, none⟩) (Kd.ZI HO110.out BK103.out (by decide)) (fun _ hk => hk.2) (.bool false)) (fun _ hk => hk.2) (.slice Ao42 t108.length co42)) (fun _ hk => trivial), by repeat (with_reducible first | exact HB.out | apply Zc | apply Za | apply Zd | refine Zh ?_ GE102.out | refine Zh ?_ GE103.out)⟩
end Go.Proofs.Ytbmddlldadbfnaa.BD
end
section
namespace Go.Proofs.Ytbmddlldadbfnaa.BS
open Go.RowKit Go.Proofs.Ytbmddlldadbfnaa.BB Go.Proofs.Ytbmddlldadbfnaa.BD Go.Proofs.YtbmddlldadbfnaaW.PrintWords Go.Proofs.YtbmddlldadbfnaaW.PrintLast Go.Proofs.YtbmddlldadbfnaaW.PrintMore
open Go.Proofs.Ytbmddlldadbfnaa.BA (base_Parse.f base_Parse.calls base_Print.f base_Print.calls)
attribute [local go_sem] ZU ZS max_two min_two ZP ZO ZT ZR
set_option linter.unusedVariables false
set_option linter.unusedSimpArgs false
theorem R_nil_cap {w : World} {base : Nat} {ok : Nat → Prop} {A : Option Addr} {c : Nat} {l : List Int} (h : Kd.R (Kd.int .u64) 46 w base ok (.slice A l.length c) l) : A = none → l = [] ∧ c = 0 := by
 rintro rfl
 obtain ⟨inner, _, hr⟩ := Kd.R_own h
 rcases hr with ⟨hv, hn⟩ | ⟨g, cap, cur, hv, _⟩
 ·injection hv with e1 e2 e3
  exact ⟨List.eq_nil_of_length_eq_zero hn, e3⟩
 ·injection hv with e1
  cases e1
theorem C_fr {S : Nat → Prop} {w0 w w' : World} {A : Option Addr} {n : Nat} {xs : List Int} (h : Kd.C (Kd.int .u64) w0 A n xs) (hb : Below w0.heap.size w0 w) (hf : Fr S w w') (hS : ∀ g, A = some g → g.block < w0.heap.size → ¬ S g.block) : Kd.C (Kd.int .u64) w' A n xs := by
 obtain ⟨h1, h2, h3⟩ := Kd.reads_of_C (d := (0 : Int)) h
 refine Kd.C_of_reads (d := (0 : Int)) (h1 := fun _ => rfl) ⟨h1, h2, fun hn => ?_⟩
 obtain ⟨ad, hA, hd⟩ := h3 hn
 refine ⟨ad, hA, fun j hj => ?_⟩
 have hc := hd j hj
 have e : (ad.add j).block = ad.block := by unfold Addr.add; split <;> rfl
 have hlt := World.block_lt_of_cell? w0 _ hc
 exact (World.cell?_of_block (hf.block _ (Nat.lt_of_lt_of_le hlt hb.size) (by rw [e]; exact hS ad hA (by rw [← e]; exact hlt)))).trans ((hb.cell hlt).trans hc)
theorem four_boxes {w : World} {o0 o1 o2 o3 : Obj} : ((((w.alloc o0).alloc o1).alloc o2).alloc o3).heap[w.heap.size]? = some o0 ∧ ((((w.alloc o0).alloc o1).alloc o2).alloc o3).heap[w.heap.size + 1]? = some o1 ∧ ((((w.alloc o0).alloc o1).alloc o2).alloc o3).heap[w.heap.size + 1 + 1]? = some o2 ∧ ((((w.alloc o0).alloc o1).alloc o2).alloc o3).heap[w.heap.size + 1 + 1 + 1]? = some o3 := by
 have s1 : (w.alloc o0).heap.size = w.heap.size + 1 := by simp
 have s2 : ((w.alloc o0).alloc o1).heap.size = w.heap.size + 1 + 1 := by simp
 have s3 : (((w.alloc o0).alloc o1).alloc o2).heap.size = w.heap.size + 1 + 1 + 1 := by simp
 have h1 := blk_new (w.alloc o0) o1
 have h2 := blk_new ((w.alloc o0).alloc o1) o2
 have h3 := blk_new (((w.alloc o0).alloc o1).alloc o2) o3
 rw [s1] at h1
 rw [s2] at h2
 rw [s3] at h3
 exact ⟨Zf (Zf (Zf (blk_new w o0) o1) o2) o3, Zf (Zf h1 o2) o3, Zf h2 o3, h3⟩
def who (va vb : Value) : Nat → Option Nat := fun g => if va.ownBlock = some g then some 0 else if vb.ownBlock = some g then some 1 else none
theorem who_none {va vb : Value} {g : Nat} (ha : va.ownBlock ≠ some g) (hb : vb.ownBlock ≠ some g) : who va vb g = none := (if_neg ha).trans (if_neg hb)
theorem who_some {va vb : Value} {g : Nat} (h : who va vb g ≠ none) : va.ownBlock = some g ∨ vb.ownBlock = some g := by
 by_cases ha : va.ownBlock = some g
 ·exact .inl ha
 ·by_cases hb : vb.ownBlock = some g
  ·exact .inr hb
  ·exact absurd (who_none ha hb) h
set_option maxHeartbeats 8000000 in
set_option maxRecDepth 100000 in
theorem spares_calls (k : Nat) (n0 : Bool) (A0 : Option Addr) (c0 : Nat) (l0 : List Int) (a1 b : Int) (sg : Bool) (t : List Int) (s : ByteArray) (w : World) (hr0 : Kd.C (Kd.int .u64) w A0 l0.length l0) (hc0 : l0.length ≤ c0) (hof : w19of.f a1 = some b)
  (hwi : rmWhole_Int.f k n0 l0 40 = some (sg, t)) (htl : t.length ≤ 1000) (hp : base_Print.f k sg t b = some (s, 0)) (hq : base_Parse.f k s b = some (sg, t, 0, 0)) (hs : rkSameInt.f k sg t sg t = some true) (ha : w19awake.f k = some true) :
  Calls Try.prog 7 #[.agg #[.bool n0, .slice A0 l0.length c0], .int .i64 a1] w fun e w' => e = .returned (.bool true) ∧ Below w.heap.size w w' := by
 have hu24 := Try.underlying24
 have hu35 := Try.underlying35
 have hu40 := Try.underlying40
 have HA := Zb.mk ha
 have HO := Zb.mk hof
 have HW := Zb.mk hwi
 have HP := Zb.mk hp
 have HQ := Zb.mk hq
 have HS := Zb.mk hs
 have HR := Zb.mk hr0
 clear ha hof hwi hp hq hs hr0
 go_enter Try.func7, Try.ntmps7
 go_wp2_with fail
 refine (w19of.calls a1 b _ HO.out).mono ?_
 rintro ev w1 ⟨rfl, ⟨nd, rfl⟩⟩
 go_wp2_with fail
 refine (rmWhole_Int.calls k n0 A0 c0 l0 40 sg t _ (Kd.ZF (Kd.ZC HR.out _) _) hc0 HW.out).mono ?_
 rintro ev w2 ⟨v, rfl, hv, hb⟩
 obtain ⟨A1, c1, rfl, hc1, hC1⟩ := Kd.R_reads hv
 have HB2 := Zb.mk (Zl (Za (Zc (Below.refl w.heap.size w) _) nd) hb)
 have HC1 := Zb.mk hC1
 clear hv hb hC1 HR
 go_wp2_with fail
 refine (base_Print.calls k sg A1 c1 t b s 0 _ HC1.out hc1 HP.out).mono ?_
 rintro ev w3 ⟨rfl, hb⟩
 have HB3 := Zb.mk (Zl HB2.out hb)
 clear hb HB2 HC1 hc1
 go_wp2_with fail
 refine (base_Parse.calls k s b sg t 0 0 _ HQ.out).mono ?_
 rintro ev w4 ⟨v, rfl, hva, hb⟩
 obtain ⟨Aa, ca, rfl⟩ := Kd.Zy hva
 have HBw := Zb.mk (Zl HB3.out hb)
 have HVa := Zb.mk hva
 have HSa := Zb.mk HB3.out.size
 have HS4 := Zb.mk HBw.out.size
 clear hb hva HB3
 go_wp2_with fail
 obtain ⟨ba, hba⟩ : ∃ ba, ba = w4.heap.size := ⟨_, rfl⟩
 obtain ⟨X, hX⟩ : ∃ X : World, X = ((w4.alloc (Obj.cells #[Value.bool sg, Value.slice Aa t.length ca] 24)).alloc (Obj.cells #[Value.int IntKind.i64 0, Value.int IntKind.i64 0] 35)) := ⟨_, rfl⟩
 have hbx := Zc (Zc (Below.refl w4.heap.size w4) (Obj.cells #[Value.bool sg, Value.slice Aa t.length ca] 24)) (Obj.cells #[Value.int IntKind.i64 0, Value.int IntKind.i64 0] 35)
 have BA := Zb.mk (show X.heap[ba]? = some (.cells #[.bool sg, .slice Aa t.length ca] 24 (0, 0)) from by rw [hX, hba]; exact Zf (blk_new _ _) _)
 have BF := Zb.mk (show X.heap[ba + 1]? = some (.cells #[.int .i64 0, .int .i64 0] 35 (0, 0)) from by
  rw [hX, hba]
  have := blk_new (w4.alloc (Obj.cells #[Value.bool sg, Value.slice Aa t.length ca] 24)) (Obj.cells #[Value.int IntKind.i64 0, Value.int IntKind.i64 0] 35)
  rw [show (w4.alloc (Obj.cells #[Value.bool sg, Value.slice Aa t.length ca] 24)).heap.size = w4.heap.size + 1 by simp] at this
  exact this)
 replace HVa := Zb.mk (show Kd.R (Kd.int .u64) 46 X w3.heap.size (fun _ => True) (.slice Aa t.length ca) t from by rw [hX]; exact Kd.Zz HVa.out hbx)
 replace HBw := Zb.mk (show Below w.heap.size w X from by rw [hX]; exact Zl HBw.out hbx)
 have HBA := Zb.mk (show w.heap.size ≤ ba from by rw [hba]; exact HS4.out)
 have HLa := Zb.mk (Kd.R_lt HVa.out)
 have HXs := Zb.mk HBw.out.size
 rw [← hX, ← hba]
 clear hX hba hbx
 refine (base_Parse.calls k s b sg t 0 0 _ HQ.out).mono ?_
 rintro ev w5 ⟨v, rfl, hvb, hb⟩
 obtain ⟨Ab, cb, rfl⟩ := Kd.Zy hvb
 have hXs := HBw.out.size
 replace HBw := Zb.mk (Zl HBw.out hb)
 replace BA := Zb.mk (Zn BA.out hb)
 replace BF := Zb.mk (Zn BF.out hb)
 replace HVa := Zb.mk (Kd.Zz HVa.out hb)
 have HVb := Zb.mk hvb
 clear hb hvb
 have hx0 : w5.cell? ⟨ba, 0, none⟩ = some (.bool sg) := (Zk BA.out 0).trans rfl
 have hx1 : w5.cell? ⟨ba, 1, none⟩ = some (.slice Aa t.length ca) := (Zk BA.out 1).trans rfl
 have hf0 : w5.cell? ⟨ba + 1, 0, none⟩ = some (.int .i64 0) := (Zk BF.out 0).trans rfl
 have hf1 : w5.cell? ⟨ba + 1, 1, none⟩ = some (.int .i64 0) := (Zk BF.out 1).trans rfl
 have lt1 : ba + 1 < w5.heap.size := Zw BF.out
 have lt2 : ba + 1 < w5.heap.size + 1 := by omega
 have lt3 : ba < w5.heap.size := by omega
 have lt4 : ba < w5.heap.size + 1 := by omega
 go_wp2_with fail
 clear hx0 hx1 hf0 hf1 lt1 lt2 lt3 lt4 BF
 obtain ⟨bb, hbb⟩ : ∃ bb, bb = w5.heap.size := ⟨_, rfl⟩
 obtain ⟨Y, hY⟩ : ∃ Y : World, Y = ((w5.alloc (Obj.cells #[Value.bool sg, Value.slice Ab t.length cb] 24)).alloc (Obj.cells #[Value.int IntKind.i64 0, Value.int IntKind.i64 0] 35)) := ⟨_, rfl⟩
 have hby := Zc (Zc (Below.refl w5.heap.size w5) (Obj.cells #[Value.bool sg, Value.slice Ab t.length cb] 24)) (Obj.cells #[Value.int IntKind.i64 0, Value.int IntKind.i64 0] 35)
 have BB := Zb.mk (show Y.heap[bb]? = some (.cells #[.bool sg, .slice Ab t.length cb] 24 (0, 0)) from by rw [hY, hbb]; exact Zf (blk_new _ _) _)
 replace BA := Zb.mk (show Y.heap[ba]? = some (.cells #[.bool sg, .slice Aa t.length ca] 24 (0, 0)) from by rw [hY]; exact Zn BA.out hby)
 replace HVa := Zb.mk (show Kd.R (Kd.int .u64) 46 Y w3.heap.size (fun _ => True) (.slice Aa t.length ca) t from by rw [hY]; exact Kd.Zz HVa.out hby)
 replace HVb := Zb.mk (show Kd.R (Kd.int .u64) 46 Y X.heap.size (fun _ => True) (.slice Ab t.length cb) t from by rw [hY]; exact Kd.Zz HVb.out hby)
 replace HBw := Zb.mk (show Below w.heap.size w Y from by rw [hY]; exact Zl HBw.out hby)
 rw [← hY, ← hbb]
 clear hY hby hbb
 refine (rkSameInt.calls k sg Aa ca t sg Ab cb t true _ (Kd.Zv HVa.out).2.2 (Kd.Zv HVa.out).2.1 (Kd.Zv HVb.out).2.2 (Kd.Zv HVb.out).2.1 HS.out).mono ?_
 rintro ev w6 ⟨rfl, hb⟩
 replace HBw := Zb.mk (Zl HBw.out hb)
 replace BA := Zb.mk (Zn BA.out hb)
 replace BB := Zb.mk (Zn BB.out hb)
 replace HVa := Zb.mk (Kd.Zz HVa.out hb)
 replace HVb := Zb.mk (Kd.Zz HVb.out hb)
 clear hb
 have hx0 : w6.cell? ⟨ba, 0, none⟩ = some (.bool sg) := (Zk BA.out 0).trans rfl
 have hx1 : w6.cell? ⟨ba, 1, none⟩ = some (.slice Aa t.length ca) := (Zk BA.out 1).trans rfl
 go_wp2_with fail
 clear hx0 hx1
 refine (CopyInt_calls (Kd.Zv HVa.out).2.2 (R_nil_cap HVa.out) htl).mono ?_
 rintro ev w7 ⟨Aw, cw, rfl, hcw, hCw, hgw, hb⟩
 have HCW := Zb.mk hCw
 have HGW := Zb.mk (show ∀ g, (Value.slice Aw t.length cw).ownBlock = some g → w6.heap.size ≤ g from hgw)
 have HL6 := Zb.mk (And.intro (Kd.R_lt HVa.out) (Kd.R_lt HVb.out))
 have HS7 := Zb.mk hb.size
 replace HBw := Zb.mk (Zl HBw.out hb)
 replace BA := Zb.mk (Zn BA.out hb)
 replace BB := Zb.mk (Zn BB.out hb)
 replace HVa := Zb.mk (Kd.Zz HVa.out hb)
 replace HVb := Zb.mk (Kd.Zz HVb.out hb)
 clear hb hCw hgw
 have hx0 : w7.cell? ⟨ba, 0, none⟩ = some (.bool sg) := (Zk BA.out 0).trans rfl
 have hx1 : w7.cell? ⟨ba, 1, none⟩ = some (.slice Aa t.length ca) := (Zk BA.out 1).trans rfl
 have hy0 : w7.cell? ⟨bb, 0, none⟩ = some (.bool sg) := (Zk BB.out 0).trans rfl
 have hy1 : w7.cell? ⟨bb, 1, none⟩ = some (.slice Ab t.length cb) := (Zk BB.out 1).trans rfl
 have lt1 : ba < w7.heap.size := Zw BA.out
 have lt2 : bb < w7.heap.size := Zw BB.out
 have lt3 : ba < w7.heap.size + 1 := by omega
 have lt4 : bb < w7.heap.size + 1 := by omega
 have lt5 : ba < w7.heap.size + 1 + 1 := by omega
 have lt6 : bb < w7.heap.size + 1 + 1 := by omega
 have lt7 : bb < w7.heap.size + 2 := by omega
 go_wp2_with fail
 clear hx0 hx1 hy0 hy1 lt1 lt2 lt3 lt4 lt5 lt6 lt7 BA BB
 obtain ⟨p, hp⟩ : ∃ p, p = w7.heap.size := ⟨_, rfl⟩
 obtain ⟨q0, q1, q2, q3⟩ := four_boxes (w := w7) (o0 := (Obj.cells #[Value.bool sg, Value.slice Aw t.length cw] 24)) (o1 := (Obj.cells #[Value.bool sg, Value.slice Aa t.length ca] 24)) (o2 := (Obj.cells #[Value.bool sg, Value.slice Ab t.length cb] 24)) (o3 := (Obj.cells #[Value.slice (some { block := w7.heap.size + 1, off := 0 }) 1 1, Value.slice (some { block := w7.heap.size + 1 + 1, off := 0 }) 1 1] 55))
 have hbz := Zc (Zc (Zc (Zc (Below.refl w7.heap.size w7) (Obj.cells #[Value.bool sg, Value.slice Aw t.length cw] 24)) (Obj.cells #[Value.bool sg, Value.slice Aa t.length ca] 24)) (Obj.cells #[Value.bool sg, Value.slice Ab t.length cb] 24)) (Obj.cells #[Value.slice (some { block := w7.heap.size + 1, off := 0 }) 1 1, Value.slice (some { block := w7.heap.size + 1 + 1, off := 0 }) 1 1] 55)
 obtain ⟨Z, hZ⟩ : ∃ Z : World, Z = ((((w7.alloc (Obj.cells #[Value.bool sg, Value.slice Aw t.length cw] 24)).alloc (Obj.cells #[Value.bool sg, Value.slice Aa t.length ca] 24)).alloc (Obj.cells #[Value.bool sg, Value.slice Ab t.length cb] 24)).alloc (Obj.cells #[Value.slice (some { block := w7.heap.size + 1, off := 0 }) 1 1, Value.slice (some { block := w7.heap.size + 1 + 1, off := 0 }) 1 1] 55)) := ⟨_, rfl⟩
 rw [← hZ] at q0 q1 q2 q3 hbz ⊢
 rw [← hp] at q0 q1 q2 q3 ⊢
 clear hZ
 have la : ∀ g, (Value.slice Aa t.length ca).ownBlock = some g → g < w6.heap.size := HL6.out.1
 have lb : ∀ g, (Value.slice Ab t.length cb).ownBlock = some g → g < w6.heap.size := HL6.out.2
 have s67 : w6.heap.size ≤ p := by rw [hp]; exact HS7.out
 have hOn : ∀ g, w6.heap.size ≤ g → who (.slice Aa t.length ca) (.slice Ab t.length cb) g = none := fun g hg => who_none (fun h => by have := la g h; omega) (fun h => by have := lb g h; omega)
 have hra : Rw EL Z (who (.slice Aa t.length ca) (.slice Ab t.length cb)) 0 (.slice Aa t.length ca) t.length ca 0 := Rw_of_R (Kd.Zz HVa.out hbz) (fun g hg => if_pos hg)
 have hrb : Rw EL Z (who (.slice Aa t.length ca) (.slice Ab t.length cb)) 1 (.slice Ab t.length cb) t.length cb 0 := Rw_of_R (Kd.Zz HVb.out hbz) (fun g hg => (if_neg (fun h => by have h1 := HLa.out g h; have h2 := Kd.ZV HVb.out g hg; omega)).trans (if_pos hg))
 have HAP := Zb.mk (ApartWholes_calls (who (.slice Aa t.length ca) (.slice Ab t.length cb)) q3 q1 q2 hra hrb htl htl (hOn _ (by omega)) (hOn _ (by omega)) (Nat.ne_of_lt (Nat.lt_succ_self _)))
 have HZB := Zb.mk (Zl HBw.out hbz)
 have HQ0 := Zb.mk q0
 have HWC := Zb.mk (And.intro HCW.out (And.intro hbz hp))
 have HON := Zb.mk hOn
 have HPS := Zb.mk (show p < Z.heap.size from Zw q0)
 have H6P := Zb.mk s67
 have HPW := Zb.mk (show w.heap.size ≤ p from by rw [hp]; exact HBw.out.size)
 have HBa := Zb.mk (Kd.ZV HVa.out)
 have HBb := Zb.mk (Kd.ZV HVb.out)
 clear q0 q1 q2 q3 hbz la lb s67 hOn hra hrb HVa HVb HBw HCW hp
 refine HAP.out.mono ?_
 rintro ev w8 ⟨rfl, hfr⟩
 have hS : ∀ g, w6.heap.size ≤ g → g ≤ p → ¬ (who (.slice Aa t.length ca) (.slice Ab t.length cb) g ≠ none ∨ g = p + 1 ∨ g = p + 1 + 1) := fun g h1 h2 h3 => by
  rcases h3 with h3 | h3 | h3
  ·exact h3 (HON.out g h1)
  ·omega
  ·omega
 have hw8 := (hfr.block p HPS.out (hS p H6P.out (Nat.le_refl _))).trans HQ0.out
 have hc8 := C_fr HWC.out.1 HWC.out.2.1 hfr (fun g hg hlt => hS g.block (HGW.out g.block (by rw [hg]; rfl)) (by rw [HWC.out.2.2]; exact Nat.le_of_lt hlt))
 have hb8 : Below w.heap.size w w8 := HZB.out.trans (hfr.to_below HZB.out.size (fun g hg hs => by
  rcases hs with hs | hs | hs
  ·rcases who_some hs with h | h
   ·exact Nat.le_trans HSa.out (HBa.out g h)
   ·exact Nat.le_trans HXs.out (HBb.out g h)
  ·have := HPW.out; omega
  ·have := HPW.out; omega))
 have HW8 := Zb.mk hw8
 have HC8 := Zb.mk hc8
 have HB8 := Zb.mk hb8
 clear hfr hS hw8 hc8 hb8 HQ0 HWC HZB HAP
 go_wp2_with fail
 refine (base_Parse.calls k s b sg t 0 0 _ HQ.out).mono ?_
 rintro ev w9 ⟨v, rfl, hvd, hb⟩
 obtain ⟨Ad, cd, rfl⟩ := Kd.Zy hvd
 have HVd := Zb.mk hvd
 replace HW8 := Zb.mk (Zn HW8.out hb)
 replace HC8 := Zb.mk (Kd.C_below HC8.out hb)
 replace HB8 := Zb.mk (Zl HB8.out hb)
 clear hb hvd
 have hx0 : w9.cell? ⟨p, 0, none⟩ = some (.bool sg) := (Zk HW8.out 0).trans rfl
 have hx1 : w9.cell? ⟨p, 1, none⟩ = some (.slice Aw t.length cw) := (Zk HW8.out 1).trans rfl
 have lt1 : p < w9.heap.size := Zw HW8.out
 have lt2 : p < w9.heap.size + 1 := by omega
 go_wp2_with fail
 have hbv := Zc (Zc (Below.refl w9.heap.size w9) (Obj.cells #[Value.bool sg, Value.slice Ad t.length cd] 24)) (Obj.cells #[Value.int IntKind.i64 0, Value.int IntKind.i64 0] 35)
 have HVB := Zb.mk hbv
 clear hx0 hx1 lt1 lt2 hbv
 refine (rkSameInt.calls k sg Ad cd t sg Aw cw t true _ (Kd.C_below (Kd.Zv HVd.out).2.2 HVB.out) (Kd.Zv HVd.out).2.1 (Kd.C_below HC8.out HVB.out) hcw HS.out).mono ?_
 rintro ev w10 ⟨rfl, hb⟩
 have HB10 := Zb.mk (Zl (Zl HB8.out HVB.out) hb)
 clear hb
 go_wp2_with fail
 refine (w19awake.calls k true _ HA.out).mono ?_
 rintro ev w11 ⟨rfl, hb⟩
 have HB11 := Zb.mk (Zl HB10.out hb)
 clear hb
 go_wp2_with fail
 go_ret
 exact ⟨rfl, HB11.out⟩
end Go.Proofs.Ytbmddlldadbfnaa.BS
end
section
namespace Go.Proofs.Ytbmddlldadbfnaa.BM
open Go.RowKit Go.Proofs.YtbmddlldadbfnaaW.PrintWords Go.Proofs.YtbmddlldadbfnaaW.PrintLast Go.Proofs.YtbmddlldadbfnaaW.PrintMore
open Go.Proofs.Ytbmddlldadbfnaa.BB
theorem nattrim_l0 (B : Int) : ∀ (m : Nat) {l : List Int} {n : Int}, m ≤ l.length → l.length < 1099511627776 → Num B (l.take m) n →
  ∃ r, Ev (fun k => r00NatTrim.l0 k l m) r ∧ Can B r n ∧ r.length ≤ m
 | 0, l, n, hm, hb, hn => by
  have hv : n = 0 := by rw [← hn.2]; simp [V]
  subst hv
  refine ⟨[], Ev.succ (Ev.congr (Ev.pure _) fun k => ?_), Can_nil B, by simp⟩
  rw [r00NatTrim.l0, if_neg (by omega), if_pos (by omega), if_pos (by omega)]
  simp
 | m + 1, l, n, hm, hb, hn => by
  have e : wrap64 (((m + 1 : Nat) : Int) - 1) = ((m : Nat) : Int) := by rw [w64 (by omega) (by omega)]; omega
  have c0 : ((m + 1 : Nat) : Int) > 0 := by clear e; omega
  have c1 : ((m : Nat) : Int) < (l.length : Int) := by clear e; omega
  by_cases h0 : rd l ((m : Nat) : Int) = 0
  ·obtain ⟨r, he, hc, hl⟩ := nattrim_l0 B m (l := l) (n := n) (by clear e; omega) (by clear e; omega)
    ⟨Dig_take (by have := Dig_take hn.1 m; rwa [List.take_take, Nat.min_eq_left (by clear e; omega)] at this) m |> fun h => by rwa [List.take_take, Nat.min_self] at h, by rw [V_take_zero B l (by clear e; omega) h0]; exact hn.2⟩
   refine ⟨r, Ev.succ (Ev.congr he fun k => ?_), hc, by clear e; omega⟩
   rw [r00NatTrim.l0, e, if_pos c0, if_pos (Int.natCast_nonneg _), if_pos c1, if_pos h0]
  ·refine ⟨l.take (m + 1), Ev.succ (Ev.congr (Ev.pure _) fun k => ?_), ⟨hn, Top_take (by clear e; omega) h0⟩, by rw [List.length_take]; clear e; omega⟩
   have c2 : ((m + 1 : Nat) : Int) ≤ (l.length : Int) := by clear e; omega
   have c3 : ([] : List Int).length + (l.take (m + 1)).length < 17592186044416 := by rw [List.length_take, List.length_nil]; clear e; omega
   rw [r00NatTrim.l0, e, if_pos c0, if_pos (Int.natCast_nonneg _), if_pos c1, if_neg h0, if_pos (Int.natCast_nonneg _), if_pos c2, Int.toNat_natCast, if_pos c3]
   simp
theorem nattrim_ev (B : Int) {l : List Int} {n : Int} (hb : l.length < 1099511627776) (hn : Num B l n) : ∃ r, Ev (fun k => r00NatTrim.f k l) r ∧ Can B r n ∧ r.length ≤ l.length :=
 nattrim_l0 B l.length (Nat.le_refl _) hb (by rw [List.take_length]; exact hn)
end Go.Proofs.Ytbmddlldadbfnaa.BM
end
section
namespace Go.Proofs.Ytbmddlldadbfnaa.BM
open Go.RowKit Go.Proofs.YtbmddlldadbfnaaW.PrintWords Go.Proofs.YtbmddlldadbfnaaW.PrintLast Go.Proofs.YtbmddlldadbfnaaW.PrintMore
open Go.Proofs.Ytbmddlldadbfnaa.BB
theorem rd_set (l : List Int) (i t : Nat) (d : Int) (hi : i < l.length) : rd (l.set i d) (t : Int) = if t = i then d else rd l (t : Int) := by
 unfold rd
 simp only [List.getD_eq_getElem?_getD, Int.toNat_natCast, List.getElem?_set]
 by_cases h : i = t
 ·subst h; simp [hi]
 ·rw [if_neg h, if_neg (fun h' => h h'.symm)]
end Go.Proofs.Ytbmddlldadbfnaa.BM
end
section
namespace Go.Proofs.Ytbmddlldadbfnaa.BM
open Go.RowKit Go.Proofs.YtbmddlldadbfnaaW.PrintWords Go.Proofs.YtbmddlldadbfnaaW.PrintLast Go.Proofs.YtbmddlldadbfnaaW.PrintMore
open Go.Proofs.Ytbmddlldadbfnaa.BA
theorem trim_ev (B : Int) : ∀ (m : Nat) {l : List Int} {n : Int}, l.length = m → m < 4611686018427387904 → Num B l n →
  ∃ r, Ev (fun k => big_trim.f k l) r ∧ Can B r n ∧ r.length ≤ m
 | 0, l, n, hm, _, hn => by
  have : l = [] := List.eq_nil_of_length_eq_zero hm
  subst this
  refine ⟨[], Ev.succ (Ev.congr (Ev.pure _) fun k => ?_), ⟨hn, fun h => absurd rfl h⟩, by simp⟩
  simp [big_trim.f, big_trim.l0]
 | m + 1, l, n, hm, hb, hn => by
  have e : wrap64 ((l.length : Int) - 1) = ((m : Nat) : Int) := by rw [w64 (by omega) (by omega)]; omega
  by_cases h0 : rd l ((m : Nat) : Int) = 0
  ·obtain ⟨r, he, hc, hl⟩ := trim_ev B m (l := l.take m) (n := n) (by rw [List.length_take]; omega) (by omega)
    ⟨Dig_take hn.1 m, by rw [V_take_zero B l (by omega) h0, show m + 1 = l.length by omega, List.take_length]; exact hn.2⟩
   refine ⟨r, Ev.succ (Ev.congr he fun k => ?_), hc, by omega⟩
   show big_trim.l0 (k + 1) l = big_trim.l0 k _
   rw [big_trim.l0, e, if_pos (by omega), if_pos (by omega), if_pos (by omega), if_pos h0, if_pos (by omega)]
   simp
  ·refine ⟨l, Ev.succ (Ev.congr (Ev.pure _) fun k => ?_), ⟨hn, ?_⟩, by omega⟩
   ·show big_trim.l0 (k + 1) l = _
    rw [big_trim.l0, e, if_pos (by omega), if_pos (by omega), if_pos (by omega), if_neg h0]
   ·have := Top_take (l := l) (i := m) (by omega) h0
    rwa [show m + 1 = l.length by omega, List.take_length] at this
theorem trim_can {B : Int} (hB : 1 < B) {l : List Int} {n : Int} (h : Can B l n) (hl : l.length < 4611686018427387904) : Ev (fun k => big_trim.f k l) l := by
 obtain ⟨r, he, hc, _⟩ := trim_ev B l.length rfl hl h.1
 rwa [Can_unique hB hc h] at he
theorem mul64 {a b : Int} (ha0 : 0 ≤ a) (ha : a < 18446744073709551616) (hb0 : 0 ≤ b) (hb : b < 18446744073709551616) : bits_Mul64.f a b = some (a * b / 18446744073709551616, a * b % 18446744073709551616) := by
 unfold bits_Mul64.f
 have := mul64_arith a b ha0 ha hb0 hb
 simp only [u64m]
 rw [and_low32 a ha0 ha, and_low32 b hb0 hb, and_low32 _ (Int.emod_nonneg _ (by omega)) (Int.emod_lt_of_pos _ (by omega)), this]
theorem add64 {a b c : Int} (ha0 : 0 ≤ a) (hb0 : 0 ≤ b) (hc0 : 0 ≤ c) (hc : c ≤ 1) : bits_Add64.f a b c = some ((a + b + c) % 18446744073709551616, (a + b + c) / 18446744073709551616) := by
 unfold bits_Add64.f
 rw [if_pos ⟨ha0, hb0, hc0, hc⟩]
theorem chunk_loop (b : Int) (hb : 2 ≤ b) (hb' : b ≤ 36) : ∀ (j e : Nat), 1 ≤ e → e + j = 64 → b ^ e < 18446744073709551616 →
  ∃ r : Nat, 1 ≤ r ∧ r ≤ 64 ∧ b ^ r < 18446744073709551616 ∧ 18446744073709551616 ≤ b ^ (r + 1) ∧ Ev (fun k => big_chunk.l0 k b (b ^ e) e) (b ^ r, (r : Int)) := by
 intro j
 induction j with
 | zero =>
  intro e he hj hlt
  exfalso
  have h1 := pow_mono (by omega) hb e
  have : e = 64 := by omega
  subst this
  have h2 : (2 : Int) ^ 64 = 18446744073709551616 := by decide
  omega
 | succ j ih =>
  intro e he hj hlt
  have hp := pow_pos' (show 0 < b by omega) e
  have hm := mul64 (a := b ^ e) (b := b) (by omega) hlt (by omega) (by omega)
  have hu : IntKind.u64.wrap b = b := u64 (by omega) (by omega)
  by_cases hz : b ^ e * b / 18446744073709551616 = 0
  ·have hlt2 : b ^ (e + 1) < 18446744073709551616 := by rw [Int.pow_succ]; omega
   have heq : b ^ e * b % 18446744073709551616 = b ^ (e + 1) := by
    rw [Int.pow_succ] at hlt2 ⊢
    exact Int.emod_eq_of_lt (by have := Int.mul_pos hp (show 0 < b by omega); omega) hlt2
   obtain ⟨r, h1, h2, h3, h4, h5⟩ := ih (e + 1) (by omega) (by omega) hlt2
   refine ⟨r, h1, h2, h3, h4, Ev.succ (Ev.congr h5 fun k => ?_)⟩
   rw [big_chunk.l0, hu, hm]
   simp only [Option.bind_some, hz, if_true, heq]
   rw [w64 (by omega) (by omega)]
   simp
  ·refine ⟨e, he, by omega, hlt, ?_, Ev.succ (Ev.congr (Ev.pure _) fun k => ?_)⟩
   ·rw [Int.pow_succ]; have := Int.mul_pos hp (show 0 < b by omega); omega
   ·rw [big_chunk.l0, hu, hm]
    simp only [Option.bind_some, hz, if_false]
theorem chunk_ev (b : Int) (hb : 2 ≤ b) (hb' : b ≤ 36) :
  ∃ r : Nat, 1 ≤ r ∧ r ≤ 64 ∧ b ^ r < 18446744073709551616 ∧ 18446744073709551616 ≤ b ^ (r + 1) ∧ Ev (fun k => big_chunk.f k b) (b ^ r, (r : Int)) := by
 obtain ⟨r, h1, h2, h3, h4, h5⟩ := chunk_loop b hb hb' 63 1 (by omega) (by omega) (by rw [Int.pow_one]; omega)
 refine ⟨r, h1, h2, h3, h4, Ev.congr h5 fun k => ?_⟩
 rw [big_chunk.f, u64 (show 0 ≤ b by omega) (show b < 18446744073709551616 by omega), Int.pow_one]; rfl
theorem plus_alg (B P vp c va vb d c2 x y : Int) (h : vp + P * c = va + vb) (h2 : x + y + c = d + B * c2) : vp + P * d + P * B * c2 = va + P * x + (vb + P * y) := by grind
theorem plusE_loop {a b : List Int} (hab : b.length ≤ a.length) (ha : Dig 18446744073709551616 a) (hb : Dig 18446744073709551616 b) (hl : a.length < 1099511627776) :
  ∀ (j i : Nat) (p : List Int) (c : Int), i + j = a.length → p.length = i → Dig 18446744073709551616 p → 0 ≤ c → c ≤ 1 →
   V 18446744073709551616 p + 18446744073709551616 ^ i * c = V 18446744073709551616 (a.take i) + V 18446744073709551616 (b.take i) →
   ∃ r, Ev (fun k => big_plus_E1.l0 k a b (p ++ List.replicate (j + 1) 0) c a a.length i) r ∧ Can 18446744073709551616 r (V 18446744073709551616 a + V 18446744073709551616 b) ∧ r.length ≤ a.length + 1 := by
 intro j
 induction j with
 | zero =>
  intro i p c hi hp hd hc0 hc1 hv
  have e1 : i = a.length := by omega
  rw [List.take_of_length_le (by omega), List.take_of_length_le (by omega)] at hv
  obtain ⟨r, he, hcan, hlen⟩ := trim_ev 18446744073709551616 (a.length + 1) (l := p ++ [c]) (n := V 18446744073709551616 a + V 18446744073709551616 b) (by simp; omega) (by omega)
   ⟨Dig_snoc hd hc0 (by omega), by rw [V_snoc, hp]; exact hv⟩
  refine ⟨r, Ev.succ (Ev.congr he fun k => ?_), hcan, hlen⟩
  rw [big_plus_E1.l0, if_neg (by omega), if_pos (by omega), if_pos (by simp; omega), show ((a.length : Int)).toNat = p.length by omega, set_pad]
  simp
 | succ j ih =>
  intro i p c hi hp hd hc0 hc1 hv
  have ra := rd_dig ha (i := (i : Int)) (by omega) (by omega)
  have stepEq : ∃ y, 0 ≤ y ∧ y < 18446744073709551616 ∧ V 18446744073709551616 (b.take (i + 1)) = V 18446744073709551616 (b.take i) + 18446744073709551616 ^ i * y ∧
    ((i : Int) < (b.length : Int) → rd b (i : Int) = y) ∧ (¬ (i : Int) < (b.length : Int) → y = 0) := by
   by_cases hib : i < b.length
   ·have rb := rd_dig hb (i := (i : Int)) (by omega) (by omega)
    exact ⟨rd b (i : Int), rb.1, rb.2, V_take 18446744073709551616 b hib, fun _ => rfl, fun h => absurd (by omega) h⟩
   ·refine ⟨0, by omega, by omega, ?_, fun h => absurd h (by omega), fun _ => rfl⟩
    rw [List.take_of_length_le (by omega), List.take_of_length_le (by omega)]; omega
  obtain ⟨y, y0, y1, hvb, hy1, hy2⟩ := stepEq
  have had := add64 (a := rd a (i : Int)) (b := y) (c := c) ra.1 y0 hc0 hc1
  generalize hs : rd a (i : Int) + y + c = s at had
  obtain ⟨r, he, hcan, hlen⟩ := ih (i + 1) (p ++ [s % 18446744073709551616]) (s / 18446744073709551616) (by omega) (by simp; omega) (Dig_snoc hd (by omega) (by omega)) (by omega) (by omega) (by
   rw [V_snoc, hp, V_take 18446744073709551616 a (by omega), hvb, Int.pow_succ]
   exact plus_alg 18446744073709551616 (18446744073709551616 ^ i) _ c _ _ _ _ _ _ hv (by omega))
  refine ⟨r, Ev.succ (Ev.congr he fun k => ?_), hcan, hlen⟩
  rw [big_plus_E1.l0, if_pos (by omega), if_pos (by omega), if_pos (by omega), w64 (by omega) (by omega)]
  by_cases hib : (i : Int) < (b.length : Int)
  ·rw [if_pos hib, hy1 hib, had]
   simp only [Option.bind_some]
   rw [if_pos (by simp; omega), show ((i : Nat) : Int).toNat = p.length by omega, set_pad]
   simp
  ·have := hy2 hib
   subst this
   rw [if_neg hib, had]
   simp only [Option.bind_some]
   rw [if_pos (by simp; omega), show ((i : Nat) : Int).toNat = p.length by omega, set_pad]
   simp
theorem plusT_loop {a b : List Int} (hab : b.length ≤ a.length) (ha : Dig 18446744073709551616 a) (hb : Dig 18446744073709551616 b) (hl : a.length < 1099511627776) :
  ∀ (j i : Nat) (p : List Int) (c : Int), i + j = a.length → p.length = i → Dig 18446744073709551616 p → 0 ≤ c → c ≤ 1 →
   V 18446744073709551616 p + 18446744073709551616 ^ i * c = V 18446744073709551616 (a.take i) + V 18446744073709551616 (b.take i) →
   ∃ r, Ev (fun k => big_plus_T1.l0 k a b (p ++ List.replicate (j + 1) 0) c a a.length i) r ∧ Can 18446744073709551616 r (V 18446744073709551616 a + V 18446744073709551616 b) ∧ r.length ≤ a.length + 1 := by
 intro j
 induction j with
 | zero =>
  intro i p c hi hp hd hc0 hc1 hv
  have e1 : i = a.length := by omega
  rw [List.take_of_length_le (by omega), List.take_of_length_le (by omega)] at hv
  obtain ⟨r, he, hcan, hlen⟩ := trim_ev 18446744073709551616 (a.length + 1) (l := p ++ [c]) (n := V 18446744073709551616 a + V 18446744073709551616 b) (by simp; omega) (by omega)
   ⟨Dig_snoc hd hc0 (by omega), by rw [V_snoc, hp]; exact hv⟩
  refine ⟨r, Ev.succ (Ev.congr he fun k => ?_), hcan, hlen⟩
  rw [big_plus_T1.l0, if_neg (by omega), if_pos (by omega), if_pos (by simp; omega), show ((a.length : Int)).toNat = p.length by omega, set_pad]
  simp
 | succ j ih =>
  intro i p c hi hp hd hc0 hc1 hv
  have ra := rd_dig ha (i := (i : Int)) (by omega) (by omega)
  have stepEq : ∃ y, 0 ≤ y ∧ y < 18446744073709551616 ∧ V 18446744073709551616 (b.take (i + 1)) = V 18446744073709551616 (b.take i) + 18446744073709551616 ^ i * y ∧
    ((i : Int) < (b.length : Int) → rd b (i : Int) = y) ∧ (¬ (i : Int) < (b.length : Int) → y = 0) := by
   by_cases hib : i < b.length
   ·have rb := rd_dig hb (i := (i : Int)) (by omega) (by omega)
    exact ⟨rd b (i : Int), rb.1, rb.2, V_take 18446744073709551616 b hib, fun _ => rfl, fun h => absurd (by omega) h⟩
   ·refine ⟨0, by omega, by omega, ?_, fun h => absurd h (by omega), fun _ => rfl⟩
    rw [List.take_of_length_le (by omega), List.take_of_length_le (by omega)]; omega
  obtain ⟨y, y0, y1, hvb, hy1, hy2⟩ := stepEq
  have had := add64 (a := rd a (i : Int)) (b := y) (c := c) ra.1 y0 hc0 hc1
  generalize hs : rd a (i : Int) + y + c = s at had
  obtain ⟨r, he, hcan, hlen⟩ := ih (i + 1) (p ++ [s % 18446744073709551616]) (s / 18446744073709551616) (by omega) (by simp; omega) (Dig_snoc hd (by omega) (by omega)) (by omega) (by omega) (by
   rw [V_snoc, hp, V_take 18446744073709551616 a (by omega), hvb, Int.pow_succ]
   exact plus_alg 18446744073709551616 (18446744073709551616 ^ i) _ c _ _ _ _ _ _ hv (by omega))
  refine ⟨r, Ev.succ (Ev.congr he fun k => ?_), hcan, hlen⟩
  rw [big_plus_T1.l0, if_pos (by omega), if_pos (by omega), if_pos (by omega), w64 (by omega) (by omega)]
  by_cases hib : (i : Int) < (b.length : Int)
  ·rw [if_pos hib, hy1 hib, had]
   simp only [Option.bind_some]
   rw [if_pos (by simp; omega), show ((i : Nat) : Int).toNat = p.length by omega, set_pad]
   simp
  ·have := hy2 hib
   subst this
   rw [if_neg hib, had]
   simp only [Option.bind_some]
   rw [if_pos (by simp; omega), show ((i : Nat) : Int).toNat = p.length by omega, set_pad]
   simp
theorem plus_ev {a b : List Int} (ha : Dig 18446744073709551616 a) (hb : Dig 18446744073709551616 b) (hla : a.length < 1099511627776) (hlb : b.length < 1099511627776) :
  ∃ r, Ev (fun k => big_plus.f k a b) r ∧ Can 18446744073709551616 r (V 18446744073709551616 a + V 18446744073709551616 b) ∧ r.length ≤ max a.length b.length + 1 := by
 by_cases h : (a.length : Int) < (b.length : Int)
 ·obtain ⟨r, he, hc, hl⟩ := plusT_loop (a := b) (b := a) (by omega) hb ha hlb b.length 0 [] 0 (by omega) rfl (Dig_nil _) (by omega) (by omega) (by simp [V])
  refine ⟨r, Ev.congr he fun k => ?_, by rw [Int.add_comm]; exact hc, by omega⟩
  unfold big_plus.f big_plus_T1.f
  have e : wrap64 ((b.length : Int) + 1) = (b.length : Int) + 1 := w64 (by omega) (by omega)
  rw [if_pos h, if_pos h, e, if_pos (by omega), if_pos (by omega)]
  simp [show ((b.length : Int) + 1).toNat = b.length + 1 by omega]
 ·obtain ⟨r, he, hc, hl⟩ := plusE_loop (a := a) (b := b) (by omega) ha hb hla a.length 0 [] 0 (by omega) rfl (Dig_nil _) (by omega) (by omega) (by simp [V])
  refine ⟨r, Ev.congr he fun k => ?_, hc, by omega⟩
  unfold big_plus.f big_plus_E1.f
  have e : wrap64 ((a.length : Int) + 1) = (a.length : Int) + 1 := w64 (by omega) (by omega)
  rw [if_neg h, if_neg h, e, if_pos (by omega), if_pos (by omega)]
  simp [show ((a.length : Int) + 1).toNat = a.length + 1 by omega]
end Go.Proofs.Ytbmddlldadbfnaa.BM
end
section
namespace Go.Proofs.Ytbmddlldadbfnaa.BM
open Go.RowKit Go.Proofs.YtbmddlldadbfnaaW.PrintWords Go.Proofs.YtbmddlldadbfnaaW.PrintLast Go.Proofs.YtbmddlldadbfnaaW.PrintMore
open Go.Proofs.Ytbmddlldadbfnaa.BA
theorem times_alg (B P vp c va m d c2 x : Int) (h : vp + P * c = va * m) (h2 : x * m + c = d + B * c2) : vp + P * d + P * B * c2 = (va + P * x) * m := by
 rw [show vp + P * d + P * B * c2 = vp + P * (d + B * c2) by grind, ← h2, show vp + P * (x * m + c) = (vp + P * c) + P * x * m by grind, h, Int.add_mul]
theorem times_step (k : Nat) (x1 x5 : List Int) (x6 x7 x8 : Int) (x29 : List Int) (x30 x31 : Int) (x36 : List Int) (x37 x38 hi lo s1 c1 s2 c2 : Int)
  (h : x38 < x37) (h0 : 0 ≤ x38) (h1 : x38 < (x36.length : Int)) (hm : bits_Mul64.f x7 (rd x36 x38) = some (hi, lo)) (h2 : 0 ≤ wrap64 (x6 + x38)) (h3 : wrap64 (x6 + x38) < (x5.length : Int))
  (ha : bits_Add64.f lo (rd x5 (wrap64 (x6 + x38))) 0 = some (s1, c1)) (hb : bits_Add64.f s1 x8 0 = some (s2, c2)) :
  big_times.l1 (k + 1) x1 x5 x6 x7 x8 x29 x30 x31 x36 x37 x38 = big_times.l1 k x1 (x5.set (wrap64 (x6 + x38)).toNat s2) x6 x7 (IntKind.u64.wrap (IntKind.u64.wrap (hi + c1) + c2)) x29 x30 x31 x36 x37 (wrap64 (x38 + 1)) := by
 rw [big_times.l1, if_pos h, if_pos h0, if_pos h1, hm]
 simp only [Option.bind_some]
 rw [if_pos h2, if_pos h3, ha]
 simp only [Option.bind_some]
 rw [hb]
 simp only [Option.bind_some]
theorem times_outer (k : Nat) (m : Int) (x5 a : List Int) (i : Nat) (hi lo s1 c1 s2 c2 y : Int) (hl : a.length < 1099511627776) (h : i < a.length) (h5 : i + 1 < x5.length)
  (hm : bits_Mul64.f (rd a i) m = some (hi, lo)) (ha : bits_Add64.f lo (rd x5 i) 0 = some (s1, c1)) (hb : bits_Add64.f s1 0 0 = some (s2, c2))
  (hy : IntKind.u64.wrap (IntKind.u64.wrap (hi + c1) + c2) = y) :
  big_times.l0 (k + 1 + 1 + 1) [m] x5 a a.length i = big_times.l0 k [m] ((x5.set i s2).set (i + 1) y) a a.length ((i + 1 : Nat) : Int) := by
 have ew : wrap64 ((i : Int) + 0) = (i : Int) := by rw [w64 (by omega) (by omega)]; omega
 have e1 : wrap64 (0 + 1) = 1 := by rw [w64 (by omega) (by omega)]; rfl
 have e2 : wrap64 ((i : Int) + (([m] : List Int).length : Int)) = ((i + 1 : Nat) : Int) := by rw [w64 (by simp; omega) (by simp; omega)]; simp
 have e3 : wrap64 ((i : Int) + 1) = ((i + 1 : Nat) : Int) := by rw [w64 (by omega) (by omega)]; omega
 rw [big_times.l0, if_pos (by omega), if_pos (by omega), if_pos (by omega)]
 rw [times_step (k + 1) [m] x5 (i : Int) (rd a i) 0 a a.length i [m] ([m] : List Int).length 0 hi lo s1 c1 s2 c2 (by simp) (by omega) (by simp) hm (by rw [ew]; omega) (by rw [ew]; omega) (by rw [ew]; exact ha) hb]
 rw [ew, e1, hy, big_times.l1, if_neg (by simp), e2, e3, if_pos (by omega), if_pos (by rw [List.length_set]; omega)]
 rfl
theorem times_carry (s c : Int) (h0 : 0 ≤ s) (h1 : s ≤ 340282366920938463426481119284349108225) (hc0 : 0 ≤ c) (hc1 : c < 18446744073709551616) :
  IntKind.u64.wrap (IntKind.u64.wrap (s / 18446744073709551616 + (s % 18446744073709551616 + c + 0) / 18446744073709551616) + ((s % 18446744073709551616 + c + 0) % 18446744073709551616 + 0 + 0) / 18446744073709551616) = (s + c) / 18446744073709551616 := by
 rw [u64m, u64m]
 omega
theorem times_loop {a : List Int} (ha : Dig 18446744073709551616 a) {m : Int} (hm0 : 0 ≤ m) (hm : m < 18446744073709551616) (hl : a.length < 1099511627776) :
  ∀ (j i : Nat) (p : List Int) (c : Int), i + j = a.length → p.length = i → Dig 18446744073709551616 p → 0 ≤ c → c < 18446744073709551616 → V 18446744073709551616 p + 18446744073709551616 ^ i * c = V 18446744073709551616 (a.take i) * m →
   ∃ r, Ev (fun k => big_times.l0 k [m] ((p ++ [c]) ++ List.replicate j 0) a a.length i) r ∧ Can 18446744073709551616 r (V 18446744073709551616 a * m) ∧ r.length ≤ a.length + 1 := by
 intro j
 induction j with
 | zero =>
  intro i p c hi hp hd hc0 hc1 hv
  rw [List.take_of_length_le (by omega)] at hv
  obtain ⟨r, he, hcan, hlen⟩ := trim_ev 18446744073709551616 (a.length + 1) (l := p ++ [c]) (n := V 18446744073709551616 a * m) (by simp; omega) (by omega)
   ⟨Dig_snoc hd hc0 (by omega), by rw [V_snoc, hp]; exact hv⟩
  refine ⟨r, Ev.succ (Ev.congr he fun k => ?_), hcan, hlen⟩
  rw [big_times.l0, if_neg (by omega)]
  simp
 | succ j ih =>
  intro i p c hi hp hd hc0 hc1 hv
  have ra := rd_dig ha (i := (i : Int)) (by omega) (by omega)
  have hmul := mul64 (a := rd a (i : Int)) (b := m) ra.1 ra.2 hm0 hm
  have hP0 := Int.mul_nonneg ra.1 hm0
  have hP1 : rd a (i : Int) * m ≤ 340282366920938463426481119284349108225 := by
   have := Int.mul_le_mul (show rd a (i : Int) ≤ 18446744073709551615 by omega) (show m ≤ 18446744073709551615 by omega) hm0 (by omega)
   simpa using this
  generalize hs : rd a (i : Int) * m = s at hmul hP0 hP1
  obtain ⟨r, he, hcan, hlen⟩ := ih (i + 1) (p ++ [(s + c) % 18446744073709551616]) ((s + c) / 18446744073709551616) (by omega) (by simp; omega) (Dig_snoc hd (by omega) (by omega)) (by omega) (by omega) (by
   rw [V_snoc, hp, V_take 18446744073709551616 a (by omega), Int.pow_succ]
   exact times_alg 18446744073709551616 (18446744073709551616 ^ i) _ c _ _ _ _ _ hv (by omega))
  refine ⟨r, Ev.succ (Ev.succ (Ev.succ (Ev.congr he fun k => ?_))), hcan, hlen⟩
  have e1 : rd (p ++ [c] ++ List.replicate (j + 1) 0) (i : Int) = c := by
   unfold rd; simp [List.getD_eq_getElem?_getD, hp]
  have e2 : (p ++ [c] ++ List.replicate (j + 1) 0).set i ((s + c) % 18446744073709551616) = (p ++ [(s + c) % 18446744073709551616]) ++ List.replicate (j + 1) 0 := by
   rw [← hp, List.append_assoc, List.set_append_right _ _ (Nat.le_refl _)]; simp
  have hA := add64 (a := s % 18446744073709551616) (b := c) (c := 0) (by omega) hc0 (by omega) (by omega)
  have hA2 := add64 (a := (s % 18446744073709551616 + c + 0) % 18446744073709551616) (b := 0) (c := 0) (by omega) (by omega) (by omega) (by omega)
  refine (times_outer k m _ a i _ _ _ _ _ _ _ hl (by omega) (by simp; omega) hmul (by rw [e1]; exact hA) hA2 (times_carry s c hP0 hP1 hc0 hc1)).trans ?_
  rw [show ((s % 18446744073709551616 + c + 0) % 18446744073709551616 + 0 + 0) % 18446744073709551616 = (s + c) % 18446744073709551616 by omega, e2]
  rw [show i + 1 = (p ++ [(s + c) % 18446744073709551616]).length by simp; omega, set_pad]
theorem times_ev {a : List Int} (ha : Dig 18446744073709551616 a) {m : Int} (hm0 : 0 ≤ m) (hm : m < 18446744073709551616) (hl : a.length < 1099511627776) :
  ∃ r, Ev (fun k => big_times.f k a [m]) r ∧ Can 18446744073709551616 r (V 18446744073709551616 a * m) ∧ r.length ≤ a.length + 1 := by
 by_cases h0 : a.length = 0
 ·have : a = [] := List.eq_nil_of_length_eq_zero h0
  subst this
  refine ⟨[], Ev.succ (Ev.congr (Ev.pure _) fun k => ?_), by simpa [V] using Can_nil 18446744073709551616, by simp⟩
  simp [big_times.f, big_times.j0]
 ·obtain ⟨r, he, hc, hlen⟩ := times_loop ha hm0 hm hl a.length 0 [] 0 (by omega) rfl (Dig_nil _) (by omega) (by omega) (by simp [V])
  refine ⟨r, Ev.succ (Ev.congr he fun k => ?_), hc, hlen⟩
  have e : wrap64 ((a.length : Int) + (([m] : List Int).length : Int)) = (a.length : Int) + 1 := by simp; rw [w64 (by omega) (by omega)]
  unfold big_times.f
  rw [if_neg (by omega), big_times.j0, if_neg (by simp), e, if_pos (by omega), if_pos (by omega)]
  simp [show ((a.length : Int) + 1).toNat = a.length + 1 by omega, List.replicate_succ]
end Go.Proofs.Ytbmddlldadbfnaa.BM
end
section
namespace Go.Proofs.Ytbmddlldadbfnaa.BM
open Go.RowKit Go.Proofs.YtbmddlldadbfnaaW.PrintWords Go.Proofs.YtbmddlldadbfnaaW.PrintLast Go.Proofs.YtbmddlldadbfnaaW.PrintMore
open Go.Proofs.Ytbmddlldadbfnaa.BA
def wv (c b : Int) : Int := if 48 ≤ c ∧ c ≤ 57 ∧ c - 48 < b then c - 48 else if 97 ≤ c ∧ c ≤ 122 ∧ c - 87 < b then c - 87 else -1
theorem wv_lt (c b : Int) (hb : 0 < b) : wv c b < b := by unfold wv; split <;> (try split) <;> omega
theorem worth_ev (c b : Int) (h0 : 0 ≤ c) (h1 : c < 256) (hb : 2 ≤ b) (hb' : b ≤ 36) : Ev (fun k => big_worth.f k c b) (wv c b) := by
 refine Ev.succ (Ev.succ (Ev.congr (Ev.pure _) fun k => ?_))
 simp only [big_worth.f, big_worth.j0, big_worth.j1, decide_eq_true_eq, wv]
 repeat' split
 all_goals first | rfl | (exfalso; omega) | (congr 1; omega)
def D (b : Int) (g : Nat → Int) : Nat → Int
 | 0 => 0
 | i + 1 => D b g i * b + g i
theorem D_add (b : Int) (g : Nat → Int) (i : Nat) : ∀ t, D b g (i + t) = D b g i * b ^ t + D b (fun j => g (i + j)) t
 | 0 => by simp [D]
 | t + 1 => by
  show D b g (i + t) * b + g (i + t) = _
  rw [D_add b g i t, Int.pow_succ]
  simp only [D]
  grind
theorem D_nonneg {b : Int} (hb : 0 ≤ b) {g : Nat → Int} : ∀ {t : Nat}, (∀ j, j < t → 0 ≤ g j) → 0 ≤ D b g t
 | 0, _ => by simp [D]
 | t + 1, h => by
  have h1 := D_nonneg hb (t := t) (fun j hj => h j (by omega))
  have h2 := h t (by omega)
  have := Int.mul_nonneg h1 hb
  simp only [D]; omega
theorem D_lt {b : Int} (hb : 0 < b) {g : Nat → Int} : ∀ {t : Nat}, (∀ j, j < t → g j < b) → D b g t < b ^ t
 | 0, _ => by simp [D]
 | t + 1, h => by
  have h1 := D_lt hb (t := t) (fun j hj => h j (by omega))
  have h2 := h t (by omega)
  have := Int.mul_le_mul_of_nonneg_right (show D b g t + 1 ≤ b ^ t by omega) (Int.le_of_lt hb)
  rw [Int.add_mul] at this
  rw [Int.pow_succ]; simp only [D]; omega
theorem D_congr {b : Int} {g g' : Nat → Int} : ∀ {t : Nat}, (∀ j, j < t → g j = g' j) → D b g t = D b g' t
 | 0, _ => rfl
 | t + 1, h => by simp only [D]; rw [D_congr (t := t) (fun j hj => h j (by omega)), h t (by omega)]
theorem bt_extract (s : ByteArray) {i j t : Nat} (h : i + t < j) (hj : j ≤ s.size) : bt (s.extract i j) ((t : Nat) : Int) = bt s ((i + t : Nat) : Int) := by
 unfold bt
 have h1 : ((t : Nat) : Int).toNat = t := by omega
 have h2 : ((i + t : Nat) : Int).toNat = i + t := by omega
 simp only [h1, h2]
 have hs : (s.extract i j).size = j - i := by rw [ByteArray.size_extract]; omega
 rw [dif_pos (by omega), dif_pos (by omega)]
 congr 2
 rw [ByteArray.getElem_extract]
theorem pow_lt_of_le {b : Int} (hb : 1 ≤ b) {m n : Nat} (h : m ≤ n) {c : Int} (hc : b ^ n < c) : b ^ m < c := by
 have := pow_le' hb h; omega
theorem ss_step (k : Nat) (s : ByteArray) (b : Int) (neg : Bool) (e : Int) (acc : List Int) (pos v p cnt : Int) (c : ByteArray) (n i w : Int) (h : i < n) (h0 : 0 ≤ i) (h1 : i < (c.size : Int))
  (hw : big_worth.f k (bt c i) b = some w) (hw0 : ¬ w < 0) :
  bISetString.l1 (k + 1) s b neg e acc pos v p cnt c n i =
   bISetString.l1 k s b neg e acc pos (IntKind.u64.wrap (IntKind.u64.wrap (v * IntKind.u64.wrap b) + IntKind.u64.wrap w)) (IntKind.u64.wrap (p * IntKind.u64.wrap b)) cnt c n (wrap64 (i + 1)) := by
 rw [bISetString.l1, if_pos h, if_pos h0, if_pos h1, hw]
 simp only [Option.bind_some]
 rw [if_neg hw0]
theorem Ev.step {α β : Type} {f : Nat → Option α} {g : Nat → Option β} {a : α} {r : β} {t : Nat → Option β} (hf : Ev f a) (h : ∀ k, f k = some a → t (k + 1) = g k) (hg : Ev g r) : Ev t r := by
 obtain ⟨K, hK⟩ := hf
 obtain ⟨L, hL⟩ := hg
 refine ⟨max K L + 1, fun k hk => ?_⟩
 have h1 := h (k - 1) (hK _ (by omega))
 rw [show k - 1 + 1 = k by omega] at h1
 rw [h1]
 exact hL _ (by omega)
def ssTail (s : ByteArray) (b : Int) (neg : Bool) (e : Int) (acc : List Int) (nxt v p : Int) (k : Nat) : Option (List Int × Bool) :=
 (big_times.f k acc [p]).bind fun t => (big_trim.f k [v]).bind fun u => (big_plus.f k t u).bind fun x => bISetString.l0 k s b neg e x nxt
theorem ss_l1 (s : ByteArray) (b : Int) (hb : 2 ≤ b) (hb' : b ≤ 36) (neg : Bool) (e : Int) (acc : List Int) (pos cnt nxt : Int) (hnx : wrap64 (pos + cnt) = nxt) (c : ByteArray) (hc : ∀ i : Nat, i < c.size → 0 ≤ wv (bt c i) b) (hn : c.size < 4294967296)
  (hp : b ^ c.size < 18446744073709551616) (r : List Int × Bool)
  (ht : Ev (ssTail s b neg e acc nxt (D b (fun i => wv (bt c i) b) c.size) (b ^ c.size)) r) :
  ∀ (j u : Nat), u + j = c.size → Ev (fun k => bISetString.l1 k s b neg e acc pos (D b (fun i => wv (bt c i) b) u) (b ^ u) cnt c c.size u) r := by
 intro j
 induction j with
 | zero =>
  intro u hu
  have : u = c.size := by omega
  subst this
  refine Ev.succ (Ev.congr ht fun k => ?_)
  rw [bISetString.l1, if_neg (by omega), hnx]
  rfl
 | succ j ih =>
  intro u hu
  have hbr := bt_range c (u : Int)
  refine Ev.step (worth_ev (bt c (u : Int)) b hbr.1 hbr.2 hb hb') (fun k hk => ?_) (ih (u + 1) (by omega))
  show bISetString.l1 (k + 1) s b neg e acc pos (D b (fun i => wv (bt c i) b) u) (b ^ u) cnt c c.size u = bISetString.l1 k s b neg e acc pos (D b (fun i => wv (bt c i) b) (u + 1)) (b ^ (u + 1)) cnt c c.size ((u + 1 : Nat) : Int)
  have hw0 := hc u (by omega)
  have hwl := wv_lt (bt c (u : Int)) b (by omega)
  have hD0 := D_nonneg (b := b) (g := fun i => wv (bt c i) b) (t := u) (by omega) (fun j hj => hc j (by omega))
  have hDl := D_lt (b := b) (g := fun i => wv (bt c i) b) (t := u + 1) (by omega) (fun j _ => wv_lt _ b (by omega))
  have hpu := pow_lt_of_le (show 1 ≤ b by omega) (show u + 1 ≤ c.size by omega) hp
  have hq := pow_pos' (show 0 < b by omega) u
  have hm0 := Int.mul_nonneg hD0 (show 0 ≤ b by omega)
  have hm1 := Int.mul_nonneg (Int.le_of_lt hq) (show 0 ≤ b by omega)
  have hbu : IntKind.u64.wrap b = b := u64 (by omega) (by omega)
  have hwu : IntKind.u64.wrap (wv (bt c (u : Int)) b) = wv (bt c (u : Int)) b := u64 (by omega) (by omega)
  have e1 : IntKind.u64.wrap (b ^ u * IntKind.u64.wrap b) = b ^ (u + 1) := by
   rw [Int.pow_succ] at hpu ⊢
   rw [hbu]
   exact u64 hm1 hpu
  simp only [D] at hDl ⊢
  have e2 : IntKind.u64.wrap (IntKind.u64.wrap (D b (fun i => wv (bt c i) b) u * IntKind.u64.wrap b) + IntKind.u64.wrap (wv (bt c (u : Int)) b)) = D b (fun i => wv (bt c i) b) u * b + wv (bt c (u : Int)) b := by
   rw [hwu, hbu, u64 hm0 (by omega)]
   exact u64 (by omega) (by omega)
  rw [ss_step k s b neg e acc pos _ _ cnt c _ _ _ (by omega) (by omega) (by omega) hk (by omega), e1, e2, w64 (by omega) (by omega)]
  rfl
theorem ss_outer (k : Nat) (s : ByteArray) (b : Int) (neg : Bool) (e : Int) (acc : List Int) (pos cnt : Nat) (h : pos < s.size) (he : e ≠ 0)
  (hcnt : wrap64 ((Int.tmod (wrap64 ((wrap64 ((s.size : Int) - (pos : Int))) - 1)) e) + 1) = (cnt : Int)) (e4 : wrap64 ((pos : Int) + (cnt : Int)) = ((pos + cnt : Nat) : Int)) (hle : pos + cnt ≤ s.size) :
  bISetString.l0 (k + 1) s b neg e acc pos = bISetString.l1 k s b neg e acc pos 0 1 cnt (s.extract pos (pos + cnt)) ((s.extract pos (pos + cnt)).size : Int) 0 := by
 rw [bISetString.l0, if_pos (by omega), if_neg he, if_pos (by omega), hcnt, e4, if_pos (by omega), if_pos (by omega)]
 simp only [Int.toNat_natCast]
theorem ss_cnt {n pos e : Nat} (h : pos < n) (hn : n < 1073741824) (he1 : 1 ≤ e) (he : e ≤ 64) :
  wrap64 ((Int.tmod (wrap64 ((wrap64 ((n : Int) - (pos : Int))) - 1)) (e : Int)) + 1) = (((n - pos - 1) % e + 1 : Nat) : Int) := by
 have h2 : (n - pos - 1) % e < e := Nat.mod_lt _ (by omega)
 rw [w64 (n := (n : Int) - (pos : Int)) (by omega) (by omega), w64 (n := (n : Int) - (pos : Int) - 1) (by omega) (by omega)]
 rw [show (n : Int) - (pos : Int) - 1 = ((n - pos - 1 : Nat) : Int) by omega]
 have h1 : Int.tmod ((n - pos - 1 : Nat) : Int) (e : Int) = (((n - pos - 1) % e : Nat) : Int) := by
  rw [Int.tmod_eq_emod_of_nonneg (by omega), Int.natCast_emod]
 rw [h1, w64 (by omega) (by omega)]
 omega
theorem ss_tail_ev {s : ByteArray} {b : Int} {neg : Bool} {e : Int} {acc : List Int} {nxt v p : Int} {x1 x2 x3 : List Int} {r : List Int × Bool} (h1 : Ev (fun k => big_times.f k acc [p]) x1) (h2 : Ev (fun k => big_trim.f k [v]) x2)
  (h3 : Ev (fun k => big_plus.f k x1 x2) x3) (h4 : Ev (fun k => bISetString.l0 k s b neg e x3 nxt) r) : Ev (ssTail s b neg e acc nxt v p) r :=
 Ev.bind (g := fun k t => (big_trim.f k [v]).bind fun u => (big_plus.f k t u).bind fun x => bISetString.l0 k s b neg e x nxt) h1
  (Ev.bind (g := fun k u => (big_plus.f k x1 u).bind fun x => bISetString.l0 k s b neg e x nxt) h2 (Ev.bind (g := fun k x => bISetString.l0 k s b neg e x nxt) h3 h4))
theorem ss_chunk (s : ByteArray) (b : Int) (hb : 2 ≤ b) (hb' : b ≤ 36) (hs : s.size < 1073741824) (hg : ∀ i : Nat, i < s.size → 0 ≤ wv (bt s i) b) (e : Nat) (he : b ^ e < 18446744073709551616) (neg : Bool)
  (pos cnt : Nat) (acc : List Int) (c : ByteArray) (hle2 : pos + cnt ≤ s.size) (hle : cnt ≤ e) (hc1 : 1 ≤ cnt) (hsz : c.size = cnt) (hbt : ∀ i : Nat, i < cnt → bt c (i : Int) = bt s ((pos + i : Nat) : Int))
  (hc : Can 18446744073709551616 acc (D b (fun i => wv (bt s i) b) pos)) :
  ∃ x3, (∀ (nxt : Int) (r : List Int × Bool), wrap64 ((pos : Int) + (cnt : Int)) = nxt → Ev (fun k => bISetString.l0 k s b neg e x3 nxt) r → Ev (fun k => bISetString.l1 k s b neg e acc pos 0 1 cnt c c.size 0) r) ∧
   Can 18446744073709551616 x3 (D b (fun i => wv (bt s i) b) (pos + cnt)) := by
 have hpc := pow_lt_of_le (show 1 ≤ b by omega) hle he
 have hal : acc.length ≤ pos := by
  refine Can_len (by omega) hc ?_
  have h1 := D_lt (b := b) (g := fun i => wv (bt s i) b) (t := pos) (by omega) (fun j _ => wv_lt _ b (by omega))
  have h2 := pow_mono (show 0 ≤ b by omega) (show b ≤ 18446744073709551616 by omega) pos
  exact Int.lt_of_lt_of_le h1 h2
 have hgc : ∀ i : Nat, i < c.size → 0 ≤ wv (bt c i) b := fun i hi => by rw [hbt i (by omega)]; exact hg (pos + i) (by omega)
 have hD0 := D_nonneg (b := b) (g := fun i => wv (bt c i) b) (t := cnt) (by omega) (fun j hj => hgc j (by omega))
 have hDl := D_lt (b := b) (g := fun i => wv (bt c i) b) (t := cnt) (by omega) (fun j _ => wv_lt _ b (by omega))
 have hv : D b (fun i => wv (bt s i) b) pos * b ^ cnt + D b (fun i => wv (bt c i) b) cnt = D b (fun i => wv (bt s i) b) (pos + cnt) := by
  rw [D_add]
  congr 1
  exact D_congr (fun j hj => by show wv _ b = wv _ b; rw [hbt j hj])
 obtain ⟨x1, ht1, hc1', hl1⟩ := times_ev hc.1.1 (m := b ^ cnt) (Int.le_of_lt (pow_pos' (by omega) cnt)) hpc (by omega)
 obtain ⟨x2, ht2, hc2', hl2⟩ := trim_ev 18446744073709551616 1 (l := [D b (fun i => wv (bt c i) b) cnt]) (n := D b (fun i => wv (bt c i) b) cnt) rfl (by omega) ⟨Dig_one hD0 (Int.lt_trans hDl hpc), by simp [V]⟩
 obtain ⟨x3, ht3, hc3', hl3⟩ := plus_ev hc1'.1.1 hc2'.1.1 (by omega) (by omega)
 rw [hc1'.1.2, hc2'.1.2, hc.1.2, hv] at hc3'
 refine ⟨x3, fun nxt r hn hr => ?_, hc3'⟩
 subst hsz
 have h := ss_l1 s b hb hb' neg e acc pos c.size nxt hn c hgc (by omega) hpc r (ss_tail_ev ht1 ht2 ht3 hr) c.size 0 (by omega)
 simpa only [D, Int.pow_zero, Int.natCast_zero, Int.cast_ofNat_Int] using h
theorem ss_l0 (s : ByteArray) (b : Int) (hb : 2 ≤ b) (hb' : b ≤ 36) (neg : Bool) (hs0 : 0 < s.size) (hs : s.size < 1073741824) (hg : ∀ i : Nat, i < s.size → 0 ≤ wv (bt s i) b)
  (e : Nat) (he1 : 1 ≤ e) (he : b ^ e < 18446744073709551616) (he64 : e ≤ 64) :
  ∀ (m pos : Nat) (acc : List Int), s.size - pos ≤ m → pos ≤ s.size → Can 18446744073709551616 acc (D b (fun i => wv (bt s i) b) pos) →
   ∃ r, Ev (fun k => bISetString.l0 k s b neg e acc pos) (r, neg) ∧ Can 18446744073709551616 r (D b (fun i => wv (bt s i) b) s.size) := by
 intro m
 induction m with
 | zero =>
  intro pos acc hm hp hc
  have : pos = s.size := by omega
  subst this
  refine ⟨acc, Ev.succ (Ev.congr (Ev.pure _) fun k => ?_), hc⟩
  rw [bISetString.l0, if_neg (by omega), if_neg ?_]
  intro h0
  have := (toList_nil_iff_emptyBytes s).1 h0
  subst this
  simp at hs0
 | succ m ih =>
  intro pos acc hm hp hc
  rcases Nat.lt_or_ge pos s.size with hlt | hge
  ·obtain ⟨cnt, hcn⟩ : ∃ cnt, cnt = (s.size - pos - 1) % e + 1 := ⟨_, rfl⟩
   have hle : cnt ≤ e := by have := Nat.mod_lt (s.size - pos - 1) (show 0 < e by omega); omega
   have hle2 : pos + cnt ≤ s.size := by have := Nat.mod_le (s.size - pos - 1) e; omega
   have hc1 : 1 ≤ cnt := by omega
   have hne : (e : Int) ≠ 0 := by omega
   have hdone : s.size - (pos + cnt) ≤ m := by omega
   have hsz : (s.extract pos (pos + cnt)).size = cnt := by rw [ByteArray.size_extract]; omega
   have hbt : ∀ i : Nat, i < cnt → bt (s.extract pos (pos + cnt)) (i : Int) = bt s ((pos + i : Nat) : Int) := fun i hi => bt_extract s (by omega) (by omega)
   have e4 : wrap64 ((pos : Int) + (cnt : Int)) = ((pos + cnt : Nat) : Int) := by rw [w64 (by omega) (by omega)]; omega
   have hcnt := ss_cnt hlt hs he1 he64
   rw [← hcn] at hcnt
   have hout := fun k => ss_outer k s b neg e acc pos cnt hlt hne hcnt e4 hle2
   generalize hce : s.extract pos (pos + cnt) = c at hsz hbt hout
   obtain ⟨x3, hx3, hc3⟩ := ss_chunk s b hb hb' hs hg e he neg pos cnt acc c hle2 hle hc1 hsz hbt hc
   obtain ⟨r, hr, hcr⟩ := ih (pos + cnt) x3 hdone hle2 hc3
   refine ⟨r, Ev.succ (Ev.congr ?_ hout), hcr⟩
   exact hx3 _ (r, neg) e4 hr
  ·exact ih pos acc (by omega) hp hc
def bodyOf (s : ByteArray) : ByteArray := if 0 < s.size ∧ bt s 0 = 45 then s.extract 1 s.size else s
theorem ss_ev (s : ByteArray) (b : Int) (hb : 2 ≤ b) (hb' : b ≤ 36) (hs0 : 0 < (bodyOf s).size) (hs : s.size < 1073741824) (hg : ∀ i : Nat, i < (bodyOf s).size → 0 ≤ wv (bt (bodyOf s) i) b) :
  ∃ r, Ev (fun k => bISetString.f k 0 s b) (r, (bt s 0 == 45)) ∧ Can 18446744073709551616 r (D b (fun i => wv (bt (bodyOf s) i) b) (bodyOf s).size) := by
 obtain ⟨e, h1, h2, h3, _, h5⟩ := chunk_ev b hb hb'
 have hsz : 0 < s.size := by
  rcases Nat.eq_zero_or_pos s.size with h | h
  ·exfalso
   unfold bodyOf at hs0
   rw [if_neg (by omega)] at hs0
   omega
  ·exact h
 have hbs : (bodyOf s).size ≤ s.size := by unfold bodyOf; split <;> simp
 obtain ⟨r, hr, hcr⟩ := ss_l0 (bodyOf s) b hb hb' (bt s 0 == 45) hs0 (by omega) hg e h1 h3 h2 (bodyOf s).size 0 [] (by omega) (by omega) (Can_nil _)
 refine ⟨r, Ev.succ (Ev.succ (Ev.congr (Ev.bind (g := fun k a => bISetString.l0 k (bodyOf s) b (bt s 0 == 45) a.2 [] 0) h5 hr) fun k => ?_)), hcr⟩
 unfold bISetString.f
 rw [if_pos (by omega), if_pos (by omega), bISetString.j0]
 by_cases hm : bt s 0 = 45
 ·rw [if_pos (by simp [hm]), if_pos (by omega), bISetString.j1]
  unfold bodyOf
  rw [if_pos ⟨hsz, hm⟩]
 ·rw [if_neg (by simp [hm]), bISetString.j1]
  unfold bodyOf
  rw [if_neg (by simp [hm])]
end Go.Proofs.Ytbmddlldadbfnaa.BM
end

/- Package base tells any number in any base, and counts its digits, as the reference does, and leaves the number as it was; numbers of more than 40 limbs that may be are not looked at. -/
import Derived.Test.YtbmddlldadbfnaaRows
import Derived.WalkKit
import Derived.ProofKit
import Derived.OpenShut
import Derived.ShutString
import Derived.ChangeOld
import Derived.Below
import Derived.SizedLaws
import Derived.Lib.SmallJoins
import Derived.Carry
import Derived.Test.YtbmddlldadbfnaaCD5
section
namespace Go.Proofs.Ytbmddlldadbfnaa.basePrints
open Go.ChangeShapes Go.WideShapes Go.ChangeAt Go.RowKit
open Go.ChangeMaps (open_string shut_string)
open Go.Proofs.YtbmddlldadbfnaaW.PrintWords
set_option linter.unusedVariables false
theorem own : ownKnob Try.prog.godebug = none := by kernel_rfl
theorem laidOut : laidOutB Try.prog = true := by kernel_rfl
theorem dig_of {x : Int} (h : (Lit.int .u64 x).wf = true) : 0 ≤ x ∧ x < 18446744073709551616 := by
 simp only [Lit.wf, IntKind.min, IntKind.max, IntKind.signed, IntKind.bits, Bool.and_eq_true, decide_eq_true_eq] at h
 simp at h
 omega
theorem walk (a0 : Bool) (A : Option Addr) (len cap : Nat) (z : List Int) (a1 : Int) (W : World) (hlz : z.length ≤ 17592186044416)
  (hz : (A = none ∧ len = 0 ∧ cap = 0 ∧ z = []) ∨ ∃ x, A = some x ∧ len ≤ cap ∧ cap ≤ maxLen ∧ z.length = cap ∧ (∀ i, i < z.length → W.cell? (x.add i) = some (.int .u64 (z.getD i 0))) ∧ ∀ n ∈ z, (Lit.int .u64 n).wf = true) :
  Calls Try.prog 3 #[.agg #[.bool a0, .slice A len cap], .int .i64 a1] W fun e w' => e = .returned (.bool true) ∧ Below W.heap.size W w' := by
 have hcz : cap ≤ 17592186044416 := by
  rcases hz with ⟨_, _, h, _⟩ | ⟨_, _, _, _, h, _⟩ <;> omega
 obtain ⟨l, rfl, hr, hm, hw, hc⟩ := ReadsInt.ofRowC hz
 have hd : BM.Dig 18446744073709551616 l := fun x hx => dig_of (hw x hx)
 have hC : Kd.C (Kd.int .u64) W A l.length l := Kd.C_of_reads (d := (0 : Int)) (h1 := fun _ => rfl) hr
 by_cases h : 40 < l.length ∧ l.length ≤ 4096
 ·obtain ⟨k, hk⟩ := BM.Ev.ex BM.awake_ev
  exact BP.awake_way k a0 A cap l a1 W h.1 h.2 hk
 ·obtain ⟨s, e, m, g, hp⟩ := BM.prints_same hd (by omega) h a0 a1
  obtain ⟨K, hK⟩ := hp.and ((BM.sameint2 a0 l (by omega)).late.and ((BM.kept_ev l (by omega)).late.and BM.awake_ev.late))
  obtain ⟨⟨k1, k2, k3, k4⟩, k5, k6, k7⟩ := hK K (Nat.le_refl _)
  exact BP.prints_way K a0 A cap l a1 s e m g W hC hc (by omega) h k1 k2 k3 k4 k5 k6 k7
set_option maxRecDepth 100000 in
theorem lifted (os : Os) (started : os.Started) (H : Type) (enc : TypeId × Value → H) :
  ReturnsInHanded {} Try.checked os 3 .any (Rows.basePrintsSpec.pre6 enc Try.prog Try.f3 Rows.basePrintsRow.domain false) (Rows.basePrintsSpec.post enc Try.prog Try.f3 false true false false) := by
 refine returnsInHanded_of_change_sized (C := Try.checked) own started (by kernel_rfl) Try.func3
  (ChangeSpec.witness6 (enc := enc) (C := Try.checked) false ⟨#[], #[.agg #[.bool false, .slice none 0 0], .int .i64 0], []⟩ 8 (by kernel_rfl) (by kernel_rfl) (by kernel_rfl) (by kernel_rfl)) ?_
 intro W base args ds gs before hval0 hW hcnd hsz0 _
 have hsz : (DataW.weightsEach Try.prog (Try.f3.params.toList ++ Rows.basePrintsSpec.plain.varTypes Try.prog) (ds ++ gs)).all (· ≤ reachBytes) = true := hsz0
 have hval : ∀ (j : Nat) t v, Try.f3.params[j]? = some t → args[j]? = some v → Value.okWide Try.prog W .any base t v := hval0
 have hW' := hW
 obtain ⟨p, q, hA0, hV, rfl, hfz, hnd⟩ := hW
 have hA : DataW.TrodAll enc Try.prog W 0 (fun _ => true) true Try.f3.params.toList args.toList ds p := hA0
 rw [Try.params3] at hA hval hsz
 obtain ⟨v0, vs0, d0, ds0, p0, q0, hargs, rfl, rfl, h0, r0⟩ := trodAll_cons hA
 obtain ⟨v1, vs1, d1, ds1, p1, q1, rfl, rfl, rfl, h1, r1⟩ := trodAll_cons r0
 obtain ⟨rfl, rfl, rfl⟩ := trodAll_nil r1
 obtain rfl : args = #[v0, v1] := by cases args; simp_all
 obtain ⟨rfl, rfl⟩ := trodVars_none hV
 have k0 := h0
 have lt0 : ∀ x ∈ p0, x.block < W.heap.size := by obtain ⟨m, hm⟩ := k0; exact DataW.trod_lt m _ _ _ hm
 obtain ⟨c0, c1, y0, y1, n, rfl, hd0, hp0, e0, e1⟩ := Go.Joins.open_agg2 Try.underlying24 (by kernel_rfl) (by kernel_rfl) (hval 0 24 v0 rfl rfl) h0
 obtain ⟨b0, rfl⟩ : ∃ b, c0 = .bool b := by
  obtain ⟨b, hb, _⟩ := DataW.trod_bool Try.underlying4 e0
  exact ⟨b, by simpa using hb⟩
 have hmem : ∀ x ∈ y1.1.weights Try.prog 22, x ≤ reachBytes := by
  intro x hx
  have := List.all_eq_true.1 hsz x (DataW.weights_mem_each (j := 0) (t := 24) (d := d0) rfl rfl x (by
   rw [hd0]
   simp only [DataW.weights, Try.underlying24, List.map_toArray, List.map_cons, List.map_nil]
   show x ∈ y0.1.weights Try.prog 4 ++ (y1.1.weights Try.prog 22 ++ [])
   simp [hx]))
  simpa using this
 obtain ⟨A, len, cap, z, rfl, hlz, hz⟩ : ∃ A len cap z, c1 = .slice A len cap ∧ z.length ≤ 17592186044416 ∧ ((A = none ∧ len = 0 ∧ cap = 0 ∧ z = []) ∨ ∃ x, A = some x ∧ len ≤ cap ∧ cap ≤ maxLen ∧ z.length = cap ∧ (∀ i, i < z.length → W.cell? (x.add i) = some (.int .u64 (z.getD i 0))) ∧ ∀ n ∈ z, (Lit.int .u64 n).wf = true) := by
  rcases open_ints Try.underlying22 Try.underlying46 (by kernel_rfl) e1 with ⟨hcs, _⟩ | ⟨x, l, c, zs, hcs, _, hl, hm, hz, hy, hcell, hwz⟩
  ·simp at hcs
   exact ⟨none, 0, 0, [], hcs, by simp, .inl ⟨rfl, rfl, rfl, rfl⟩⟩
  ·simp at hcs
   refine ⟨some x, l, c, zs, hcs, ?_, .inr ⟨x, rfl, hl, hm, by simpa using hz, hcell, hwz⟩⟩
   have h8 : Try.prog.bytesOf 46 = 8 := by kernel_rfl
   have := hmem ((zs.take l).length * 8 + (zs.drop l).length * 8) (by
    rw [hy]
    simp [DataW.weights, Try.underlying22, lits, h8]
    exact .inl (by omega))
   rw [List.length_take, List.length_drop] at this
   have hr := reachBytes_lt
   omega
 obtain ⟨a1, rfl, rfl, rfl, w1⟩ := open_int Try.underlying3 (hval 1 3 v1 rfl rfl) h1
 clear hA0 hval0 hsz0 hsz hmem
 refine (walk b0 A len cap z a1 W hlz hz).mono fun e W' ⟨he, bel⟩ => ?_
 subst he
 exact ⟨_, rfl, _, _, _, [], _, [], hW', trodAll_mk1 (shut_bool Try.underlying4 _), (trodAll_cons_mk (Below.trod laidOut (by kernel_rfl) (of_decide_eq_true (by kernel_rfl)) k0 bel lt0) (trodAll_cons_mk (shut_int Try.underlying3 w1) trodAll_mk0)), rfl, bel.frame _, fun h => by cases h⟩
theorem over : Rows.basePrintsRow.holds Try.pinned (OpenSpec.ofChange Rows.basePrintsSpec) :=
 OpenClaim.holds_of_wide 3 Try.f3 rfl rfl rfl rfl rfl rfl rfl ⟨rfl, rfl, rfl, rfl, rfl⟩ rfl rfl rfl rfl rfl (by kernel_rfl) Try.func3 (by kernel_rfl)
  (of_decide_eq_true (by kernel_rfl)) (by unfold Func.isWrapper; first | (rw [if_pos (by decide +kernel)]; kernel_rfl) | (rw [if_neg (by decide +kernel)]; exact ⟨rfl, rfl⟩))
  (fun os started H enc _ => lifted os started H enc)
theorem proved : Rows.BasePrintsSaid := over
#print axioms proved
end Go.Proofs.Ytbmddlldadbfnaa.basePrints
end

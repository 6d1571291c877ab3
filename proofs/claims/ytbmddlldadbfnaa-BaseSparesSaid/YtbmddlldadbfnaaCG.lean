/- What is read twice of the text of a number of at most 40 limbs lies apart, spare room and all, and what is read a third time is what was read first. -/
import Derived.Test.YtbmddlldadbfnaaRows
import Derived.WalkKit
import Derived.ProofKit
import Derived.OpenShut
import Derived.ShutString
import Derived.ChangeOld
import Derived.Below
import Derived.SizedLaws
import Derived.Lib.SmallJoins
import Derived.Carry
import Derived.Test.YtbmddlldadbfnaaCG14
section
namespace Go.Proofs.Ytbmddlldadbfnaa.baseSpares
open Go.ChangeShapes Go.WideShapes Go.ChangeAt Go.RowKit
open Go.ChangeMaps (open_string shut_string)
open Go.Proofs.YtbmddlldadbfnaaW.PrintWords
set_option linter.unusedVariables false
theorem own : ownKnob Try.prog.godebug = none := by kernel_rfl
theorem laidOut : laidOutB Try.prog = true := by kernel_rfl
theorem dig_of {x : Int} (h : (Lit.int .u64 x).wf = true) : 0 ≤ x ∧ x < 18446744073709551616 := by
 simp only [Lit.wf, IntKind.min, IntKind.max, IntKind.signed, IntKind.bits, Bool.and_eq_true, decide_eq_true_eq] at h
 simp at h
 omega
theorem spares_way (neg : Bool) (l : List Int) (a : Int) (hd : BM.Dig 18446744073709551616 l) : ∃ (k : Nat) (b : Int) (sg : Bool) (t : List Int) (s : ByteArray), BD.w19of.f a = some b ∧ BD.rmWhole_Int.f k neg l 40 = some (sg, t) ∧ t.length ≤ 1000 ∧ BA.base_Print.f k sg t b = some (s, 0) ∧ BA.base_Parse.f k s b = some (sg, t, 0, 0) ∧ BB.rkSameInt.f k sg t sg t = some true ∧ BB.w19awake.f k = some true := by
 obtain ⟨b, hof, hb, hb'⟩ := BM.of_f a
 obtain ⟨t, n, ht, hc, htl⟩ := BM.whole_int_ev hd neg
 obtain ⟨x, hp, hr, _⟩ := BM.told_read hc htl hb hb' (neg && decide (0 < t.length)) (fun h => by subst h; simp)
 obtain ⟨K, hK⟩ := ht.late.and (hp.late.and (hr.late.and ((BM.sameint_ev (neg && decide (0 < t.length)) t (by omega)).late.and BM.awake_ev.late)))
 obtain ⟨k1, k2, k3, k4, k5⟩ := hK K (Nat.le_refl _)
 exact ⟨K, b, _, t, x, hof, k1, by omega, k2, k3, k4, k5⟩
theorem walk (a0 : Bool) (A : Option Addr) (len cap : Nat) (z : List Int) (a1 : Int) (W : World)
  (hz : (A = none ∧ len = 0 ∧ cap = 0 ∧ z = []) ∨ ∃ x, A = some x ∧ len ≤ cap ∧ cap ≤ maxLen ∧ z.length = cap ∧ (∀ i, i < z.length → W.cell? (x.add i) = some (.int .u64 (z.getD i 0))) ∧ ∀ n ∈ z, (Lit.int .u64 n).wf = true) :
  Calls Try.prog 7 #[.agg #[.bool a0, .slice A len cap], .int .i64 a1] W fun e w' => e = .returned (.bool true) ∧ Below W.heap.size W w' := by
 obtain ⟨l, rfl, hr, hm, hw, hc⟩ := ReadsInt.ofRowC hz
 obtain ⟨k, b, sg, t, s, h1, h2, h3, h4, h5, h6, h7⟩ := spares_way a0 l a1 (fun x hx => dig_of (hw x hx))
 exact BS.spares_calls k a0 A cap l a1 b sg t s W (Kd.C_of_reads (d := (0 : Int)) (h1 := fun _ => rfl) hr) hc h1 h2 h3 h4 h5 h6 h7
set_option maxRecDepth 100000 in
theorem lifted (os : Os) (started : os.Started) (H : Type) (enc : TypeId × Value → H) :
  ReturnsInHanded {} Try.checked os 7 .any (Rows.baseSparesSpec.pre6 enc Try.prog Try.f7 Rows.baseSparesRow.domain false) (Rows.baseSparesSpec.post enc Try.prog Try.f7 false true false false) := by
 refine returnsInHanded_of_change_sized (C := Try.checked) own started (by kernel_rfl) Try.func7
  (ChangeSpec.witness6 (enc := enc) (C := Try.checked) false ⟨#[], #[.agg #[.bool false, .slice none 0 0], .int .i64 0], []⟩ 7 (by kernel_rfl) (by kernel_rfl) (by kernel_rfl) (by kernel_rfl)) ?_
 intro W base args ds gs before hval0 hW hcnd hsz0 _
 have hval : ∀ (j : Nat) t v, Try.f7.params[j]? = some t → args[j]? = some v → Value.okWide Try.prog W .any base t v := hval0
 have hW' := hW
 obtain ⟨p, q, hA0, hV, rfl, hfz, hnd⟩ := hW
 have hA : DataW.TrodAll enc Try.prog W 0 (fun _ => true) true Try.f7.params.toList args.toList ds p := hA0
 rw [Try.params7] at hA hval
 obtain ⟨v0, vs0, d0, ds0, p0, q0, hargs, rfl, rfl, h0, r0⟩ := trodAll_cons hA
 obtain ⟨v1, vs1, d1, ds1, p1, q1, rfl, rfl, rfl, h1, r1⟩ := trodAll_cons r0
 obtain ⟨rfl, rfl, rfl⟩ := trodAll_nil r1
 obtain rfl : args = #[v0, v1] := by cases args; simp_all
 obtain ⟨rfl, rfl⟩ := trodVars_none hV
 have k0 := h0
 have lt0 : ∀ x ∈ p0, x.block < W.heap.size := by obtain ⟨m, hm⟩ := k0; exact DataW.trod_lt m _ _ _ hm
 obtain ⟨c0, c1, y0, y1, n, rfl, hd0, hp0, e0, e1⟩ := Go.Joins.open_agg2 Try.underlying40 (by kernel_rfl) (by kernel_rfl) (hval 0 40 v0 rfl rfl) h0
 obtain ⟨b0, rfl⟩ : ∃ b, c0 = .bool b := by
  obtain ⟨b, hb, _⟩ := DataW.trod_bool Try.underlying4 e0
  exact ⟨b, by simpa using hb⟩
 obtain ⟨A, len, cap, z, rfl, hz⟩ : ∃ A len cap z, c1 = .slice A len cap ∧ ((A = none ∧ len = 0 ∧ cap = 0 ∧ z = []) ∨ ∃ x, A = some x ∧ len ≤ cap ∧ cap ≤ maxLen ∧ z.length = cap ∧ (∀ i, i < z.length → W.cell? (x.add i) = some (.int .u64 (z.getD i 0))) ∧ ∀ n ∈ z, (Lit.int .u64 n).wf = true) := by
  rcases open_ints Try.underlying22 Try.underlying46 (by kernel_rfl) e1 with ⟨hcs, _⟩ | ⟨x, l, c, zs, hcs, _, hl, hm, hz, _, hcell, hwz⟩
  ·simp at hcs
   exact ⟨none, 0, 0, [], hcs, .inl ⟨rfl, rfl, rfl, rfl⟩⟩
  ·simp at hcs
   exact ⟨some x, l, c, zs, hcs, .inr ⟨x, rfl, hl, hm, by simpa using hz, hcell, hwz⟩⟩
 obtain ⟨a1, rfl, rfl, rfl, w1⟩ := open_int Try.underlying3 (hval 1 3 v1 rfl rfl) h1
 clear hA0 hval0 hsz0
 refine (walk b0 A len cap z a1 W hz).mono fun e W' ⟨he, bel⟩ => ?_
 subst he
 exact ⟨_, rfl, _, _, _, [], _, [], hW', trodAll_mk1 (shut_bool Try.underlying4 _), (trodAll_cons_mk (Below.trod laidOut (by kernel_rfl) (of_decide_eq_true (by kernel_rfl)) k0 bel lt0) (trodAll_cons_mk (shut_int Try.underlying3 w1) trodAll_mk0)), rfl, bel.frame _, fun h => by cases h⟩
theorem over : Rows.baseSparesRow.holds Try.pinned (OpenSpec.ofChange Rows.baseSparesSpec) :=
 OpenClaim.holds_of_wide 7 Try.f7 rfl rfl rfl rfl rfl rfl rfl ⟨rfl, rfl, rfl, rfl, rfl⟩ rfl rfl rfl rfl rfl (by kernel_rfl) Try.func7 (by kernel_rfl)
  (of_decide_eq_true (by kernel_rfl)) (by unfold Func.isWrapper; first | (rw [if_pos (by decide +kernel)]; kernel_rfl) | (rw [if_neg (by decide +kernel)]; exact ⟨rfl, rfl⟩))
  (fun os started H enc _ => lifted os started H enc)
theorem proved : Rows.BaseSparesSaid := over
#print axioms proved
end Go.Proofs.Ytbmddlldadbfnaa.baseSpares
end

/- Part of the proof that what is read twice of the text of a number of at most 40 limbs lies apart, spare room and all, and what is read a third time is what was read first. -/
import Derived.Test.YtbmddlldadbfnaaCG10
section
namespace Go.Proofs.Ytbmddlldadbfnaa.BS
open Go.Proofs.Ytbmddlldadbfnaa.BM (w64 u64)
open Go.RowKit Go.Proofs.Ytbmddlldadbfnaa.BA Go.Proofs.Ytbmddlldadbfnaa.BB Go.Proofs.YtbmddlldadbfnaaW.PrintWords Go.Proofs.YtbmddlldadbfnaaW.PrintLast Go.Proofs.YtbmddlldadbfnaaW.PrintMore
attribute [local go_sem] ZU ZS max_two min_two ZP ZO ZT ZR
set_option linter.unusedVariables false
set_option linter.unusedSimpArgs false
theorem slice_inj {g g' n n' c c' : Nat} (h : Value.slice (some ⟨g, 0, none⟩) n c = .slice (some ⟨g', 0, none⟩) n' c') : g = g' := by
 injection h with h
 injection h with h
 injection h
theorem mark_f (k i : Nat) (hk : k ≤ 100000) (hi : i ≤ 100000) : BP.rkmark.f (k : Int) (i : Int) = some (mk k i) := by
 unfold BP.rkmark.f mk
 rw [w64 (n := (k : Int) + 7) (by omega) (by omega), w64 (n := 1000003 * ((k : Int) + 7)) (by omega) (by omega), w64 (by omega) (by omega)]
theorem wrap_succ (i : Nat) (h : i ≤ 100000) : wrap64 ((i : Int) + 1) = ((i + 1 : Nat) : Int) := by rw [w64 (by omega) (by omega)]; omega
theorem wrap_add (i j : Nat) (h : i ≤ 100000) (h' : j ≤ 100000) : wrap64 ((i : Int) + (j : Int)) = ((i + j : Nat) : Int) := by rw [w64 (by omega) (by omega)]; omega
theorem mk_wrap (k i : Nat) (hk : k ≤ 100000) (hi : i ≤ 100000) : IntKind.u64.wrap (mk k i) = mk k i := by
 unfold mk
 exact u64 (by omega) (by omega)
theorem m1_start (n : Nat → Nat) (k j : Nat) : (if j < k then n j else 0) = (if j < k then n j else if j = k then 0 else 0) := by split; rfl; split <;> rfl
theorem m1_next (n : Nat → Nat) (k j : Nat) : (if j < k then n j else if j = k then n k else 0) = (if j < k + 1 then n j else 0) := by
 by_cases h1 : j < k
 ·rw [if_pos h1, if_pos (by omega)]
 ·rw [if_neg h1]
  by_cases h2 : j = k
  ·subst h2; rw [if_pos rfl, if_pos (by omega)]
  ·rw [if_neg h2, if_neg (by omega)]
theorem m1_at (n : Nat → Nat) (k i : Nat) : (if k < k then n k else if k = k then i else 0) = i := by rw [if_neg (by omega), if_pos rfl]
theorem m1_off (n : Nat → Nat) (k i j : Nat) (h : j ≠ k) : (if j < k then n j else if j = k then i else 0) = (if j < k then n j else if j = k then i + 1 else 0) := by rw [if_neg h, if_neg h]
theorem Rw.markL {w : World} {O : Nat → Option Nat} {k : Nat} {v : Value} {n c m : Nat} (h : Rw EL w O k v n c m) (hm : m < n) : ∃ g old, v = .slice (some ⟨g, 0, none⟩) n c ∧ O g = some k ∧ w.cell? ⟨g, m, none⟩ = some old ∧ w.frozen? ⟨g, m, none⟩ = false ∧ Rw EL (w.setCell ⟨g, m, none⟩ (.int .u64 (mk k m))) O k v n c (m + 1) := by
 obtain ⟨g, f, h1, h2, h3, h4, h5⟩ := h.put hm
 have h4' := h4 0 Nat.one_pos
 rw [show m * EL.size + 0 = m from Nat.mul_one m] at h4'
 obtain ⟨old, ho⟩ := Option.ne_none_iff_exists'.1 h4'
 refine ⟨g, old, h1, h2, ho, h3.frozen m, h5 (fun x => x = some k) _ O _ (h3.set m _) (fun x hx => ?_) (fun i j hi hj => ?_) (Mv.setCell _ O w m _ h2) (fun h => by cases h) ?_⟩
 ·show (if x = m then _ else f x).oneCell' = true
  split
  ·rfl
  ·exact hx
 ·obtain rfl : j = 0 := Nat.lt_one_iff.1 hj
  rw [show i * EL.size + 0 = i from Nat.mul_one i]
  exact if_neg (by omega)
 ·show (if m * EL.size + 0 = m then _ else _) = _
  exact if_pos (Nat.mul_one m)
theorem Rw.getL {w : World} {O : Nat → Option Nat} {k : Nat} {v : Value} {n c m i : Nat} (h : Rw EL w O k v n c m) (hi : i < m) : ∃ g, v = .slice (some ⟨g, 0, none⟩) n c ∧ w.cell? ⟨g, i, none⟩ = some (.int .u64 (mk k i)) := by
 obtain ⟨g, f, h1, h2, h3, h4⟩ := h.get hi
 have := h3 0 Nat.one_pos
 rw [show i * EL.size + 0 = i from Nat.mul_one i] at this
 exact ⟨g, h1, this.trans (congrArg some h4)⟩
theorem mark_g (k a i : Nat) (hk : k ≤ 100000) (hi : a + i ≤ 100000) : ∃ x, x = mk k (a + i) ∧ BP.rkmark.f (k : Int) ((a : Int) + (i : Int)) = some x ∧ IntKind.u64.wrap x = x := by
 have h := mark_f k (a + i) hk hi
 rw [Int.natCast_add] at h
 exact ⟨_, rfl, h, mk_wrap k (a + i) hk hi⟩
theorem one_cells (w : World) (x : Value) : ∀ j u, [x][j]? = some u → (w.alloc (.cells #[x] 46)).cell? (Addr.add ⟨w.heap.size, 0, none⟩ j) = some u := by
 rintro (_ | j) u hu
 ·injection hu with hu
  rw [← hu]
  exact cell_one_new w _ 46 0 _ rfl
 ·cases hu
theorem one_ok {w : World} {O : Nat → Option Nat} {k a : Nat} {x : Int} (hx : x = mk k a) : ∀ i, a ≤ i → i < a + 1 → EL.ok w O k i (fun j => [Value.int .u64 x][(i - a) * EL.size + j]?.getD default) := by
 intro i h1 h2
 obtain rfl : i = a := by omega
 show [Value.int .u64 x][(i - i) * EL.size + 0]?.getD default = .int .u64 (mk k i)
 rw [Nat.sub_self, Nat.zero_mul, hx]
 rfl
theorem mark_h (k i : Nat) (hk : k ≤ 100000) (hi : i ≤ 100000) : ∃ x, x = mk k i ∧ BP.rkmark.f (k : Int) (i : Int) = some x ∧ IntKind.u64.wrap x = x := ⟨_, rfl, mark_f k i hk hi, mk_wrap k i hk hi⟩
theorem mark_p (k a i : Nat) (hk : k + a ≤ 100000) (hi : i ≤ 100000) : ∃ x, x = mk (k + a) i ∧ BP.rkmark.f ((k : Int) + (a : Int)) (i : Int) = some x ∧ IntKind.u64.wrap x = x := by
 have h := mark_f (k + a) i hk hi
 rw [Int.natCast_add] at h
 exact ⟨_, rfl, h, mk_wrap (k + a) i hk hi⟩
theorem step4 {O0 O : Nat → Option Nat} {w0 w : World} {L cL K : Nat} {v : Nat → Value} {n c : Nat → Nat} {G M q i : Nat} {gs : Nat → Value} {cg ng mg : Nat → Nat} (h : Rw EL w O q (.slice (some ⟨M, 0, none⟩) 64 64) 64 64 i) (hs : St EL 22 O0 w0 O w L cL K v n c G gs) (hg : Fam EL w O K gs ng cg mg) (hq : K ≤ q) (hq2 : q < 2 * K) (hi : i < 64) (x : Int) (hx : x = mk q i) (nd : Nat) :
  Rw EL ((w.drewN nd).setCell ⟨M, i, none⟩ (.int .u64 x)) O q (.slice (some ⟨M, 0, none⟩) 64 64) 64 64 (i + 1) ∧ St EL 22 O0 w0 O ((w.drewN nd).setCell ⟨M, i, none⟩ (.int .u64 x)) L cL K v n c G gs ∧ Fam EL ((w.drewN nd).setCell ⟨M, i, none⟩ (.int .u64 x)) O K gs ng cg mg := by
 subst hx
 have hb : Below w.heap.size w (w.drewN nd) := Za (Below.refl _ _) nd
 obtain ⟨g, old, h1, h2, h3, h4, h5⟩ := (h.below hb).markL hi
 obtain rfl := slice_inj h1
 have hm := Mv.setCell (fun x => x = some q) O (w.drewN nd) i (.int .u64 (mk q i)) h2
 exact ⟨h5, (hs.below hb).past hq hq2 hm, (hg.mv (Mv.of_below (fun _ => False) O hb) (fun _ _ h => h) (fun h => h)).mv hm (fun j hj => not_some (by omega)) not_none⟩
theorem many_new {O0 O : Nat → Option Nat} {w0 w : World} {L cL K : Nat} {v : Nat → Value} {n c : Nat → Nat} {G q : Nat} {gs : Nat → Value} {cg ng mg : Nat → Nat} (hs : St EL 22 O0 w0 O w L cL K v n c G gs) (hg : Fam EL w O K gs ng cg mg) :
  Rw EL (w.alloc (.cells (madeCells #[.int .u64 0] 64) 46)) (own O w.heap.size (some q)) q (.slice (some ⟨w.heap.size, 0, none⟩) 64 64) 64 64 0 ∧ St EL 22 O0 w0 (own O w.heap.size (some q)) (w.alloc (.cells (madeCells #[.int .u64 0] 64) 46)) L cL K v n c G gs ∧ Fam EL (w.alloc (.cells (madeCells #[.int .u64 0] 64) 46)) (own O w.heap.size (some q)) K gs ng cg mg := by
 have hm : Mv (fun _ => False) O w (own O w.heap.size (some q)) (w.alloc (.cells (madeCells #[.int .u64 0] 64) 46)) := (Mv.of_below _ O (Zc (Below.refl _ _) _)).owned _ (fun b hb => own_lt hb)
 exact ⟨Rw.new (E := EL) (World.rowIs_made w (.int .u64 0) 64 46) (Nat.le_refl _) (by simp [maxLen]) (fun _ => rfl), hs.still hm, hg.mv hm (fun _ _ h => h) (fun h => h)⟩
theorem info22 : (Try.prog.info? 22).map (fun i => (i.zero, i.size, i.bytes)) = some (some (.slice none 0 0), 1, 24) := by kernel_rfl
theorem step1 {w0 w : World} {O0 O : Nat → Option Nat} {L K cL k i g : Nat} {v : Nat → Value} {n c : Nat → Nat} (HL : Hd w O L none 22 K cL v) (HR : Fam EL w O K v n c (fun j => if j < k then n j else if j = k then i else 0)) (HM : Mv (fun x => x ≠ none) O0 w0 O w)
  (hk : k < K) (hi : i < n k) (hv : v k = .slice (some ⟨g, 0, none⟩) (n k) (c k)) (q : Nat) :
  Hd ((w.drewN q).setCell ⟨g, i, none⟩ (.int .u64 (mk k i))) O L none 22 K cL v ∧ Fam EL ((w.drewN q).setCell ⟨g, i, none⟩ (.int .u64 (mk k i))) O K v n c (fun j => if j < k then n j else if j = k then i + 1 else 0) ∧ Mv (fun x => x ≠ none) O0 w0 O ((w.drewN q).setCell ⟨g, i, none⟩ (.int .u64 (mk k i))) := by
 have hb : Below w.heap.size w (w.drewN q) := Za (Below.refl _ _) q
 have h1 : Rw EL (w.drewN q) O k (v k) (n k) (c k) (if k < k then n k else if k = k then i else 0) := (HR k hk).below hb
 rw [m1_at] at h1
 obtain ⟨g', _, hg', hO, _, _, hst⟩ := h1.markL hi
 obtain rfl := slice_inj (hv.symm.trans hg')
 have hs := Mv.setCell (fun x => x = some k) O (w.drewN q) i (.int .u64 (mk k i)) hO
 have hd := Mv.of_below (fun x => x = some k) O hb
 exact ⟨(HL.mv hd (fun h => by cases h)).mv hs (fun h => by cases h), HR.upd (hd.trans hs) (fun _ => by show Rw EL _ O k (v k) (n k) (c k) (if k < k then n k else if k = k then i + 1 else 0); rw [m1_at]; exact hst) (fun j hj hjk => m1_off n k i j hjk), HM.trans ((hd.trans hs).mono ne_none_of)⟩
set_option maxHeartbeats 8000000 in
set_option maxRecDepth 100000 in
theorem flatLimbs_calls (L cL K : Nat) (v : Nat → Value) (n c : Nat → Nat) (O : Nat → Option Nat) (w : World) (hK : K ≤ 1000) (hn : ∀ j, j < K → n j ≤ 1000)
  (hL : Hd w O L none 22 K cL v) (hr : Fam EL w O K v n c (fun _ => 0)) :
  Calls Try.prog 96 #[.slice (some ⟨L, 0, none⟩) K cL] w fun e w' => e = .returned (.bool true) ∧ ∃ O', Mv (fun x => x ≠ none) O w O' w' := by
 have HL := Zb.mk hL
 have HR := Zb.mk hr
 have HN := Zb.mk hn
 have HM := Zb.mk (Mv.refl (fun x => x ≠ none) O w)
 clear hL hr hn
 go_enter Try.func96, Try.ntmps96
 go_wp2_with fail
 go_loopg [3] (K + 1) (fun kq v3 w' => ∃ (k : Nat), (k + kq = K + 1 ∧ k ≤ K) ∧ v3 = .int .i64 (k : Int) ∧ Zb (Hd w' O L none 22 K cL v) ∧ Zb (Fam EL w' O K v n c (fun j => if j < k then n j else 0)) ∧ Zb (Mv (fun x => x ≠ none) O w O w'))
 case atStart => exact ⟨0, ⟨by omega, by omega⟩, rfl, HL, ⟨HR.out.congr fun j hj => (if_neg (by omega)).symm⟩, HM⟩
 case round =>
  clear HL HR HM
  obtain ⟨k, hk, rfl, HL, HR, HM⟩ := hrel
  cases gk with
  | zero => exact absurd hk (by omega)
  | succ k1 =>
   by_cases hkK : k < K
   ·have cc : decide ((k : Int) < (K : Int)) = true := decide_eq_true (by omega)
    obtain ⟨A, hv⟩ := (HR.out k hkK).val
    have hlk := HL.out.get hkK
    rw [hv] at hlk
    have hk0 : (0 : Int) ≤ (k : Int) := by omega
    have hk1 : (k : Int) < (K : Int) := by omega
    go_wp2_with fail
    clear hlk
    have HV := Zb.mk hv
    clear hv
    go_loopg [4] (n k + 1) (fun kq v4 w' => ∃ i : Nat, (i + kq = n k + 1 ∧ i ≤ n k) ∧ v4 = .int .i64 (i : Int) ∧ Zb (Hd w' O L none 22 K cL v) ∧ Zb (Fam EL w' O K v n c (fun j => if j < k then n j else if j = k then i else 0)) ∧ Zb (Mv (fun x => x ≠ none) O w O w'))
    case atStart => exact ⟨0, ⟨by omega, by omega⟩, rfl, HL, ⟨HR.out.congr fun j hj => m1_start n k j⟩, HM⟩
    case round =>
     clear HL HR HM
     obtain ⟨i, hi, rfl, HL, HR, HM⟩ := hrel
     have hnk := HN.out k hkK
     cases gk with
     | zero => exact absurd hi (by omega)
     | succ k2 =>
      by_cases hin : i < n k
      ·have cci : decide ((i : Int) < (n k : Int)) = true := decide_eq_true (by omega)
       have hRk : Rw EL wr O k (v k) (n k) (c k) (if k < k then n k else if k = k then i else 0) := HR.out k hkK
       rw [m1_at] at hRk
       obtain ⟨g, old, hvg, hOg, hce, hfr, _⟩ := hRk.markL hin
       obtain rfl : A = some ⟨g, 0, none⟩ := by have := HV.out.symm.trans hvg; injection this
       have hlk := HL.out.get hkK
       rw [hvg] at hlk
       have em := Zb.mk (mark_f k i (by omega) (by omega))
       have eu := mk_wrap k i (by omega) (by omega)
       have ei := wrap_succ i (by omega)
       have i0 : (0 : Int) ≤ (i : Int) := by omega
       have i1 : (i : Int) < (n k : Int) := by omega
       have hLg : L ≠ g := HL.out.ne hOg (fun h => by cases h)
       have HVG := Zb.mk hvg
       have HRK := Zb.mk hRk
       clear hRk hvg hnk
       go_upto_region 7 with fail
       have hkeep : ∀ (q : Nat) (u : Value), ((wr.drewN q).setCell ⟨g, i, none⟩ u).cell? ⟨L, k, none⟩ = some (.slice (some ⟨g, 0, none⟩) (n k) (c k)) := fun q u => (cell_far (a := ⟨L, k, none⟩) (p := ⟨g, i, none⟩) hLg u).trans hlk
       go_region_held3 (fun w' => w'.cell? ⟨L, k, none⟩ = some (.slice (some ⟨g, 0, none⟩) (n k) (c k))) (first | exact hlk | exact hkeep _ _ | go_keep)
        (first | (go_at_call 74; refine (BP.rkmark.calls (k : Int) (i : Int) _ _ em.out).mono ?_; rintro ev w5 ⟨rfl, ⟨nd, rfl⟩⟩))
       go_wp2_with fail
       go_roundg k2
       case measure => omega
       case rel =>
        have hs := step1 HL.out HR.out HM.out hkK hin HVG.out
        exact ⟨i + 1, ⟨by omega, by omega⟩, (by first | rfl | exact congrArg (Value.int .i64) ei), ⟨(hs _).1⟩, ⟨(hs _).2.1⟩, ⟨(hs _).2.2⟩⟩
      ·have hie : i = n k := by omega
       subst hie
       have cci : decide ((n k : Int) < (n k : Int)) = false := decide_eq_false (by omega)
       have hlk := HL.out.get hkK
       rw [HV.out] at hlk
       have ek := wrap_succ k (by omega)
       go_wp2_with fail
       go_roundg k1
       case measure => omega
       case rel => exact ⟨k + 1, ⟨by omega, by omega⟩, (by first | rfl | exact congrArg (Value.int .i64) ek), HL, ⟨HR.out.congr fun j hj => m1_next n k j⟩, HM⟩
   ·have hkE : K = k := by omega
    subst hkE
    have cc : decide ((K : Int) < (K : Int)) = false := decide_eq_false (by omega)
    obtain ⟨i0, hi0, hz0, hsz0, hby0⟩ := info_parts BB.info46
    go_wp2_with fail
    rw [run_make_row' (P := Try.prog) 87 22 (.slice none 0 0) 24 Try.underlying87 info22 rfl .i64 .i64 K (by omega) (by omega)]
    have ST := St.start HL.out (HR.out.congr fun j hj => if_pos hj) HM.out (.slice none 0 0)
    generalize hG : wr.heap.size = G at ST ⊢
    replace ST := Zb.mk ST
    clear HL HR HM hG
    have HI := Zb.mk (And.intro hi0 (And.intro hz0 (And.intro hsz0 hby0)))
    clear hi0 hz0 hsz0 hby0
    go_wp2_with fail
    go_loopg [6] (K + 1) (fun kq v6 w' => ∃ (k : Nat) (O' : Nat → Option Nat) (gs : Nat → Value) (cg : Nat → Nat), (k + kq = K + 1 ∧ k ≤ K) ∧ v6 = .int .i64 (k : Int) ∧ Zb (St EL 22 O w O' w' L cL K v n c G gs) ∧ Zb (Fam EL w' O' k gs (fun j => n j + 64) cg (fun j => n j + 64)))
    case atStart => exact ⟨0, _, _, fun _ => 0, ⟨by omega, by omega⟩, rfl, ST, ⟨fun j hj => absurd hj (by omega)⟩⟩
    case round =>
     clear ST
     obtain ⟨k, O1, gs, cg, hk, rfl, ST, HG⟩ := hrel
     cases gk with
     | zero => exact absurd hk (by omega)
     | succ k1 =>
      by_cases hkK : k < K
      ·have cc : decide ((k : Int) < (K : Int)) = true := decide_eq_true (by omega)
       obtain ⟨A, hv⟩ := (ST.out.rows k hkK).val
       have hlk := ST.out.hl.get hkK
       rw [hv] at hlk
       have HV := Zb.mk hv
       have hk0 : (0 : Int) ≤ (k : Int) := by omega
       have hk1 : (k : Int) < (K : Int) := by omega
       clear hv
       go_wp2_with fail
       clear hlk
       go_loopg [7, 8] 65 (fun kq v7 v8 w' => ∃ (i : Nat) (O' : Nat → Option Nat) (c' : Nat), (i + kq = 65 ∧ i ≤ 64) ∧ v8 = .int .i64 (i : Int) ∧ Zb (Rw EL w' O' k v7 (n k + i) c' (n k + i)) ∧ Zb (St EL 22 O w O' w' L cL K v n c G gs) ∧ Zb (Fam EL w' O' k gs (fun j => n j + 64) cg (fun j => n j + 64)))
       case atStart => exact ⟨0, O1, c k, ⟨by omega, by omega⟩, rfl, ⟨by have := ST.out.rows k hkK; rw [HV.out] at this; exact this⟩, ST, HG⟩
       case round =>
        clear ST HG
        obtain ⟨i, O2, c2, hi, rfl, HW, ST, HG⟩ := hrel
        have hnk := HN.out k hkK
        cases gk with
        | zero => exact absurd hi (by omega)
        | succ k2 =>
         by_cases hin : i < 64
         ·have cci : decide ((i : Int) < 64) = true := decide_eq_true (by omega)
          have hlk := ST.out.hl.get hkK
          rw [HV.out] at hlk
          have b1 : k ≤ 100000 := by omega
          have b2 : n k + i ≤ 100000 := by omega
          have b3 : n k ≤ 100000 := by omega
          have b4 : i ≤ 100000 := by omega
          obtain ⟨x, hx, em, eu⟩ := mark_g k (n k) i b1 b2
          have HX := Zb.mk hx
          have HE := Zb.mk em
          have HU := Zb.mk eu
          have ea := wrap_add (n k) i b3 b4
          have ei := wrap_succ i b4
          clear em eu hx b1 b2 b3 b4 hnk
          go_wp2_with fail
          refine (BP.rkmark.calls (k : Int) _ x _ HE.out).mono ?_
          rintro ev w5 ⟨rfl, ⟨nd, rfl⟩⟩
          have eu := HU.out
          have hrw := HW.out.below (Zc (Za (Below.refl wr.heap.size wr) nd) (.cells #[.int .u64 x] 46))
          have hst := ST.out.below (Zc (Za (Below.refl wr.heap.size wr) nd) (.cells #[.int .u64 x] 46))
          have hgf := HG.out.mv (Mv.of_below (fun _ => False) O2 (Zc (Za (Below.refl wr.heap.size wr) nd) (.cells #[.int .u64 x] 46))) (fun _ _ h => h) (fun h => h)
          have HRW := Zb.mk hrw
          have HST := Zb.mk hst
          have HGF := Zb.mk hgf
          clear hrw hst hgf ST HG HW
          go_wp2_with ((with_reducible refine gate_builtin (b := .append) (xs := #[.tmp 58, .tmp 69]) rfl ?_); at_builtin; refine wpList_append_rw EL _ rfl _ _ 22 rfl i0 (.int .u64 0) 8 Try.underlying22 HI.out.1 HI.out.2.1 HI.out.2.2.1 HI.out.2.2.2 rfl HRW.out rfl ⟨wr.heap.size, 0, none⟩ 1 1 [.int .u64 x] rfl rfl ?s1 ?s2 ?s3 ?s4 Nat.one_pos (n k + i + 1) (Nat.le_succ _) (Nat.le_refl _) ?s5 ?_)
          case s1 => exact one_cells _ _
          case s2 => exact fun u hu => by rw [List.mem_singleton.1 hu]; rfl
          case s3 => have := HN.out k hkK; simp only [maxLen]; omega
          case s4 => have := HN.out k hkK; omega
          case s5 => exact one_ok HX.out
          intro v' c' O' w' hrw hmv hal
          have HRW' := Zb.mk hrw
          have HST' := Zb.mk (HST.out.step (N := n k + i) (by omega) hmv hal (fun _ => Nat.le_add_right _ _))
          have HGF' := Zb.mk (HGF.out.mv hmv (fun j hj => not_some (by omega)) not_none)
          clear hrw hmv hal HRW HST HGF
          go_wp2_with fail
          go_roundg k2
          case measure => omega
          case rel => exact ⟨i + 1, O', c', ⟨by omega, by omega⟩, (by first | rfl | exact congrArg (Value.int .i64) ei), HRW', HST', HGF'⟩
         ·have hie : i = 64 := by omega
          subst hie
          have cci : decide ((64 : Int) < 64) = false := rfl
          have ek := wrap_succ k (by omega)
          have hG0 := ST.out.hg.get hkK
          obtain ⟨A7, h7⟩ := HW.out.val
          subst h7
          have hGf := ST.out.hg.frozen k
          have hGo := ST.out.hg.1
          go_wp2_with fail
          go_roundg k1
          case measure => omega
          case rel => exact ⟨k + 1, O2, _, _, ⟨by omega, by omega⟩, (by first | rfl | exact congrArg (Value.int .i64) ek), ⟨ST.out.store k _⟩, ⟨Fam.header (Fam.snoc HG.out HW.out) hGo (by omega) k _⟩⟩
      ·have hkE : K = k := by omega
       subst hkE
       have cc : decide ((K : Int) < (K : Int)) = false := decide_eq_false (by omega)
       go_wp2_with fail
       go_loopg [9] (K + 1) (fun kq v9 w' => ∃ k : Nat, (k + kq = K + 1 ∧ k ≤ K) ∧ v9 = .int .i64 (k : Int) ∧ Zb (St EL 22 O w O1 w' L cL K v n c G gs) ∧ Zb (Fam EL w' O1 K gs (fun j => n j + 64) cg (fun j => n j + 64)))
       case atStart => exact ⟨0, ⟨by omega, by omega⟩, rfl, ST, HG⟩
       case round =>
        clear ST HG
        obtain ⟨k, hk, rfl, ST, HG⟩ := hrel
        cases gk with
        | zero => exact absurd hk (by omega)
        | succ k1 =>
         by_cases hkK : k < K
         ·have cc : decide ((k : Int) < (K : Int)) = true := decide_eq_true (by omega)
          have hk0 : (0 : Int) ≤ (k : Int) := by omega
          have hk1 : (k : Int) < (K : Int) := by omega
          go_wp2_with fail
          go_loopg [10] (n k + 64 + 1) (fun kq v10 w' => ∃ i : Nat, (i + kq = n k + 64 + 1 ∧ i ≤ n k + 64) ∧ v10 = .int .i64 (i : Int) ∧ Zb (St EL 22 O w O1 w' L cL K v n c G gs) ∧ Zb (Fam EL w' O1 K gs (fun j => n j + 64) cg (fun j => n j + 64)))
          case atStart => exact ⟨0, ⟨by omega, by omega⟩, rfl, ST, HG⟩
          case round =>
           clear ST HG
           obtain ⟨i, hi, rfl, ST, HG⟩ := hrel
           have hnk := HN.out k hkK
           cases gk with
           | zero => exact absurd hi (by omega)
           | succ k2 =>
            have hGk : Rw EL wr O1 k (gs k) (n k + 64) (cg k) (n k + 64) := HG.out k hkK
            have hgl := ST.out.hg.get hkK
            obtain ⟨N, hN⟩ : ∃ N, N = n k + 64 := ⟨_, rfl⟩
            rw [← hN] at hGk
            by_cases hin : i < N
            ·have cci : decide ((i : Int) < (N : Int)) = true := decide_eq_true (by omega)
             obtain ⟨gg, hgv, hgc⟩ := hGk.getL hin
             rw [hgv] at hgl
             have i0 : (0 : Int) ≤ (i : Int) := by omega
             have i1 : (i : Int) < (N : Int) := by omega
             have b1 : k ≤ 100000 := by omega
             have b2 : i ≤ 100000 := by omega
             have hll := ST.out.hl.get hkK
             obtain ⟨x, hx, em, eu⟩ := mark_h k i b1 b2
             rw [← hx] at hgc
             have HE := Zb.mk em
             have HU := Zb.mk eu
             have HX := Zb.mk hx
             have EI := Zb.mk (wrap_succ i b2)
             clear em eu hx
             by_cases hin2 : i < n k
             ·have ccj : decide ((i : Int) < (n k : Int)) = true := decide_eq_true (by omega)
              have i2 : (i : Int) < (n k : Int) := by omega
              obtain ⟨gl, hlv, hlc⟩ := (ST.out.rows k hkK).getL hin2
              rw [hlv] at hll
              rw [← HX.out] at hlc
              have HNN := Zb.mk hN
              have HHI := Zb.mk hi
              clear hN hi
              have eu := HU.out
              have ei := EI.out
              clear b1 b2 hGk hgv hlv hnk
              go_upto_region 24 with fail
              refine start_ (n := 37) (S := fun w' => w'.cell? ⟨G, k, none⟩ = some (.slice (some ⟨gg, 0, none⟩) N (cg k)) ∧ w'.cell? ⟨gg, i, none⟩ = some (.int .u64 x) ∧ w'.cell? ⟨L, k, none⟩ = some (.slice (some ⟨gl, 0, none⟩) (n k) (c k)) ∧ w'.cell? ⟨gl, i, none⟩ = some (.int .u64 x)) (ds := []) #[false, false, false, false, false, false, false, false, false, false, false, false, false, false, false, false, false, false, false, false, false, false, false, false, false, false, false, false, false, false, false, false, false, false, false, false, false] (by kernel_rfl) rfl rfl ⟨hgl, hgc, hll, hlc⟩ (fun hHeld => ?_)
              refine ZM (i := 0) (N := some 90) (v := ?_) (a' := ?_) #[true, false, false, false, false, false, false, false, false, false, false, false, false, false, false, false, false, false, false, false, false, false, false, false, false, false, false, false, false, false, false, false, false, false, false, false, false] rfl rfl (by kernel_rfl) (fun _ _ _ h => h) (Or.inl ⟨by rfl, ?_⟩) ?_ ?_
              rotate_left
              ·intro w'
               go_simp
               with_reducible rfl
              rotate_left
              ·simp only [Act.put, List.setIfInBounds_toArray, List.set_cons_zero, List.set_cons_succ, Zx, ZA]
               rfl
              refine ZM (i := 1) (N := some 91) (v := ?_) (a' := ?_) #[true, true, false, false, false, false, false, false, false, false, false, false, false, false, false, false, false, false, false, false, false, false, false, false, false, false, false, false, false, false, false, false, false, false, false, false, false] rfl rfl (by kernel_rfl) (fun _ _ _ h => h) (Or.inl ⟨by rfl, ?_⟩) ?_ ?_
              rotate_left
              ·intro w'
               go_simp
               with_reducible rfl
              rotate_left
              ·simp only [Act.put, List.setIfInBounds_toArray, List.set_cons_zero, List.set_cons_succ, Zx, ZA]
               rfl
              refine ZM (i := 2) (N := some 92) (v := ?_) (a' := ?_) #[true, true, true, false, false, false, false, false, false, false, false, false, false, false, false, false, false, false, false, false, false, false, false, false, false, false, false, false, false, false, false, false, false, false, false, false, false] rfl rfl (by kernel_rfl) (fun _ _ _ h => h) (Or.inl ⟨by rfl, ?_⟩) ?_ ?_
              rotate_left
              ·intro w'
               go_simp
               with_reducible rfl
              rotate_left
              ·simp only [Act.put, List.setIfInBounds_toArray, List.set_cons_zero, List.set_cons_succ, Zx, ZA]
               rfl
              refine take_ (i := 3) (N := some 93) (v := ?_) (a' := ?_) #[true, true, true, true, false, false, false, false, false, false, false, false, false, false, false, false, false, false, false, false, false, false, false, false, false, false, false, false, false, false, false, false, false, false, false, false, false] rfl rfl (by kernel_rfl) (fun _ _ _ h => h) (Or.inl ⟨by rfl, ?_⟩) hHeld ?_ ?_
              rotate_left
              ·rintro w' ⟨s0, s1, s2, s3⟩
               go_simp
               with_reducible rfl
              rotate_left
              ·simp only [Act.put, List.setIfInBounds_toArray, List.set_cons_zero, List.set_cons_succ, Zx, ZA]
               rfl
              refine ZM (i := 4) (N := some 94) (v := ?_) (a' := ?_) #[true, true, true, true, true, false, false, false, false, false, false, false, false, false, false, false, false, false, false, false, false, false, false, false, false, false, false, false, false, false, false, false, false, false, false, false, false] rfl rfl (by kernel_rfl) (fun _ _ _ h => h) (Or.inl ⟨by rfl, ?_⟩) ?_ ?_
              rotate_left
              ·intro w'
               go_simp
               with_reducible rfl
              rotate_left
              ·simp only [Act.put, List.setIfInBounds_toArray, List.set_cons_zero, List.set_cons_succ, Zx, ZA]
               rfl
              refine ZM (i := 5) (N := some 95) (v := ?_) (a' := ?_) #[true, true, true, true, true, true, false, false, false, false, false, false, false, false, false, false, false, false, false, false, false, false, false, false, false, false, false, false, false, false, false, false, false, false, false, false, false] rfl rfl (by kernel_rfl) (fun _ _ _ h => h) (Or.inl ⟨by rfl, ?_⟩) ?_ ?_
              rotate_left
              ·intro w'
               go_simp
               with_reducible rfl
              rotate_left
              ·simp only [Act.put, List.setIfInBounds_toArray, List.set_cons_zero, List.set_cons_succ, Zx, ZA]
               rfl
              refine take_ (i := 6) (N := some 96) (v := ?_) (a' := ?_) #[true, true, true, true, true, true, true, false, false, false, false, false, false, false, false, false, false, false, false, false, false, false, false, false, false, false, false, false, false, false, false, false, false, false, false, false, false] rfl rfl (by kernel_rfl) (fun _ _ _ h => h) (Or.inl ⟨by rfl, ?_⟩) hHeld ?_ ?_
              rotate_left
              ·rintro w' ⟨s0, s1, s2, s3⟩
               go_simp
               with_reducible rfl
              rotate_left
              ·simp only [Act.put, List.setIfInBounds_toArray, List.set_cons_zero, List.set_cons_succ, Zx, ZA]
               rfl
              refine ZM (i := 7) (N := some 97) (v := ?_) (a' := ?_) #[true, true, true, true, true, true, true, true, false, false, false, false, false, false, false, false, false, false, false, false, false, false, false, false, false, false, false, false, false, false, false, false, false, false, false, false, false] rfl rfl (by kernel_rfl) (fun _ _ _ h => h) (Or.inl ⟨by rfl, ?_⟩) ?_ ?_
              rotate_left
              ·intro w'
               go_simp
               with_reducible rfl
              rotate_left
              ·simp only [Act.put, List.setIfInBounds_toArray, List.set_cons_zero, List.set_cons_succ, Zx, ZA]
               rfl
              refine ZM (i := 8) (N := some 98) (v := ?_) (a' := ?_) #[true, true, true, true, true, true, true, true, true, false, false, false, false, false, false, false, false, false, false, false, false, false, false, false, false, false, false, false, false, false, false, false, false, false, false, false, false] rfl rfl (by kernel_rfl) (fun _ _ _ h => h) (Or.inl ⟨by rfl, ?_⟩) ?_ ?_
              rotate_left
              ·intro w'
               go_simp
               with_reducible rfl
              rotate_left
              ·simp only [Act.put, List.setIfInBounds_toArray, List.set_cons_zero, List.set_cons_succ, Zx, ZA]
               rfl
              refine one_ (i := 9) (N := some 99) #[true, true, true, true, true, true, true, true, true, true, false, false, false, false, false, false, false, false, false, false, false, false, false, false, false, false, false, false, false, false, false, false, false, false, false, false, false] rfl rfl (by kernel_rfl) (by decide) (fun K_ hK_ => ?_)
              refine goes_ Try.func74 (by kernel_rfl) rfl #[.int .i64 (k : Int), .int .i64 (i : Int)] (by rfl) rfl rfl (by (try simp only [List.map_toArray, List.map_cons, List.map_nil]); first | done | rfl) ?_
              with_reducible refine (BP.rkmark.calls (k : Int) (i : Int) x _ HE.out).mono ?_
              rintro ev w5 ⟨rfl, ⟨nd, rfl⟩⟩
              refine ⟨_, rfl, ?_⟩
              refine hK_.out _ _ ⟨hgl, hgc, hll, hlc⟩ (fun hHeld => ?_)
              clear hK_ K_
              refine norm_ (a' := ?_) ?_ ?_
              rotate_left
              ·show Act.put _ (some 99) _ = _
               simp only [Act.put, List.setIfInBounds_toArray, List.set_cons_zero, List.set_cons_succ, Zx, ZA]
               rfl
              refine ZM (i := 10) (N := some 100) (v := ?_) (a' := ?_) #[true, true, true, true, true, true, true, true, true, true, true, false, false, false, false, false, false, false, false, false, false, false, false, false, false, false, false, false, false, false, false, false, false, false, false, false, false] rfl rfl (by kernel_rfl) (fun _ _ _ h => h) (Or.inl ⟨by rfl, ?_⟩) ?_ ?_
              rotate_left
              ·intro w'
               go_simp
               with_reducible rfl
              rotate_left
              ·simp only [Act.put, List.setIfInBounds_toArray, List.set_cons_zero, List.set_cons_succ, Zx, ZA]
               rfl
              refine ZM (i := 11) (N := some 101) (v := ?_) (a' := ?_) #[true, true, true, true, true, true, true, true, true, true, true, true, false, false, false, false, false, false, false, false, false, false, false, false, false, false, false, false, false, false, false, false, false, false, false, false, false] rfl rfl (by kernel_rfl) (fun _ _ _ h => h) (Or.inl ⟨by rfl, ?_⟩) ?_ ?_
              rotate_left
              ·intro w'
               go_simp
               with_reducible rfl
              rotate_left
              ·simp only [Act.put, List.setIfInBounds_toArray, List.set_cons_zero, List.set_cons_succ, Zx, ZA]
               rfl
              refine ZM (i := 12) (N := some 102) (v := ?_) (a' := ?_) #[true, true, true, true, true, true, true, true, true, true, true, true, true, false, false, false, false, false, false, false, false, false, false, false, false, false, false, false, false, false, false, false, false, false, false, false, false] rfl rfl (by kernel_rfl) (fun _ _ _ h => h) (Or.inl ⟨by rfl, ?_⟩) ?_ ?_
              rotate_left
              ·intro w'
               go_simp
               with_reducible rfl
              rotate_left
              ·simp only [Act.put, List.setIfInBounds_toArray, List.set_cons_zero, List.set_cons_succ, Zx, ZA]
               rfl
              refine ZM (i := 13) (N := some 103) (v := ?_) (a' := ?_) #[true, true, true, true, true, true, true, true, true, true, true, true, true, true, false, false, false, false, false, false, false, false, false, false, false, false, false, false, false, false, false, false, false, false, false, false, false] rfl rfl (by kernel_rfl) (fun _ _ _ h => h) (Or.inl ⟨by rfl, ?_⟩) ?_ ?_
              rotate_left
              ·intro w'
               go_simp
               with_reducible rfl
              rotate_left
              ·simp only [Act.put, List.setIfInBounds_toArray, List.set_cons_zero, List.set_cons_succ, Zx, ZA]
               rfl
              refine ZM (i := 14) (N := some 104) (v := ?_) (a' := ?_) #[true, true, true, true, true, true, true, true, true, true, true, true, true, true, true, false, false, false, false, false, false, false, false, false, false, false, false, false, false, false, false, false, false, false, false, false, false] rfl rfl (by kernel_rfl) (fun _ _ _ h => h) (Or.inl ⟨by rfl, ?_⟩) ?_ ?_
              rotate_left
              ·intro w'
               go_simp
               with_reducible rfl
              rotate_left
              ·simp only [Act.put, List.setIfInBounds_toArray, List.set_cons_zero, List.set_cons_succ, Zx, ZA]
               rfl
              refine ZM (i := 15) (N := some 105) (v := ?_) (a' := ?_) #[true, true, true, true, true, true, true, true, true, true, true, true, true, true, true, true, false, false, false, false, false, false, false, false, false, false, false, false, false, false, false, false, false, false, false, false, false] rfl rfl (by kernel_rfl) (fun _ _ _ h => h) (Or.inl ⟨by rfl, ?_⟩) ?_ ?_
              rotate_left
              ·intro w'
               go_simp
               with_reducible rfl
              rotate_left
              ·simp only [Act.put, List.setIfInBounds_toArray, List.set_cons_zero, List.set_cons_succ, Zx, ZA]
               rfl
              refine ZM (i := 16) (N := some 106) (v := ?_) (a' := ?_) #[true, true, true, true, true, true, true, true, true, true, true, true, true, true, true, true, true, false, false, false, false, false, false, false, false, false, false, false, false, false, false, false, false, false, false, false, false] rfl rfl (by kernel_rfl) (fun _ _ _ h => h) (Or.inl ⟨by rfl, ?_⟩) ?_ ?_
              rotate_left
              ·intro w'
               go_simp
               with_reducible rfl
              rotate_left
              ·simp only [Act.put, List.setIfInBounds_toArray, List.set_cons_zero, List.set_cons_succ, Zx, ZA]
               rfl
              refine ZM (i := 17) (N := some 107) (v := ?_) (a' := ?_) #[true, true, true, true, true, true, true, true, true, true, true, true, true, true, true, true, true, true, false, false, false, false, false, false, false, false, false, false, false, false, false, false, false, false, false, false, false] rfl rfl (by kernel_rfl) (fun _ _ _ h => h) (Or.inl ⟨by rfl, ?_⟩) ?_ ?_
              rotate_left
              ·intro w'
               go_simp
               with_reducible rfl
              rotate_left
              ·simp only [Act.put, List.setIfInBounds_toArray, List.set_cons_zero, List.set_cons_succ, Zx, ZA]
               rfl
              refine take_ (i := 18) (N := some 108) (v := ?_) (a' := ?_) #[true, true, true, true, true, true, true, true, true, true, true, true, true, true, true, true, true, true, true, false, false, false, false, false, false, false, false, false, false, false, false, false, false, false, false, false, false] rfl rfl (by kernel_rfl) (fun _ _ _ h => h) (Or.inl ⟨by rfl, ?_⟩) hHeld ?_ ?_
              rotate_left
              ·rintro w' ⟨s0, s1, s2, s3⟩
               go_simp
               with_reducible rfl
              rotate_left
              ·simp only [Act.put, List.setIfInBounds_toArray, List.set_cons_zero, List.set_cons_succ, Zx, ZA]
               rfl
              refine ZM (i := 19) (N := some 109) (v := ?_) (a' := ?_) #[true, true, true, true, true, true, true, true, true, true, true, true, true, true, true, true, true, true, true, true, false, false, false, false, false, false, false, false, false, false, false, false, false, false, false, false, false] rfl rfl (by kernel_rfl) (fun _ _ _ h => h) (Or.inl ⟨by rfl, ?_⟩) ?_ ?_
              rotate_left
              ·intro w'
               go_simp
               with_reducible rfl
              rotate_left
              ·simp only [Act.put, List.setIfInBounds_toArray, List.set_cons_zero, List.set_cons_succ, Zx, ZA]
               rfl
              refine ZM (i := 20) (N := some 110) (v := ?_) (a' := ?_) #[true, true, true, true, true, true, true, true, true, true, true, true, true, true, true, true, true, true, true, true, true, false, false, false, false, false, false, false, false, false, false, false, false, false, false, false, false] rfl rfl (by kernel_rfl) (fun _ _ _ h => h) (Or.inl ⟨by rfl, ?_⟩) ?_ ?_
              rotate_left
              ·intro w'
               go_simp
               with_reducible rfl
              rotate_left
              ·simp only [Act.put, List.setIfInBounds_toArray, List.set_cons_zero, List.set_cons_succ, Zx, ZA]
               rfl
              refine ZM (i := 21) (N := some 111) (v := ?_) (a' := ?_) #[true, true, true, true, true, true, true, true, true, true, true, true, true, true, true, true, true, true, true, true, true, true, false, false, false, false, false, false, false, false, false, false, false, false, false, false, false] rfl rfl (by kernel_rfl) (fun _ _ _ h => h) (Or.inl ⟨by rfl, ?_⟩) ?_ ?_
              rotate_left
              ·intro w'
               go_simp
               with_reducible rfl
              rotate_left
              ·simp only [Act.put, List.setIfInBounds_toArray, List.set_cons_zero, List.set_cons_succ, Zx, ZA]
               rfl
              refine ZM (i := 22) (N := some 112) (v := ?_) (a' := ?_) #[true, true, true, true, true, true, true, true, true, true, true, true, true, true, true, true, true, true, true, true, true, true, true, false, false, false, false, false, false, false, false, false, false, false, false, false, false] rfl rfl (by kernel_rfl) (fun _ _ _ h => h) (Or.inl ⟨by rfl, ?_⟩) ?_ ?_
              rotate_left
              ·intro w'
               go_simp
               with_reducible rfl
              rotate_left
              ·simp only [Act.put, List.setIfInBounds_toArray, List.set_cons_zero, List.set_cons_succ, Zx, ZA]
               rfl
              refine ZM (i := 23) (N := some 113) (v := ?_) (a' := ?_) #[true, true, true, true, true, true, true, true, true, true, true, true, true, true, true, true, true, true, true, true, true, true, true, true, false, false, false, false, false, false, false, false, false, false, false, false, false] rfl rfl (by kernel_rfl) (fun _ _ _ h => h) (Or.inl ⟨by rfl, ?_⟩) ?_ ?_
              rotate_left
              ·intro w'
               go_simp
               with_reducible rfl
              rotate_left
              ·simp only [Act.put, List.setIfInBounds_toArray, List.set_cons_zero, List.set_cons_succ, Zx, ZA]
               rfl
              refine ZM (i := 24) (N := some 114) (v := ?_) (a' := ?_) #[true, true, true, true, true, true, true, true, true, true, true, true, true, true, true, true, true, true, true, true, true, true, true, true, true, false, false, false, false, false, false, false, false, false, false, false, false] rfl rfl (by kernel_rfl) (fun _ _ _ h => h) (Or.inl ⟨by rfl, ?_⟩) ?_ ?_
              rotate_left
              ·intro w'
               go_simp
               with_reducible rfl
              rotate_left
              ·simp only [Act.put, List.setIfInBounds_toArray, List.set_cons_zero, List.set_cons_succ, Zx, ZA]
               rfl
              refine take_ (i := 25) (N := some 115) (v := ?_) (a' := ?_) #[true, true, true, true, true, true, true, true, true, true, true, true, true, true, true, true, true, true, true, true, true, true, true, true, true, true, false, false, false, false, false, false, false, false, false, false, false] rfl rfl (by kernel_rfl) (fun _ _ _ h => h) (Or.inl ⟨by rfl, ?_⟩) hHeld ?_ ?_
              rotate_left
              ·rintro w' ⟨s0, s1, s2, s3⟩
               go_simp
               with_reducible rfl
              rotate_left
              ·simp only [Act.put, List.setIfInBounds_toArray, List.set_cons_zero, List.set_cons_succ, Zx, ZA]
               rfl
              refine ZM (i := 26) (N := some 116) (v := ?_) (a' := ?_) #[true, true, true, true, true, true, true, true, true, true, true, true, true, true, true, true, true, true, true, true, true, true, true, true, true, true, true, false, false, false, false, false, false, false, false, false, false] rfl rfl (by kernel_rfl) (fun _ _ _ h => h) (Or.inl ⟨by rfl, ?_⟩) ?_ ?_
              rotate_left
              ·intro w'
               go_simp
               with_reducible rfl
              rotate_left
              ·simp only [Act.put, List.setIfInBounds_toArray, List.set_cons_zero, List.set_cons_succ, Zx, ZA]
               rfl
              refine ZM (i := 27) (N := some 117) (v := ?_) (a' := ?_) #[true, true, true, true, true, true, true, true, true, true, true, true, true, true, true, true, true, true, true, true, true, true, true, true, true, true, true, true, false, false, false, false, false, false, false, false, false] rfl rfl (by kernel_rfl) (fun _ _ _ h => h) (Or.inl ⟨by rfl, ?_⟩) ?_ ?_
              rotate_left
              ·intro w'
               go_simp
               with_reducible rfl
              rotate_left
              ·simp only [Act.put, List.setIfInBounds_toArray, List.set_cons_zero, List.set_cons_succ, Zx, ZA]
               rfl
              refine take_ (i := 28) (N := some 118) (v := ?_) (a' := ?_) #[true, true, true, true, true, true, true, true, true, true, true, true, true, true, true, true, true, true, true, true, true, true, true, true, true, true, true, true, true, false, false, false, false, false, false, false, false] rfl rfl (by kernel_rfl) (fun _ _ _ h => h) (Or.inl ⟨by rfl, ?_⟩) hHeld ?_ ?_
              rotate_left
              ·rintro w' ⟨s0, s1, s2, s3⟩
               go_simp
               with_reducible rfl
              rotate_left
              ·simp only [Act.put, List.setIfInBounds_toArray, List.set_cons_zero, List.set_cons_succ, Zx, ZA]
               rfl
              refine ZM (i := 29) (N := some 119) (v := ?_) (a' := ?_) #[true, true, true, true, true, true, true, true, true, true, true, true, true, true, true, true, true, true, true, true, true, true, true, true, true, true, true, true, true, true, false, false, false, false, false, false, false] rfl rfl (by kernel_rfl) (fun _ _ _ h => h) (Or.inl ⟨by rfl, ?_⟩) ?_ ?_
              rotate_left
              ·intro w'
               go_simp
               with_reducible rfl
              rotate_left
              ·simp only [Act.put, List.setIfInBounds_toArray, List.set_cons_zero, List.set_cons_succ, Zx, ZA]
               rfl
              refine ZM (i := 30) (N := some 120) (v := ?_) (a' := ?_) #[true, true, true, true, true, true, true, true, true, true, true, true, true, true, true, true, true, true, true, true, true, true, true, true, true, true, true, true, true, true, true, false, false, false, false, false, false] rfl rfl (by kernel_rfl) (fun _ _ _ h => h) (Or.inl ⟨by rfl, ?_⟩) ?_ ?_
              rotate_left
              ·intro w'
               go_simp
               with_reducible rfl
              rotate_left
              ·simp only [Act.put, List.setIfInBounds_toArray, List.set_cons_zero, List.set_cons_succ, Zx, ZA]
               rfl
              refine one_ (i := 31) (N := some 121) #[true, true, true, true, true, true, true, true, true, true, true, true, true, true, true, true, true, true, true, true, true, true, true, true, true, true, true, true, true, true, true, true, false, false, false, false, false] rfl rfl (by kernel_rfl) (by decide) (fun K_ hK_ => ?_)
              refine goes_ Try.func74 (by kernel_rfl) rfl #[.int .i64 (k : Int), .int .i64 (i : Int)] (by rfl) rfl rfl (by (try simp only [List.map_toArray, List.map_cons, List.map_nil]); first | done | rfl) ?_
              with_reducible refine (BP.rkmark.calls (k : Int) (i : Int) x _ HE.out).mono ?_
              rintro ev w5 ⟨rfl, ⟨nd, rfl⟩⟩
              refine ⟨_, rfl, ?_⟩
              refine hK_.out _ _ ⟨hgl, hgc, hll, hlc⟩ (fun hHeld => ?_)
              clear hK_ K_
              refine norm_ (a' := ?_) ?_ ?_
              rotate_left
              ·show Act.put _ (some 121) _ = _
               simp only [Act.put, List.setIfInBounds_toArray, List.set_cons_zero, List.set_cons_succ, Zx, ZA]
               rfl
              refine ZM (i := 32) (N := some 122) (v := ?_) (a' := ?_) #[true, true, true, true, true, true, true, true, true, true, true, true, true, true, true, true, true, true, true, true, true, true, true, true, true, true, true, true, true, true, true, true, true, false, false, false, false] rfl rfl (by kernel_rfl) (fun _ _ _ h => h) (Or.inl ⟨by rfl, ?_⟩) ?_ ?_
              rotate_left
              ·intro w'
               go_simp
               with_reducible rfl
              rotate_left
              ·simp only [Act.put, List.setIfInBounds_toArray, List.set_cons_zero, List.set_cons_succ, Zx, ZA]
               rfl
              refine ZM (i := 33) (N := some 123) (v := ?_) (a' := ?_) #[true, true, true, true, true, true, true, true, true, true, true, true, true, true, true, true, true, true, true, true, true, true, true, true, true, true, true, true, true, true, true, true, true, true, false, false, false] rfl rfl (by kernel_rfl) (fun _ _ _ h => h) (Or.inl ⟨by rfl, ?_⟩) ?_ ?_
              rotate_left
              ·intro w'
               go_simp
               with_reducible rfl
              rotate_left
              ·simp only [Act.put, List.setIfInBounds_toArray, List.set_cons_zero, List.set_cons_succ, Zx, ZA]
               rfl
              refine ZM (i := 34) (N := some 124) (v := ?_) (a' := ?_) #[true, true, true, true, true, true, true, true, true, true, true, true, true, true, true, true, true, true, true, true, true, true, true, true, true, true, true, true, true, true, true, true, true, true, true, false, false] rfl rfl (by kernel_rfl) (fun _ _ _ h => h) (Or.inl ⟨by rfl, ?_⟩) ?_ ?_
              rotate_left
              ·intro w'
               go_simp
               with_reducible rfl
              rotate_left
              ·simp only [Act.put, List.setIfInBounds_toArray, List.set_cons_zero, List.set_cons_succ, Zx, ZA]
               rfl
              refine ZM (i := 35) (N := some 125) (v := ?_) (a' := ?_) #[true, true, true, true, true, true, true, true, true, true, true, true, true, true, true, true, true, true, true, true, true, true, true, true, true, true, true, true, true, true, true, true, true, true, true, true, false] rfl rfl (by kernel_rfl) (fun _ _ _ h => h) (Or.inl ⟨by rfl, ?_⟩) ?_ ?_
              rotate_left
              ·intro w'
               go_simp
               with_reducible rfl
              rotate_left
              ·simp only [Act.put, List.setIfInBounds_toArray, List.set_cons_zero, List.set_cons_succ, Zx, ZA]
               rfl
              refine ZM (i := 36) (N := some 126) (v := ?_) (a' := ?_) #[true, true, true, true, true, true, true, true, true, true, true, true, true, true, true, true, true, true, true, true, true, true, true, true, true, true, true, true, true, true, true, true, true, true, true, true, true] rfl rfl (by kernel_rfl) (fun _ _ _ h => h) (Or.inl ⟨by rfl, ?_⟩) ?_ ?_
              rotate_left
              ·intro w'
               go_simp
               with_reducible rfl
              rotate_left
              ·simp only [Act.put, List.setIfInBounds_toArray, List.set_cons_zero, List.set_cons_succ, Zx, ZA]
               rfl
              refine done_ (by kernel_rfl) ?_
              go_wp2_with fail
              clear eu ei
              have hN := HNN.out
              have hi := HHI.out
              go_roundg k2
              case measure => omega
              case rel => exact ⟨i + 1, ⟨by omega, by omega⟩, (by first | rfl | exact congrArg (Value.int .i64) EI.out), ⟨ST.out.below (Za (Below.refl _ _) _)⟩, ⟨HG.out.drewN _⟩⟩
             ·have ccj : decide ((i : Int) < (n k : Int)) = false := decide_eq_false (by omega)
              obtain ⟨Al, hlv⟩ := (ST.out.rows k hkK).val
              rw [hlv] at hll
              have HNN := Zb.mk hN
              have HHI := Zb.mk hi
              clear hN hi
              have eu := HU.out
              have ei := EI.out
              clear b1 b2 hGk hgv hlv hnk
              go_upto_region 24 with fail
              refine start_ (n := 37) (S := fun w' => w'.cell? ⟨G, k, none⟩ = some (.slice (some ⟨gg, 0, none⟩) N (cg k)) ∧ w'.cell? ⟨gg, i, none⟩ = some (.int .u64 x) ∧ w'.cell? ⟨L, k, none⟩ = some (.slice Al (n k) (c k))) (ds := []) #[false, false, false, false, false, false, false, false, false, false, false, false, false, false, false, false, false, false, false, false, false, false, false, false, false, false, false, false, false, false, false, false, false, false, false, false, false] (by kernel_rfl) rfl rfl ⟨hgl, hgc, hll⟩ (fun hHeld => ?_)
              refine ZM (i := 0) (N := some 90) (v := ?_) (a' := ?_) #[true, false, false, false, false, false, false, false, false, false, false, false, false, false, false, false, false, false, false, false, false, false, false, false, false, false, false, false, false, false, false, false, false, false, false, false, false] rfl rfl (by kernel_rfl) (fun _ _ _ h => h) (Or.inl ⟨by rfl, ?_⟩) ?_ ?_
              rotate_left
              ·intro w'
               go_simp
               with_reducible rfl
              rotate_left
              ·simp only [Act.put, List.setIfInBounds_toArray, List.set_cons_zero, List.set_cons_succ, Zx, ZA]
               rfl
              refine ZM (i := 1) (N := some 91) (v := ?_) (a' := ?_) #[true, true, false, false, false, false, false, false, false, false, false, false, false, false, false, false, false, false, false, false, false, false, false, false, false, false, false, false, false, false, false, false, false, false, false, false, false] rfl rfl (by kernel_rfl) (fun _ _ _ h => h) (Or.inl ⟨by rfl, ?_⟩) ?_ ?_
              rotate_left
              ·intro w'
               go_simp
               with_reducible rfl
              rotate_left
              ·simp only [Act.put, List.setIfInBounds_toArray, List.set_cons_zero, List.set_cons_succ, Zx, ZA]
               rfl
              refine ZM (i := 2) (N := some 92) (v := ?_) (a' := ?_) #[true, true, true, false, false, false, false, false, false, false, false, false, false, false, false, false, false, false, false, false, false, false, false, false, false, false, false, false, false, false, false, false, false, false, false, false, false] rfl rfl (by kernel_rfl) (fun _ _ _ h => h) (Or.inl ⟨by rfl, ?_⟩) ?_ ?_
              rotate_left
              ·intro w'
               go_simp
               with_reducible rfl
              rotate_left
              ·simp only [Act.put, List.setIfInBounds_toArray, List.set_cons_zero, List.set_cons_succ, Zx, ZA]
               rfl
              refine take_ (i := 3) (N := some 93) (v := ?_) (a' := ?_) #[true, true, true, true, false, false, false, false, false, false, false, false, false, false, false, false, false, false, false, false, false, false, false, false, false, false, false, false, false, false, false, false, false, false, false, false, false] rfl rfl (by kernel_rfl) (fun _ _ _ h => h) (Or.inl ⟨by rfl, ?_⟩) hHeld ?_ ?_
              rotate_left
              ·rintro w' ⟨s0, s1, s2⟩
               go_simp
               with_reducible rfl
              rotate_left
              ·simp only [Act.put, List.setIfInBounds_toArray, List.set_cons_zero, List.set_cons_succ, Zx, ZA]
               rfl
              refine ZM (i := 4) (N := some 94) (v := ?_) (a' := ?_) #[true, true, true, true, true, false, false, false, false, false, false, false, false, false, false, false, false, false, false, false, false, false, false, false, false, false, false, false, false, false, false, false, false, false, false, false, false] rfl rfl (by kernel_rfl) (fun _ _ _ h => h) (Or.inl ⟨by rfl, ?_⟩) ?_ ?_
              rotate_left
              ·intro w'
               go_simp
               with_reducible rfl
              rotate_left
              ·simp only [Act.put, List.setIfInBounds_toArray, List.set_cons_zero, List.set_cons_succ, Zx, ZA]
               rfl
              refine ZM (i := 5) (N := some 95) (v := ?_) (a' := ?_) #[true, true, true, true, true, true, false, false, false, false, false, false, false, false, false, false, false, false, false, false, false, false, false, false, false, false, false, false, false, false, false, false, false, false, false, false, false] rfl rfl (by kernel_rfl) (fun _ _ _ h => h) (Or.inl ⟨by rfl, ?_⟩) ?_ ?_
              rotate_left
              ·intro w'
               go_simp
               with_reducible rfl
              rotate_left
              ·simp only [Act.put, List.setIfInBounds_toArray, List.set_cons_zero, List.set_cons_succ, Zx, ZA]
               rfl
              refine take_ (i := 6) (N := some 96) (v := ?_) (a' := ?_) #[true, true, true, true, true, true, true, false, false, false, false, false, false, false, false, false, false, false, false, false, false, false, false, false, false, false, false, false, false, false, false, false, false, false, false, false, false] rfl rfl (by kernel_rfl) (fun _ _ _ h => h) (Or.inl ⟨by rfl, ?_⟩) hHeld ?_ ?_
              rotate_left
              ·rintro w' ⟨s0, s1, s2⟩
               go_simp
               with_reducible rfl
              rotate_left
              ·simp only [Act.put, List.setIfInBounds_toArray, List.set_cons_zero, List.set_cons_succ, Zx, ZA]
               rfl
              refine ZM (i := 7) (N := some 97) (v := ?_) (a' := ?_) #[true, true, true, true, true, true, true, true, false, false, false, false, false, false, false, false, false, false, false, false, false, false, false, false, false, false, false, false, false, false, false, false, false, false, false, false, false] rfl rfl (by kernel_rfl) (fun _ _ _ h => h) (Or.inl ⟨by rfl, ?_⟩) ?_ ?_
              rotate_left
              ·intro w'
               go_simp
               with_reducible rfl
              rotate_left
              ·simp only [Act.put, List.setIfInBounds_toArray, List.set_cons_zero, List.set_cons_succ, Zx, ZA]
               rfl
              refine ZM (i := 8) (N := some 98) (v := ?_) (a' := ?_) #[true, true, true, true, true, true, true, true, true, false, false, false, false, false, false, false, false, false, false, false, false, false, false, false, false, false, false, false, false, false, false, false, false, false, false, false, false] rfl rfl (by kernel_rfl) (fun _ _ _ h => h) (Or.inl ⟨by rfl, ?_⟩) ?_ ?_
              rotate_left
              ·intro w'
               go_simp
               with_reducible rfl
              rotate_left
              ·simp only [Act.put, List.setIfInBounds_toArray, List.set_cons_zero, List.set_cons_succ, Zx, ZA]
               rfl
              refine one_ (i := 9) (N := some 99) #[true, true, true, true, true, true, true, true, true, true, false, false, false, false, false, false, false, false, false, false, false, false, false, false, false, false, false, false, false, false, false, false, false, false, false, false, false] rfl rfl (by kernel_rfl) (by decide) (fun K_ hK_ => ?_)
              refine goes_ Try.func74 (by kernel_rfl) rfl #[.int .i64 (k : Int), .int .i64 (i : Int)] (by rfl) rfl rfl (by (try simp only [List.map_toArray, List.map_cons, List.map_nil]); first | done | rfl) ?_
              with_reducible refine (BP.rkmark.calls (k : Int) (i : Int) x _ HE.out).mono ?_
              rintro ev w5 ⟨rfl, ⟨nd, rfl⟩⟩
              refine ⟨_, rfl, ?_⟩
              refine hK_.out _ _ ⟨hgl, hgc, hll⟩ (fun hHeld => ?_)
              clear hK_ K_
              refine norm_ (a' := ?_) ?_ ?_
              rotate_left
              ·show Act.put _ (some 99) _ = _
               simp only [Act.put, List.setIfInBounds_toArray, List.set_cons_zero, List.set_cons_succ, Zx, ZA]
               rfl
              refine ZM (i := 10) (N := some 100) (v := ?_) (a' := ?_) #[true, true, true, true, true, true, true, true, true, true, true, false, false, false, false, false, false, false, false, false, false, false, false, false, false, false, false, false, false, false, false, false, false, false, false, false, false] rfl rfl (by kernel_rfl) (fun _ _ _ h => h) (Or.inl ⟨by rfl, ?_⟩) ?_ ?_
              rotate_left
              ·intro w'
               go_simp
               with_reducible rfl
              rotate_left
              ·simp only [Act.put, List.setIfInBounds_toArray, List.set_cons_zero, List.set_cons_succ, Zx, ZA]
               rfl
              refine ZM (i := 11) (N := some 101) (v := ?_) (a' := ?_) #[true, true, true, true, true, true, true, true, true, true, true, true, false, false, false, false, false, false, false, false, false, false, false, false, false, false, false, false, false, false, false, false, false, false, false, false, false] rfl rfl (by kernel_rfl) (fun _ _ _ h => h) (Or.inl ⟨by rfl, ?_⟩) ?_ ?_
              rotate_left
              ·intro w'
               go_simp
               with_reducible rfl
              rotate_left
              ·simp only [Act.put, List.setIfInBounds_toArray, List.set_cons_zero, List.set_cons_succ, Zx, ZA]
               rfl
              refine ZM (i := 12) (N := some 102) (v := ?_) (a' := ?_) #[true, true, true, true, true, true, true, true, true, true, true, true, true, false, false, false, false, false, false, false, false, false, false, false, false, false, false, false, false, false, false, false, false, false, false, false, false] rfl rfl (by kernel_rfl) (fun _ _ _ h => h) (Or.inl ⟨by rfl, ?_⟩) ?_ ?_
              rotate_left
              ·intro w'
               go_simp
               with_reducible rfl
              rotate_left
              ·simp only [Act.put, List.setIfInBounds_toArray, List.set_cons_zero, List.set_cons_succ, Zx, ZA]
               rfl
              refine ZM (i := 13) (N := some 103) (v := ?_) (a' := ?_) #[true, true, true, true, true, true, true, true, true, true, true, true, true, true, false, false, false, false, false, false, false, false, false, false, false, false, false, false, false, false, false, false, false, false, false, false, false] rfl rfl (by kernel_rfl) (fun _ _ _ h => h) (Or.inl ⟨by rfl, ?_⟩) ?_ ?_
              rotate_left
              ·intro w'
               go_simp
               with_reducible rfl
              rotate_left
              ·simp only [Act.put, List.setIfInBounds_toArray, List.set_cons_zero, List.set_cons_succ, Zx, ZA]
               rfl
              refine ZM (i := 14) (N := some 104) (v := ?_) (a' := ?_) #[true, true, true, true, true, true, true, true, true, true, true, true, true, true, true, false, false, false, false, false, false, false, false, false, false, false, false, false, false, false, false, false, false, false, false, false, false] rfl rfl (by kernel_rfl) (fun _ _ _ h => h) (Or.inl ⟨by rfl, ?_⟩) ?_ ?_
              rotate_left
              ·intro w'
               go_simp
               with_reducible rfl
              rotate_left
              ·simp only [Act.put, List.setIfInBounds_toArray, List.set_cons_zero, List.set_cons_succ, Zx, ZA]
               rfl
              refine ZM (i := 15) (N := some 105) (v := ?_) (a' := ?_) #[true, true, true, true, true, true, true, true, true, true, true, true, true, true, true, true, false, false, false, false, false, false, false, false, false, false, false, false, false, false, false, false, false, false, false, false, false] rfl rfl (by kernel_rfl) (fun _ _ _ h => h) (Or.inl ⟨by rfl, ?_⟩) ?_ ?_
              rotate_left
              ·intro w'
               go_simp
               with_reducible rfl
              rotate_left
              ·simp only [Act.put, List.setIfInBounds_toArray, List.set_cons_zero, List.set_cons_succ, Zx, ZA]
               rfl
              refine ZM (i := 16) (N := some 106) (v := ?_) (a' := ?_) #[true, true, true, true, true, true, true, true, true, true, true, true, true, true, true, true, true, false, false, false, false, false, false, false, false, false, false, false, false, false, false, false, false, false, false, false, false] rfl rfl (by kernel_rfl) (fun _ _ _ h => h) (Or.inl ⟨by rfl, ?_⟩) ?_ ?_
              rotate_left
              ·intro w'
               go_simp
               with_reducible rfl
              rotate_left
              ·simp only [Act.put, List.setIfInBounds_toArray, List.set_cons_zero, List.set_cons_succ, Zx, ZA]
               rfl
              refine ZM (i := 17) (N := some 107) (v := ?_) (a' := ?_) #[true, true, true, true, true, true, true, true, true, true, true, true, true, true, true, true, true, true, false, false, false, false, false, false, false, false, false, false, false, false, false, false, false, false, false, false, false] rfl rfl (by kernel_rfl) (fun _ _ _ h => h) (Or.inl ⟨by rfl, ?_⟩) ?_ ?_
              rotate_left
              ·intro w'
               go_simp
               with_reducible rfl
              rotate_left
              ·simp only [Act.put, List.setIfInBounds_toArray, List.set_cons_zero, List.set_cons_succ, Zx, ZA]
               rfl
              refine take_ (i := 18) (N := some 108) (v := ?_) (a' := ?_) #[true, true, true, true, true, true, true, true, true, true, true, true, true, true, true, true, true, true, true, false, false, false, false, false, false, false, false, false, false, false, false, false, false, false, false, false, false] rfl rfl (by kernel_rfl) (fun _ _ _ h => h) (Or.inl ⟨by rfl, ?_⟩) hHeld ?_ ?_
              rotate_left
              ·rintro w' ⟨s0, s1, s2⟩
               go_simp
               with_reducible rfl
              rotate_left
              ·simp only [Act.put, List.setIfInBounds_toArray, List.set_cons_zero, List.set_cons_succ, Zx, ZA]
               rfl
              refine ZM (i := 19) (N := some 109) (v := ?_) (a' := ?_) #[true, true, true, true, true, true, true, true, true, true, true, true, true, true, true, true, true, true, true, true, false, false, false, false, false, false, false, false, false, false, false, false, false, false, false, false, false] rfl rfl (by kernel_rfl) (fun _ _ _ h => h) (Or.inl ⟨by rfl, ?_⟩) ?_ ?_
              rotate_left
              ·intro w'
               go_simp
               with_reducible rfl
              rotate_left
              ·simp only [Act.put, List.setIfInBounds_toArray, List.set_cons_zero, List.set_cons_succ, Zx, ZA]
               rfl
              refine ZM (i := 20) (N := some 110) (v := ?_) (a' := ?_) #[true, true, true, true, true, true, true, true, true, true, true, true, true, true, true, true, true, true, true, true, true, false, false, false, false, false, false, false, false, false, false, false, false, false, false, false, false] rfl rfl (by kernel_rfl) (fun _ _ _ h => h) (Or.inl ⟨by rfl, ?_⟩) ?_ ?_
              rotate_left
              ·intro w'
               go_simp
               with_reducible rfl
              rotate_left
              ·simp only [Act.put, List.setIfInBounds_toArray, List.set_cons_zero, List.set_cons_succ, Zx, ZA]
               rfl
              refine ZM (i := 21) (N := some 111) (v := ?_) (a' := ?_) #[true, true, true, true, true, true, true, true, true, true, true, true, true, true, true, true, true, true, true, true, true, true, false, false, false, false, false, false, false, false, false, false, false, false, false, false, false] rfl rfl (by kernel_rfl) (fun _ _ _ h => h) (Or.inl ⟨by rfl, ?_⟩) ?_ ?_
              rotate_left
              ·intro w'
               go_simp
               with_reducible rfl
              rotate_left
              ·simp only [Act.put, List.setIfInBounds_toArray, List.set_cons_zero, List.set_cons_succ, Zx, ZA]
               rfl
              refine ZM (i := 22) (N := some 112) (v := undef) (a' := ?_) #[true, true, true, true, true, true, true, true, true, true, true, true, true, true, true, true, true, true, true, true, true, true, true, false, false, false, false, false, false, false, false, false, false, false, false, false, false] rfl rfl (by kernel_rfl) (fun _ _ _ h => h) (Or.inr ⟨by rfl, rfl⟩) ?_ ?_
              rotate_left
              ·simp only [Act.put, List.setIfInBounds_toArray, List.set_cons_zero, List.set_cons_succ, Zx, ZA]
               rfl
              refine ZM (i := 23) (N := some 113) (v := undef) (a' := ?_) #[true, true, true, true, true, true, true, true, true, true, true, true, true, true, true, true, true, true, true, true, true, true, true, true, false, false, false, false, false, false, false, false, false, false, false, false, false] rfl rfl (by kernel_rfl) (fun _ _ _ h => h) (Or.inr ⟨by rfl, rfl⟩) ?_ ?_
              rotate_left
              ·simp only [Act.put, List.setIfInBounds_toArray, List.set_cons_zero, List.set_cons_succ, Zx, ZA]
               rfl
              refine ZM (i := 24) (N := some 114) (v := undef) (a' := ?_) #[true, true, true, true, true, true, true, true, true, true, true, true, true, true, true, true, true, true, true, true, true, true, true, true, true, false, false, false, false, false, false, false, false, false, false, false, false] rfl rfl (by kernel_rfl) (fun _ _ _ h => h) (Or.inr ⟨by rfl, rfl⟩) ?_ ?_
              rotate_left
              ·simp only [Act.put, List.setIfInBounds_toArray, List.set_cons_zero, List.set_cons_succ, Zx, ZA]
               rfl
              refine ZM (i := 25) (N := some 115) (v := undef) (a' := ?_) #[true, true, true, true, true, true, true, true, true, true, true, true, true, true, true, true, true, true, true, true, true, true, true, true, true, true, false, false, false, false, false, false, false, false, false, false, false] rfl rfl (by kernel_rfl) (fun _ _ _ h => h) (Or.inr ⟨by rfl, rfl⟩) ?_ ?_
              rotate_left
              ·simp only [Act.put, List.setIfInBounds_toArray, List.set_cons_zero, List.set_cons_succ, Zx, ZA]
               rfl
              refine ZM (i := 26) (N := some 116) (v := undef) (a' := ?_) #[true, true, true, true, true, true, true, true, true, true, true, true, true, true, true, true, true, true, true, true, true, true, true, true, true, true, true, false, false, false, false, false, false, false, false, false, false] rfl rfl (by kernel_rfl) (fun _ _ _ h => h) (Or.inr ⟨by rfl, rfl⟩) ?_ ?_
              rotate_left
              ·simp only [Act.put, List.setIfInBounds_toArray, List.set_cons_zero, List.set_cons_succ, Zx, ZA]
               rfl
              refine ZM (i := 27) (N := some 117) (v := undef) (a' := ?_) #[true, true, true, true, true, true, true, true, true, true, true, true, true, true, true, true, true, true, true, true, true, true, true, true, true, true, true, true, false, false, false, false, false, false, false, false, false] rfl rfl (by kernel_rfl) (fun _ _ _ h => h) (Or.inr ⟨by rfl, rfl⟩) ?_ ?_
              rotate_left
              ·simp only [Act.put, List.setIfInBounds_toArray, List.set_cons_zero, List.set_cons_succ, Zx, ZA]
               rfl
              refine ZM (i := 28) (N := some 118) (v := undef) (a' := ?_) #[true, true, true, true, true, true, true, true, true, true, true, true, true, true, true, true, true, true, true, true, true, true, true, true, true, true, true, true, true, false, false, false, false, false, false, false, false] rfl rfl (by kernel_rfl) (fun _ _ _ h => h) (Or.inr ⟨by rfl, rfl⟩) ?_ ?_
              rotate_left
              ·simp only [Act.put, List.setIfInBounds_toArray, List.set_cons_zero, List.set_cons_succ, Zx, ZA]
               rfl
              refine ZM (i := 29) (N := some 119) (v := undef) (a' := ?_) #[true, true, true, true, true, true, true, true, true, true, true, true, true, true, true, true, true, true, true, true, true, true, true, true, true, true, true, true, true, true, false, false, false, false, false, false, false] rfl rfl (by kernel_rfl) (fun _ _ _ h => h) (Or.inr ⟨by rfl, rfl⟩) ?_ ?_
              rotate_left
              ·simp only [Act.put, List.setIfInBounds_toArray, List.set_cons_zero, List.set_cons_succ, Zx, ZA]
               rfl
              refine ZM (i := 30) (N := some 120) (v := undef) (a' := ?_) #[true, true, true, true, true, true, true, true, true, true, true, true, true, true, true, true, true, true, true, true, true, true, true, true, true, true, true, true, true, true, true, false, false, false, false, false, false] rfl rfl (by kernel_rfl) (fun _ _ _ h => h) (Or.inr ⟨by rfl, rfl⟩) ?_ ?_
              rotate_left
              ·simp only [Act.put, List.setIfInBounds_toArray, List.set_cons_zero, List.set_cons_succ, Zx, ZA]
               rfl
              refine ZM (i := 31) (N := some 121) (v := undef) (a' := ?_) #[true, true, true, true, true, true, true, true, true, true, true, true, true, true, true, true, true, true, true, true, true, true, true, true, true, true, true, true, true, true, true, true, false, false, false, false, false] rfl rfl (by kernel_rfl) (fun _ _ _ h => h) (Or.inr ⟨by rfl, rfl⟩) ?_ ?_
              rotate_left
              ·simp only [Act.put, List.setIfInBounds_toArray, List.set_cons_zero, List.set_cons_succ, Zx, ZA]
               rfl
              refine ZM (i := 32) (N := some 122) (v := undef) (a' := ?_) #[true, true, true, true, true, true, true, true, true, true, true, true, true, true, true, true, true, true, true, true, true, true, true, true, true, true, true, true, true, true, true, true, true, false, false, false, false] rfl rfl (by kernel_rfl) (fun _ _ _ h => h) (Or.inr ⟨by rfl, rfl⟩) ?_ ?_
              rotate_left
              ·simp only [Act.put, List.setIfInBounds_toArray, List.set_cons_zero, List.set_cons_succ, Zx, ZA]
               rfl
              refine ZM (i := 33) (N := some 123) (v := undef) (a' := ?_) #[true, true, true, true, true, true, true, true, true, true, true, true, true, true, true, true, true, true, true, true, true, true, true, true, true, true, true, true, true, true, true, true, true, true, false, false, false] rfl rfl (by kernel_rfl) (fun _ _ _ h => h) (Or.inr ⟨by rfl, rfl⟩) ?_ ?_
              rotate_left
              ·simp only [Act.put, List.setIfInBounds_toArray, List.set_cons_zero, List.set_cons_succ, Zx, ZA]
               rfl
              refine ZM (i := 34) (N := some 124) (v := undef) (a' := ?_) #[true, true, true, true, true, true, true, true, true, true, true, true, true, true, true, true, true, true, true, true, true, true, true, true, true, true, true, true, true, true, true, true, true, true, true, false, false] rfl rfl (by kernel_rfl) (fun _ _ _ h => h) (Or.inr ⟨by rfl, rfl⟩) ?_ ?_
              rotate_left
              ·simp only [Act.put, List.setIfInBounds_toArray, List.set_cons_zero, List.set_cons_succ, Zx, ZA]
               rfl
              refine ZM (i := 35) (N := some 125) (v := ?_) (a' := ?_) #[true, true, true, true, true, true, true, true, true, true, true, true, true, true, true, true, true, true, true, true, true, true, true, true, true, true, true, true, true, true, true, true, true, true, true, true, false] rfl rfl (by kernel_rfl) (fun _ _ _ h => h) (Or.inl ⟨by rfl, ?_⟩) ?_ ?_
              rotate_left
              ·intro w'
               go_simp
               with_reducible rfl
              rotate_left
              ·simp only [Act.put, List.setIfInBounds_toArray, List.set_cons_zero, List.set_cons_succ, Zx, ZA]
               rfl
              refine ZM (i := 36) (N := some 126) (v := ?_) (a' := ?_) #[true, true, true, true, true, true, true, true, true, true, true, true, true, true, true, true, true, true, true, true, true, true, true, true, true, true, true, true, true, true, true, true, true, true, true, true, true] rfl rfl (by kernel_rfl) (fun _ _ _ h => h) (Or.inl ⟨by rfl, ?_⟩) ?_ ?_
              rotate_left
              ·intro w'
               go_simp
               with_reducible rfl
              rotate_left
              ·simp only [Act.put, List.setIfInBounds_toArray, List.set_cons_zero, List.set_cons_succ, Zx, ZA]
               rfl
              refine done_ (by kernel_rfl) ?_
              go_wp2_with fail
              clear eu ei
              have hN := HNN.out
              have hi := HHI.out
              go_roundg k2
              case measure => omega
              case rel => exact ⟨i + 1, ⟨by omega, by omega⟩, (by first | rfl | exact congrArg (Value.int .i64) EI.out), ⟨ST.out.below (Za (Below.refl _ _) _)⟩, ⟨HG.out.drewN _⟩⟩
            ·have hie : i = N := by omega
             subst hie
             have cci : decide ((i : Int) < (i : Int)) = false := decide_eq_false (by omega)
             obtain ⟨Ag, hgv⟩ := hGk.val
             rw [hgv] at hgl
             have ek := wrap_succ k (by omega)
             go_wp2_with fail
             have EK := Zb.mk ek
             clear ek
             go_roundg k1
             case measure => omega
             case rel => exact ⟨k + 1, ⟨by omega, by omega⟩, (by first | rfl | exact congrArg (Value.int .i64) EK.out), ST, HG⟩
         ·have hkE : K = k := by omega
          subst hkE
          have cc : decide ((K : Int) < (K : Int)) = false := decide_eq_false (by omega)
          go_wp2_with fail
          go_loopg [11] (K + 1) (fun kq v11 w' => ∃ (k : Nat) (O' : Nat → Option Nat) (gs : Nat → Value) (cg : Nat → Nat), (k + kq = K + 1 ∧ k ≤ K) ∧ v11 = .int .i64 (k : Int) ∧ Zb (St EL 22 O w O' w' L cL K v n c G gs) ∧ Zb (Fam EL w' O' K gs (fun j => n j + 64) cg n))
          case atStart => exact ⟨0, O1, gs, cg, ⟨by omega, by omega⟩, rfl, ST, ⟨HG.out.less fun j hj => Nat.le_add_right _ _⟩⟩
          case round =>
           clear ST HG
           obtain ⟨k, O1, gs, cg, hk, rfl, ST, HG⟩ := hrel
           cases gk with
           | zero => exact absurd hk (by omega)
           | succ k1 =>
            by_cases hkK : k < K
            ·have cc : decide ((k : Int) < (K : Int)) = true := decide_eq_true (by omega)
             have hk0 : (0 : Int) ≤ (k : Int) := by omega
             have hk1 : (k : Int) < (K : Int) := by omega
             have hmk : ∀ W : World, (Instr.makeSlice 22 (.int .i64 64) (.int .i64 64)).run Try.prog W = .ok (.slice (some ⟨W.heap.size, 0, none⟩) 64 64) (W.alloc (.cells (madeCells #[.int .u64 0] 64) 46)) := fun W => run_make_row' (P := Try.prog) 22 46 (.int .u64 0) 8 Try.underlying22 BB.info46 rfl .i64 .i64 64 (by decide) (by decide) W
             go_wp2_with fail
             have hn4 := many_new (q := k + K) ST.out HG.out
             generalize hM : wr.heap.size = M at hn4 ⊢
             have HW := Zb.mk hn4.1
             have ST' := Zb.mk hn4.2.1
             have HG' := Zb.mk hn4.2.2
             clear hn4 hmk hM ST HG
             generalize own O1 M (some (k + K)) = O2 at HW ST' HG'
             go_loopg [13] 65 (fun kq v13 w' => ∃ i : Nat, (i + kq = 65 ∧ i ≤ 64) ∧ v13 = .int .i64 (i : Int) ∧ Zb (Rw EL w' O2 (k + K) (.slice (some ⟨M, 0, none⟩) 64 64) 64 64 i) ∧ Zb (St EL 22 O w O2 w' L cL K v n c G gs) ∧ Zb (Fam EL w' O2 K gs (fun j => n j + 64) cg n))
             case atStart => exact ⟨0, ⟨by omega, by omega⟩, rfl, HW, ST', HG'⟩
             case round =>
              clear HW ST' HG'
              obtain ⟨i, hi, rfl, HW, ST, HG⟩ := hrel
              cases gk with
              | zero => exact absurd hi (by omega)
              | succ k2 =>
               by_cases hin : i < 64
               ·have cci : decide ((i : Int) < 64) = true := decide_eq_true (by omega)
                have i0 : (0 : Int) ≤ (i : Int) := by omega
                have i1 : (i : Int) < 64 := by omega
                have b1 : k + K ≤ 100000 := by omega
                have b2 : i ≤ 100000 := by omega
                have b3 : k ≤ 100000 := by omega
                have b4 : K ≤ 100000 := by omega
                obtain ⟨x, hx, em, eu⟩ := mark_p k K i b1 b2
                have HX := Zb.mk hx
                have HE := Zb.mk em
                have HU := Zb.mk eu
                have EI := Zb.mk (wrap_succ i b2)
                obtain ⟨g', old, hg', _, hce, hfr, _⟩ := HW.out.markL hin
                obtain rfl := slice_inj hg'
                have ea := wrap_add k K b3 b4
                clear em eu hx b1 b2 b3 b4 hg'
                go_wp2_with fail
                clear ea
                refine (BP.rkmark.calls _ (i : Int) x _ HE.out).mono ?_
                rintro ev w5 ⟨rfl, ⟨nd, rfl⟩⟩
                have eu : ∀ q : IntKind, q = .u64 → q.wrap x = x := by rintro q rfl; exact HU.out
                have ei : ∀ j : Int, j = (i : Int) → wrap64 (j + 1) = ((i + 1 : Nat) : Int) := by rintro j rfl; exact EI.out
                go_wp2_with fail
                clear eu ei
                have hs := step4 HW.out ST.out HG.out (q := k + K) (by omega) (by omega) hin x HX.out nd
                go_roundg k2
                case measure => omega
                case rel => exact ⟨i + 1, ⟨by omega, by omega⟩, (by first | rfl | exact congrArg (Value.int .i64) EI.out), ⟨hs.1⟩, ⟨hs.2.1⟩, ⟨hs.2.2⟩⟩
               ·have hie : i = 64 := by omega
                subst hie
                have cci : decide ((64 : Int) < 64) = false := rfl
                have hll := ST.out.hl.get hkK
                obtain ⟨A, hv⟩ := (ST.out.rows k hkK).val
                rw [hv] at hll
                have HRW := Zb.mk (show Rw EL wr O2 k (.slice A (n k) (c k)) (n k) (c k) (n k) from by have := ST.out.rows k hkK; rw [hv] at this; exact this)
                obtain ⟨news, hn1, hn2, hn3⟩ := HW.out.news
                have H1 := Zb.mk hn1
                have H2 := Zb.mk hn2
                have H3 := Zb.mk hn3
                clear hv hn1 hn2 hn3
                go_wp2_with ((with_reducible refine gate_builtin (b := .append) (xs := #[.tmp 153, .tmp 154]) rfl ?_); at_builtin; refine wpList_append_rw EL _ rfl _ _ 22 rfl i0 (.int .u64 0) 8 Try.underlying22 HI.out.1 HI.out.2.1 HI.out.2.2.1 HI.out.2.2.2 rfl HRW.out rfl ⟨M, 0, none⟩ 64 64 news rfl H1.out H2.out H3.out ?s3 ?s4 (by decide) (n k) (Nat.le_refl _) (Nat.le_add_right _ _) ?s5 ?_)
                case s3 => have := HN.out k hkK; simp only [maxLen]; omega
                case s4 => have := HN.out k hkK; omega
                case s5 => exact fun i h1 h2 => absurd h1 (by omega)
                intro v' c' O' w' hrw hmv hal
                obtain ⟨A', hA'⟩ := hrw.val
                subst hA'
                have HRW' := Zb.mk hrw
                have HST' := Zb.mk (ST.out.step (N := n k) (by omega) hmv hal (fun _ => Nat.le_refl _))
                have HGF' := Zb.mk (HG.out.put hmv (fun _ => HRW'.out))
                have hG0 := HST'.out.hg.get hkK
                have hGf := HST'.out.hg.frozen k
                have hGo := HST'.out.hg.1
                clear hrw hmv hal HRW HRW' ST HG HW hll
                have ek := wrap_succ k (by omega)
                have EK := Zb.mk ek
                go_wp2_with fail
                clear ek
                go_roundg k1
                case measure => omega
                case rel => exact ⟨k + 1, O', _, _, ⟨by omega, by omega⟩, (by first | rfl | exact congrArg (Value.int .i64) EK.out), ⟨HST'.out.store k _⟩, ⟨Fam.header HGF'.out hGo (by omega) k _⟩⟩
            ·have hkE : K = k := by omega
             subst hkE
             have cc : decide ((K : Int) < (K : Int)) = false := decide_eq_false (by omega)
             go_wp2_with fail
             go_loopg [14] (K + 1) (fun kq v14 w' => ∃ k : Nat, (k + kq = K + 1 ∧ k ≤ K) ∧ v14 = .int .i64 (k : Int) ∧ Zb (St EL 22 O w O1 w' L cL K v n c G gs) ∧ Zb (Fam EL w' O1 K gs (fun j => n j + 64) cg n))
             case atStart => exact ⟨0, ⟨by omega, by omega⟩, rfl, ST, HG⟩
             case round =>
              clear ST HG
              obtain ⟨k, hk, rfl, ST, HG⟩ := hrel
              cases gk with
              | zero => exact absurd hk (by omega)
              | succ k1 =>
               by_cases hkK : k < K
               ·have cc : decide ((k : Int) < (K : Int)) = true := decide_eq_true (by omega)
                have hk0 : (0 : Int) ≤ (k : Int) := by omega
                have hk1 : (k : Int) < (K : Int) := by omega
                go_wp2_with fail
                go_loopg [15] (n k + 1) (fun kq v15 w' => ∃ i : Nat, (i + kq = n k + 1 ∧ i ≤ n k) ∧ v15 = .int .i64 (i : Int) ∧ Zb (St EL 22 O w O1 w' L cL K v n c G gs) ∧ Zb (Fam EL w' O1 K gs (fun j => n j + 64) cg n))
                case atStart => exact ⟨0, ⟨by omega, by omega⟩, rfl, ST, HG⟩
                case round =>
                 clear ST HG
                 obtain ⟨i, hi, rfl, ST, HG⟩ := hrel
                 have hnk := HN.out k hkK
                 cases gk with
                 | zero => exact absurd hi (by omega)
                 | succ k2 =>
                  by_cases hin : i < n k
                  ·have ccj : decide ((i : Int) < (n k : Int)) = true := decide_eq_true (by omega)
                   have hGk : Rw EL wr O1 k (gs k) (n k + 64) (cg k) (n k) := HG.out k hkK
                   have hgl := ST.out.hg.get hkK
                   obtain ⟨N, hN⟩ : ∃ N, N = n k + 64 := ⟨_, rfl⟩
                   rw [← hN] at hGk
                   obtain ⟨gg, hgv, hgc⟩ := hGk.getL hin
                   rw [hgv] at hgl
                   have hll := ST.out.hl.get hkK
                   obtain ⟨gl, hlv, hlc⟩ := (ST.out.rows k hkK).getL hin
                   rw [hlv] at hll
                   have i0 : (0 : Int) ≤ (i : Int) := by omega
                   have i1 : (i : Int) < (N : Int) := by omega
                   have i2 : (i : Int) < (n k : Int) := by omega
                   have b1 : k ≤ 100000 := by omega
                   have b2 : i ≤ 100000 := by omega
                   obtain ⟨x, hx, em, eu⟩ := mark_h k i b1 b2
                   rw [← hx] at hgc hlc
                   have HE := Zb.mk em
                   have HU := Zb.mk eu
                   have EI := Zb.mk (wrap_succ i b2)
                   have HHI := Zb.mk hi
                   clear em eu hx hN hi b1 b2 hGk hgv hlv hnk
                   have eu : ∀ q : IntKind, q = .u64 → q.wrap x = x := by rintro q rfl; exact HU.out
                   go_upto_region 41 with fail
                   refine start_ (n := 28) (S := fun w' => w'.cell? ⟨G, k, none⟩ = some (.slice (some ⟨gg, 0, none⟩) N (cg k)) ∧ w'.cell? ⟨gg, i, none⟩ = some (.int .u64 x) ∧ w'.cell? ⟨L, k, none⟩ = some (.slice (some ⟨gl, 0, none⟩) (n k) (c k)) ∧ w'.cell? ⟨gl, i, none⟩ = some (.int .u64 x)) (ds := []) #[false, false, false, false, false, false, false, false, false, false, false, false, false, false, false, false, false, false, false, false, false, false, false, false, false, false, false, false] (by kernel_rfl) rfl rfl ⟨hgl, hgc, hll, hlc⟩ (fun hHeld => ?_)
                   refine ZM (i := 0) (N := some 172) (v := ?_) (a' := ?_) #[true, false, false, false, false, false, false, false, false, false, false, false, false, false, false, false, false, false, false, false, false, false, false, false, false, false, false, false] rfl rfl (by kernel_rfl) (fun _ _ _ h => h) (Or.inl ⟨by rfl, ?_⟩) ?_ ?_
                   rotate_left
                   ·intro w'
                    go_simp
                    with_reducible rfl
                   rotate_left
                   ·simp only [Act.put, List.setIfInBounds_toArray, List.set_cons_zero, List.set_cons_succ, Zx, ZA]
                    rfl
                   refine ZM (i := 1) (N := some 173) (v := ?_) (a' := ?_) #[true, true, false, false, false, false, false, false, false, false, false, false, false, false, false, false, false, false, false, false, false, false, false, false, false, false, false, false] rfl rfl (by kernel_rfl) (fun _ _ _ h => h) (Or.inl ⟨by rfl, ?_⟩) ?_ ?_
                   rotate_left
                   ·intro w'
                    go_simp
                    with_reducible rfl
                   rotate_left
                   ·simp only [Act.put, List.setIfInBounds_toArray, List.set_cons_zero, List.set_cons_succ, Zx, ZA]
                    rfl
                   refine ZM (i := 2) (N := some 174) (v := ?_) (a' := ?_) #[true, true, true, false, false, false, false, false, false, false, false, false, false, false, false, false, false, false, false, false, false, false, false, false, false, false, false, false] rfl rfl (by kernel_rfl) (fun _ _ _ h => h) (Or.inl ⟨by rfl, ?_⟩) ?_ ?_
                   rotate_left
                   ·intro w'
                    go_simp
                    with_reducible rfl
                   rotate_left
                   ·simp only [Act.put, List.setIfInBounds_toArray, List.set_cons_zero, List.set_cons_succ, Zx, ZA]
                    rfl
                   refine take_ (i := 3) (N := some 175) (v := ?_) (a' := ?_) #[true, true, true, true, false, false, false, false, false, false, false, false, false, false, false, false, false, false, false, false, false, false, false, false, false, false, false, false] rfl rfl (by kernel_rfl) (fun _ _ _ h => h) (Or.inl ⟨by rfl, ?_⟩) hHeld ?_ ?_
                   rotate_left
                   ·rintro w' ⟨s0, s1, s2, s3⟩
                    go_simp
                    with_reducible rfl
                   rotate_left
                   ·simp only [Act.put, List.setIfInBounds_toArray, List.set_cons_zero, List.set_cons_succ, Zx, ZA]
                    rfl
                   refine ZM (i := 4) (N := some 176) (v := ?_) (a' := ?_) #[true, true, true, true, true, false, false, false, false, false, false, false, false, false, false, false, false, false, false, false, false, false, false, false, false, false, false, false] rfl rfl (by kernel_rfl) (fun _ _ _ h => h) (Or.inl ⟨by rfl, ?_⟩) ?_ ?_
                   rotate_left
                   ·intro w'
                    go_simp
                    with_reducible rfl
                   rotate_left
                   ·simp only [Act.put, List.setIfInBounds_toArray, List.set_cons_zero, List.set_cons_succ, Zx, ZA]
                    rfl
                   refine ZM (i := 5) (N := some 177) (v := ?_) (a' := ?_) #[true, true, true, true, true, true, false, false, false, false, false, false, false, false, false, false, false, false, false, false, false, false, false, false, false, false, false, false] rfl rfl (by kernel_rfl) (fun _ _ _ h => h) (Or.inl ⟨by rfl, ?_⟩) ?_ ?_
                   rotate_left
                   ·intro w'
                    go_simp
                    with_reducible rfl
                   rotate_left
                   ·simp only [Act.put, List.setIfInBounds_toArray, List.set_cons_zero, List.set_cons_succ, Zx, ZA]
                    rfl
                   refine take_ (i := 6) (N := some 178) (v := ?_) (a' := ?_) #[true, true, true, true, true, true, true, false, false, false, false, false, false, false, false, false, false, false, false, false, false, false, false, false, false, false, false, false] rfl rfl (by kernel_rfl) (fun _ _ _ h => h) (Or.inl ⟨by rfl, ?_⟩) hHeld ?_ ?_
                   rotate_left
                   ·rintro w' ⟨s0, s1, s2, s3⟩
                    go_simp
                    with_reducible rfl
                   rotate_left
                   ·simp only [Act.put, List.setIfInBounds_toArray, List.set_cons_zero, List.set_cons_succ, Zx, ZA]
                    rfl
                   refine ZM (i := 7) (N := some 179) (v := ?_) (a' := ?_) #[true, true, true, true, true, true, true, true, false, false, false, false, false, false, false, false, false, false, false, false, false, false, false, false, false, false, false, false] rfl rfl (by kernel_rfl) (fun _ _ _ h => h) (Or.inl ⟨by rfl, ?_⟩) ?_ ?_
                   rotate_left
                   ·intro w'
                    go_simp
                    with_reducible rfl
                   rotate_left
                   ·simp only [Act.put, List.setIfInBounds_toArray, List.set_cons_zero, List.set_cons_succ, Zx, ZA]
                    rfl
                   refine ZM (i := 8) (N := some 180) (v := ?_) (a' := ?_) #[true, true, true, true, true, true, true, true, true, false, false, false, false, false, false, false, false, false, false, false, false, false, false, false, false, false, false, false] rfl rfl (by kernel_rfl) (fun _ _ _ h => h) (Or.inl ⟨by rfl, ?_⟩) ?_ ?_
                   rotate_left
                   ·intro w'
                    go_simp
                    with_reducible rfl
                   rotate_left
                   ·simp only [Act.put, List.setIfInBounds_toArray, List.set_cons_zero, List.set_cons_succ, Zx, ZA]
                    rfl
                   refine one_ (i := 9) (N := some 181) #[true, true, true, true, true, true, true, true, true, true, false, false, false, false, false, false, false, false, false, false, false, false, false, false, false, false, false, false] rfl rfl (by kernel_rfl) (by decide) (fun K_ hK_ => ?_)
                   refine goes_ Try.func74 (by kernel_rfl) rfl #[.int .i64 (k : Int), .int .i64 (i : Int)] (by rfl) rfl rfl (by (try simp only [List.map_toArray, List.map_cons, List.map_nil]); first | done | rfl) ?_
                   with_reducible refine (BP.rkmark.calls (k : Int) (i : Int) x _ HE.out).mono ?_
                   rintro ev w5 ⟨rfl, ⟨nd, rfl⟩⟩
                   refine ⟨_, rfl, ?_⟩
                   refine hK_.out _ _ ⟨hgl, hgc, hll, hlc⟩ (fun hHeld => ?_)
                   clear hK_ K_
                   refine norm_ (a' := ?_) ?_ ?_
                   rotate_left
                   ·show Act.put _ (some 181) _ = _
                    simp only [Act.put, List.setIfInBounds_toArray, List.set_cons_zero, List.set_cons_succ, Zx, ZA]
                    rfl
                   refine ZM (i := 10) (N := some 182) (v := ?_) (a' := ?_) #[true, true, true, true, true, true, true, true, true, true, true, false, false, false, false, false, false, false, false, false, false, false, false, false, false, false, false, false] rfl rfl (by kernel_rfl) (fun _ _ _ h => h) (Or.inl ⟨by rfl, ?_⟩) ?_ ?_
                   rotate_left
                   ·intro w'
                    go_simp
                    with_reducible rfl
                   rotate_left
                   ·simp only [Act.put, List.setIfInBounds_toArray, List.set_cons_zero, List.set_cons_succ, Zx, ZA]
                    rfl
                   refine ZM (i := 11) (N := some 183) (v := ?_) (a' := ?_) #[true, true, true, true, true, true, true, true, true, true, true, true, false, false, false, false, false, false, false, false, false, false, false, false, false, false, false, false] rfl rfl (by kernel_rfl) (fun _ _ _ h => h) (Or.inl ⟨by rfl, ?_⟩) ?_ ?_
                   rotate_left
                   ·intro w'
                    go_simp
                    with_reducible rfl
                   rotate_left
                   ·simp only [Act.put, List.setIfInBounds_toArray, List.set_cons_zero, List.set_cons_succ, Zx, ZA]
                    rfl
                   refine ZM (i := 12) (N := some 184) (v := ?_) (a' := ?_) #[true, true, true, true, true, true, true, true, true, true, true, true, true, false, false, false, false, false, false, false, false, false, false, false, false, false, false, false] rfl rfl (by kernel_rfl) (fun _ _ _ h => h) (Or.inl ⟨by rfl, ?_⟩) ?_ ?_
                   rotate_left
                   ·intro w'
                    go_simp
                    with_reducible rfl
                   rotate_left
                   ·simp only [Act.put, List.setIfInBounds_toArray, List.set_cons_zero, List.set_cons_succ, Zx, ZA]
                    rfl
                   refine ZM (i := 13) (N := some 185) (v := ?_) (a' := ?_) #[true, true, true, true, true, true, true, true, true, true, true, true, true, true, false, false, false, false, false, false, false, false, false, false, false, false, false, false] rfl rfl (by kernel_rfl) (fun _ _ _ h => h) (Or.inl ⟨by rfl, ?_⟩) ?_ ?_
                   rotate_left
                   ·intro w'
                    go_simp
                    with_reducible rfl
                   rotate_left
                   ·simp only [Act.put, List.setIfInBounds_toArray, List.set_cons_zero, List.set_cons_succ, Zx, ZA]
                    rfl
                   refine ZM (i := 14) (N := some 186) (v := ?_) (a' := ?_) #[true, true, true, true, true, true, true, true, true, true, true, true, true, true, true, false, false, false, false, false, false, false, false, false, false, false, false, false] rfl rfl (by kernel_rfl) (fun _ _ _ h => h) (Or.inl ⟨by rfl, ?_⟩) ?_ ?_
                   rotate_left
                   ·intro w'
                    go_simp
                    with_reducible rfl
                   rotate_left
                   ·simp only [Act.put, List.setIfInBounds_toArray, List.set_cons_zero, List.set_cons_succ, Zx, ZA]
                    rfl
                   refine ZM (i := 15) (N := some 187) (v := ?_) (a' := ?_) #[true, true, true, true, true, true, true, true, true, true, true, true, true, true, true, true, false, false, false, false, false, false, false, false, false, false, false, false] rfl rfl (by kernel_rfl) (fun _ _ _ h => h) (Or.inl ⟨by rfl, ?_⟩) ?_ ?_
                   rotate_left
                   ·intro w'
                    go_simp
                    with_reducible rfl
                   rotate_left
                   ·simp only [Act.put, List.setIfInBounds_toArray, List.set_cons_zero, List.set_cons_succ, Zx, ZA]
                    rfl
                   refine ZM (i := 16) (N := some 188) (v := ?_) (a' := ?_) #[true, true, true, true, true, true, true, true, true, true, true, true, true, true, true, true, true, false, false, false, false, false, false, false, false, false, false, false] rfl rfl (by kernel_rfl) (fun _ _ _ h => h) (Or.inl ⟨by rfl, ?_⟩) ?_ ?_
                   rotate_left
                   ·intro w'
                    go_simp
                    with_reducible rfl
                   rotate_left
                   ·simp only [Act.put, List.setIfInBounds_toArray, List.set_cons_zero, List.set_cons_succ, Zx, ZA]
                    rfl
                   refine take_ (i := 17) (N := some 189) (v := ?_) (a' := ?_) #[true, true, true, true, true, true, true, true, true, true, true, true, true, true, true, true, true, true, false, false, false, false, false, false, false, false, false, false] rfl rfl (by kernel_rfl) (fun _ _ _ h => h) (Or.inl ⟨by rfl, ?_⟩) hHeld ?_ ?_
                   rotate_left
                   ·rintro w' ⟨s0, s1, s2, s3⟩
                    go_simp
                    with_reducible rfl
                   rotate_left
                   ·simp only [Act.put, List.setIfInBounds_toArray, List.set_cons_zero, List.set_cons_succ, Zx, ZA]
                    rfl
                   refine ZM (i := 18) (N := some 190) (v := ?_) (a' := ?_) #[true, true, true, true, true, true, true, true, true, true, true, true, true, true, true, true, true, true, true, false, false, false, false, false, false, false, false, false] rfl rfl (by kernel_rfl) (fun _ _ _ h => h) (Or.inl ⟨by rfl, ?_⟩) ?_ ?_
                   rotate_left
                   ·intro w'
                    go_simp
                    with_reducible rfl
                   rotate_left
                   ·simp only [Act.put, List.setIfInBounds_toArray, List.set_cons_zero, List.set_cons_succ, Zx, ZA]
                    rfl
                   refine ZM (i := 19) (N := some 191) (v := ?_) (a' := ?_) #[true, true, true, true, true, true, true, true, true, true, true, true, true, true, true, true, true, true, true, true, false, false, false, false, false, false, false, false] rfl rfl (by kernel_rfl) (fun _ _ _ h => h) (Or.inl ⟨by rfl, ?_⟩) ?_ ?_
                   rotate_left
                   ·intro w'
                    go_simp
                    with_reducible rfl
                   rotate_left
                   ·simp only [Act.put, List.setIfInBounds_toArray, List.set_cons_zero, List.set_cons_succ, Zx, ZA]
                    rfl
                   refine take_ (i := 20) (N := some 192) (v := ?_) (a' := ?_) #[true, true, true, true, true, true, true, true, true, true, true, true, true, true, true, true, true, true, true, true, true, false, false, false, false, false, false, false] rfl rfl (by kernel_rfl) (fun _ _ _ h => h) (Or.inl ⟨by rfl, ?_⟩) hHeld ?_ ?_
                   rotate_left
                   ·rintro w' ⟨s0, s1, s2, s3⟩
                    go_simp
                    with_reducible rfl
                   rotate_left
                   ·simp only [Act.put, List.setIfInBounds_toArray, List.set_cons_zero, List.set_cons_succ, Zx, ZA]
                    rfl
                   refine ZM (i := 21) (N := some 193) (v := ?_) (a' := ?_) #[true, true, true, true, true, true, true, true, true, true, true, true, true, true, true, true, true, true, true, true, true, true, false, false, false, false, false, false] rfl rfl (by kernel_rfl) (fun _ _ _ h => h) (Or.inl ⟨by rfl, ?_⟩) ?_ ?_
                   rotate_left
                   ·intro w'
                    go_simp
                    with_reducible rfl
                   rotate_left
                   ·simp only [Act.put, List.setIfInBounds_toArray, List.set_cons_zero, List.set_cons_succ, Zx, ZA]
                    rfl
                   refine ZM (i := 22) (N := some 194) (v := ?_) (a' := ?_) #[true, true, true, true, true, true, true, true, true, true, true, true, true, true, true, true, true, true, true, true, true, true, true, false, false, false, false, false] rfl rfl (by kernel_rfl) (fun _ _ _ h => h) (Or.inl ⟨by rfl, ?_⟩) ?_ ?_
                   rotate_left
                   ·intro w'
                    go_simp
                    with_reducible rfl
                   rotate_left
                   ·simp only [Act.put, List.setIfInBounds_toArray, List.set_cons_zero, List.set_cons_succ, Zx, ZA]
                    rfl
                   refine one_ (i := 23) (N := some 195) #[true, true, true, true, true, true, true, true, true, true, true, true, true, true, true, true, true, true, true, true, true, true, true, true, false, false, false, false] rfl rfl (by kernel_rfl) (by decide) (fun K_ hK_ => ?_)
                   refine goes_ Try.func74 (by kernel_rfl) rfl #[.int .i64 (k : Int), .int .i64 (i : Int)] (by rfl) rfl rfl (by (try simp only [List.map_toArray, List.map_cons, List.map_nil]); first | done | rfl) ?_
                   with_reducible refine (BP.rkmark.calls (k : Int) (i : Int) x _ HE.out).mono ?_
                   rintro ev w5 ⟨rfl, ⟨nd, rfl⟩⟩
                   refine ⟨_, rfl, ?_⟩
                   refine hK_.out _ _ ⟨hgl, hgc, hll, hlc⟩ (fun hHeld => ?_)
                   clear hK_ K_
                   refine norm_ (a' := ?_) ?_ ?_
                   rotate_left
                   ·show Act.put _ (some 195) _ = _
                    simp only [Act.put, List.setIfInBounds_toArray, List.set_cons_zero, List.set_cons_succ, Zx, ZA]
                    rfl
                   refine ZM (i := 24) (N := some 196) (v := ?_) (a' := ?_) #[true, true, true, true, true, true, true, true, true, true, true, true, true, true, true, true, true, true, true, true, true, true, true, true, true, false, false, false] rfl rfl (by kernel_rfl) (fun _ _ _ h => h) (Or.inl ⟨by rfl, ?_⟩) ?_ ?_
                   rotate_left
                   ·intro w'
                    go_simp
                    with_reducible rfl
                   rotate_left
                   ·simp only [Act.put, List.setIfInBounds_toArray, List.set_cons_zero, List.set_cons_succ, Zx, ZA]
                    rfl
                   refine ZM (i := 25) (N := some 197) (v := ?_) (a' := ?_) #[true, true, true, true, true, true, true, true, true, true, true, true, true, true, true, true, true, true, true, true, true, true, true, true, true, true, false, false] rfl rfl (by kernel_rfl) (fun _ _ _ h => h) (Or.inl ⟨by rfl, ?_⟩) ?_ ?_
                   rotate_left
                   ·intro w'
                    go_simp
                    with_reducible rfl
                   rotate_left
                   ·simp only [Act.put, List.setIfInBounds_toArray, List.set_cons_zero, List.set_cons_succ, Zx, ZA]
                    rfl
                   refine ZM (i := 26) (N := some 198) (v := ?_) (a' := ?_) #[true, true, true, true, true, true, true, true, true, true, true, true, true, true, true, true, true, true, true, true, true, true, true, true, true, true, true, false] rfl rfl (by kernel_rfl) (fun _ _ _ h => h) (Or.inl ⟨by rfl, ?_⟩) ?_ ?_
                   rotate_left
                   ·intro w'
                    go_simp
                    with_reducible rfl
                   rotate_left
                   ·simp only [Act.put, List.setIfInBounds_toArray, List.set_cons_zero, List.set_cons_succ, Zx, ZA]
                    rfl
                   refine ZM (i := 27) (N := some 199) (v := ?_) (a' := ?_) #[true, true, true, true, true, true, true, true, true, true, true, true, true, true, true, true, true, true, true, true, true, true, true, true, true, true, true, true] rfl rfl (by kernel_rfl) (fun _ _ _ h => h) (Or.inl ⟨by rfl, ?_⟩) ?_ ?_
                   rotate_left
                   ·intro w'
                    go_simp
                    with_reducible rfl
                   rotate_left
                   ·simp only [Act.put, List.setIfInBounds_toArray, List.set_cons_zero, List.set_cons_succ, Zx, ZA]
                    rfl
                   refine done_ (by kernel_rfl) ?_
                   clear eu
                   have ei : ∀ j : Int, j = (i : Int) → wrap64 (j + 1) = ((i + 1 : Nat) : Int) := by rintro j rfl; exact EI.out
                   go_wp2_with fail
                   clear ei
                   have hi := HHI.out
                   go_roundg k2
                   case measure => omega
                   case rel => exact ⟨i + 1, ⟨by omega, by omega⟩, (by first | rfl | exact congrArg (Value.int .i64) EI.out), ⟨ST.out.below (Za (Below.refl _ _) _)⟩, ⟨HG.out.drewN _⟩⟩
                  ·have hie : i = n k := by omega
                   subst hie
                   have cci : decide ((n k : Int) < (n k : Int)) = false := decide_eq_false (by omega)
                   have hll := ST.out.hl.get hkK
                   obtain ⟨Al, hlv⟩ := (ST.out.rows k hkK).val
                   rw [hlv] at hll
                   have ek := wrap_succ k (by omega)
                   go_wp2_with fail
                   have EK := Zb.mk ek
                   clear ek
                   go_roundg k1
                   case measure => omega
                   case rel => exact ⟨k + 1, ⟨by omega, by omega⟩, (by first | rfl | exact congrArg (Value.int .i64) EK.out), ST, HG⟩
               ·have hkE : K = k := by omega
                subst hkE
                have cc : decide ((K : Int) < (K : Int)) = false := decide_eq_false (by omega)
                go_wp2_with fail
                go_ret
                exact ⟨rfl, O1, ST.out.mv⟩
end Go.Proofs.Ytbmddlldadbfnaa.BS
end
section
namespace Go.Proofs.Ytbmddlldadbfnaa.BS
open Go.Proofs.Ytbmddlldadbfnaa.BM (w64 u64)
open Go.RowKit Go.Proofs.Ytbmddlldadbfnaa.BA Go.Proofs.Ytbmddlldadbfnaa.BB Go.Proofs.YtbmddlldadbfnaaW.PrintWords Go.Proofs.YtbmddlldadbfnaaW.PrintLast Go.Proofs.YtbmddlldadbfnaaW.PrintMore
attribute [local go_sem] ZU ZS max_two min_two ZP ZO ZT ZR
set_option linter.unusedVariables false
set_option linter.unusedSimpArgs false
set_option maxHeartbeats 4000000 in
set_option maxRecDepth 100000 in
theorem markInt_calls (a b x : Int) (w : World) (hf : BP.rkmark.f a b = some x) (hx : IntKind.u64.wrap x = x) :
  Calls Try.prog 126 #[.int .i64 a, .int .i64 b] w fun e w' => ∃ g, e = .returned (.agg #[.bool false, .slice (some ⟨g, 0, none⟩) 1 1]) ∧ w.heap.size ≤ g ∧ w'.heap[g]? = some (.cells #[.int .u64 x] 46 (0, 0)) ∧ Below w.heap.size w w' := by
 have hu24 := Try.underlying24
 have HF := Zb.mk hf
 have HX := Zb.mk hx
 clear hf hx
 go_enter Try.func126, Try.ntmps126
 go_wp2_with fail
 refine (BP.rkmark.calls a b x _ HF.out).mono ?_
 rintro ev w5 ⟨rfl, ⟨nd, rfl⟩⟩
 have eu : ∀ q : IntKind, q = .u64 → q.wrap x = x := by rintro q rfl; exact HX.out
 have hB : ((w.alloc (.cells #[.bool false, .slice none 0 0] 24)).drewN nd).heap[w.heap.size]? = some (.cells #[.bool false, .slice none 0 0] 24 (0, 0)) := Ze (blk_new _ _) _
 go_wp2_with fail
 have hsz : ((((w.alloc (.cells #[.bool false, .slice none 0 0] 24)).drewN nd).setCell ⟨w.heap.size, 0, none⟩ (.bool false)).setCell ⟨w.heap.size, 1, none⟩ (.slice (some ⟨w.heap.size + 1, 0, none⟩) 1 1)).heap.size = w.heap.size + 1 := by simp [World.setCell]
 have hN := blk_new ((((w.alloc (.cells #[.bool false, .slice none 0 0] 24)).drewN nd).setCell ⟨w.heap.size, 0, none⟩ (.bool false)).setCell ⟨w.heap.size, 1, none⟩ (.slice (some ⟨w.heap.size + 1, 0, none⟩) 1 1)) (.cells #[.int .u64 x] 46)
 rw [hsz] at hN
 refine bodyPost_ret (results_cell_row rfl _ _ w.heap.size 24 #[.bool false, .slice (some ⟨w.heap.size + 1, 0, none⟩) 1 1] (0, 0) _ rfl (Zf (Zu (Zu hB 0 _ rfl) 1 _ rfl) _) Try.underlying24 rfl (by kernel_rfl)) rfl ?_
 exact ⟨_, rfl, Nat.le_succ _, hN, Zc (Zh (Zh (Za (Zc (Below.refl _ _) _) nd) (Nat.le_refl _)) (Nat.le_refl _)) _⟩
theorem one_C {w : World} {g : Nat} {x : Int} (h : w.heap[g]? = some (.cells #[.int .u64 x] 46 (0, 0))) : Kd.C (Kd.int .u64) w (some ⟨g, 0, none⟩) 1 [x] :=
 Kd.C_of_reads (d := (0 : Int)) (h1 := fun _ => rfl) ⟨rfl, by decide, fun _ => ⟨_, rfl, fun j hj => by obtain rfl : j = 0 := Nat.lt_one_iff.1 hj; exact (Zk h 0).trans rfl⟩⟩
theorem same_one (x : Int) : rkSameInt.f 2 false [x] false [x] = some true := by
 have e : wrap64 (0 + 1) = 1 := w64 (by decide) (by decide)
 unfold rkSameInt.f rkSameLimbs.f
 rw [if_pos rfl, if_pos (show (false == false) = true from rfl)]
 unfold rkSameLimbs.l0
 rw [if_pos (by simp), if_pos (by decide), if_pos (by simp), if_pos rfl, e]
 unfold rkSameLimbs.l0
 rw [if_neg (by simp)]
 rfl
theorem same_calls {w : World} {g h : Nat} {x : Int} (hg : w.heap[g]? = some (.cells #[.int .u64 x] 46 (0, 0))) (hh : w.heap[h]? = some (.cells #[.int .u64 x] 46 (0, 0))) :
  Calls Try.prog 19 #[.agg #[.bool false, .slice (some ⟨g, 0, none⟩) 1 1], .agg #[.bool false, .slice (some ⟨h, 0, none⟩) 1 1]] w fun e w' => e = .returned (.bool true) ∧ Below w.heap.size w w' :=
 rkSameInt.calls 2 false _ 1 [x] false _ 1 [x] true w (one_C hg) (Nat.le_refl _) (one_C hh) (Nat.le_refl _) (same_one x)
end Go.Proofs.Ytbmddlldadbfnaa.BS
end

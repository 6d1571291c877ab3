/- Part of the proof that what is read twice of the text of a number of at most 40 limbs lies apart, spare room and all, and what is read a third time is what was read first. -/
import Derived.Test.YtbmddlldadbfnaaCG11
section
namespace Go.Proofs.Ytbmddlldadbfnaa.BS
open Go.Proofs.Ytbmddlldadbfnaa.BM (w64 u64)
open Go.RowKit Go.Proofs.Ytbmddlldadbfnaa.BA Go.Proofs.Ytbmddlldadbfnaa.BB Go.Proofs.YtbmddlldadbfnaaW.PrintWords Go.Proofs.YtbmddlldadbfnaaW.PrintLast Go.Proofs.YtbmddlldadbfnaaW.PrintMore
attribute [local go_sem] ZU ZS max_two min_two ZP ZO ZT ZR
set_option linter.unusedVariables false
set_option linter.unusedSimpArgs false
theorem Rw.markW {w : World} {O : Nat → Option Nat} {k : Nat} {v : Value} {n c m : Nat} (h : Rw EW w O k v n c m) (hm : m < n) : ∃ g o0 o1, v = .slice (some ⟨g, 0, none⟩) n c ∧ O g = some k ∧ w.cell? ⟨g, m * 2, none⟩ = some o0 ∧ w.cell? ⟨g, m * 2 + 1, none⟩ = some o1 ∧ (∀ j, w.frozen? ⟨g, j, none⟩ = false) ∧
  ∀ b, w.heap[b]? = some (.cells #[.int .u64 (mk k m)] 46 (0, 0)) → O b = none → Rw EW ((w.setCell ⟨g, m * 2, none⟩ (.bool false)).setCell ⟨g, m * 2 + 1, none⟩ (.slice (some ⟨b, 0, none⟩) 1 1)) O k v n c (m + 1) := by
 obtain ⟨g, f, h1, h2, h3, h4, h5⟩ := h.put hm
 obtain ⟨o0, ho0⟩ := Option.ne_none_iff_exists'.1 (h4 0 (by decide))
 obtain ⟨o1, ho1⟩ := Option.ne_none_iff_exists'.1 (h4 1 (by decide))
 refine ⟨g, o0, o1, h1, h2, ho0, ho1, fun j => h3.frozen j, fun b hb hO => h5 (fun x => x = some k) _ O _ ((h3.set (m * 2) _).set (m * 2 + 1) _) (fun x hx => ?_) (fun i j hi hj => ?_) ((Mv.setCell _ O w _ _ h2).trans (Mv.setCell _ O _ _ _ h2)) not_none ?_⟩
 ·show (if x = m * 2 + 1 then _ else if x = m * 2 then _ else f x).oneCell' = true
  split
  ·rfl
  ·split
   ·rfl
   ·exact hx
 ·have hj' : j < 2 := hj
  show (if i * 2 + j = m * 2 + 1 then _ else if i * 2 + j = m * 2 then _ else f (i * 2 + j)) = f (i * 2 + j)
  rw [if_neg (by omega), if_neg (by omega)]
 ·refine ⟨?_, b, ?_, ?_, hO⟩
  ·show (if m * 2 + 0 = m * 2 + 1 then _ else if m * 2 + 0 = m * 2 then _ else f (m * 2 + 0)) = _
   rw [if_neg (by omega), if_pos (Nat.add_zero _)]
  ·show (if m * 2 + 1 = m * 2 + 1 then _ else _) = _
   exact if_pos rfl
  ·have hgb : b ≠ g := by rintro rfl; rw [h2] at hO; cases hO
   exact (((Mv.setCell (fun x => x = some k) O w (m * 2) (.bool false) h2).trans (Mv.setCell _ O _ (m * 2 + 1) (.slice (some ⟨b, 0, none⟩) 1 1) h2)).block b (Zw hb) (by rw [hO]; exact not_none)).trans hb
theorem Rw.getW {w : World} {O : Nat → Option Nat} {k : Nat} {v : Value} {n c m i : Nat} (h : Rw EW w O k v n c m) (hi : i < m) : ∃ g b, v = .slice (some ⟨g, 0, none⟩) n c ∧ w.cell? ⟨g, i * 2, none⟩ = some (.bool false) ∧ w.cell? ⟨g, i * 2 + 1, none⟩ = some (.slice (some ⟨b, 0, none⟩) 1 1) ∧ w.heap[b]? = some (.cells #[.int .u64 (mk k i)] 46 (0, 0)) := by
 obtain ⟨g, f, h1, _, h3, h4, b, h5, h6, _⟩ := h.get hi
 exact ⟨g, b, h1, (h3 0 (by decide)).trans (congrArg some h4), (h3 1 (by decide)).trans (congrArg some h5), h6⟩
theorem mv_new {O : Nat → Option Nat} {w w' : World} (h : Below w.heap.size w w') (q : Option Nat) : Mv (fun _ => False) O w (own O w.heap.size q) w' := (Mv.of_below _ O h).owned _ (fun b hb => own_lt hb)
theorem cb {w w' : World} {a : Addr} {v : Value} (hb : Below w.heap.size w w') (h : w.cell? a = some v) : w'.cell? a = some v := (hb.cell (World.block_lt_of_cell? w _ h)).trans h
theorem two_cells (w : World) (x y : Value) : ∀ j u, [x, y][j]? = some u → (w.alloc (.cells #[x, y] 24)).cell? (Addr.add ⟨w.heap.size, 0, none⟩ j) = some u := by
 rintro (_ | _ | j) u hu
 ·injection hu with hu
  rw [← hu, Addr.add_lit]
  exact (Zk (blk_new w (.cells #[x, y] 24)) 0).trans rfl
 ·injection hu with hu
  rw [← hu, Addr.add_lit]
  exact (Zk (blk_new w (.cells #[x, y] 24)) 1).trans rfl
 ·cases hu
theorem two_ok {w : World} {O : Nat → Option Nat} {k a b : Nat} {x : Int} (hx : x = mk k a) (hb : w.heap[b]? = some (.cells #[.int .u64 x] 46 (0, 0))) (hO : O b = none) : ∀ i, a ≤ i → i < a + 1 → EW.ok w O k i (fun j => [Value.bool false, .slice (some ⟨b, 0, none⟩) 1 1][(i - a) * EW.size + j]?.getD default) := by
 intro i h1 h2
 obtain rfl : i = a := by omega
 refine ⟨?_, b, ?_, by rw [← hx]; exact hb, hO⟩
 ·show [Value.bool false, .slice (some ⟨b, 0, none⟩) 1 1][(i - i) * EW.size + 0]?.getD default = _
  rw [Nat.sub_self, Nat.zero_mul]
  rfl
 ·show [Value.bool false, .slice (some ⟨b, 0, none⟩) 1 1][(i - i) * EW.size + 1]?.getD default = _
  rw [Nat.sub_self, Nat.zero_mul]
  rfl
theorem two_one (b : Nat) : ∀ u ∈ [Value.bool false, Value.slice (some ⟨b, 0, none⟩) 1 1], u.oneCell' = true := by
 intro u hu
 rcases List.mem_cons.1 hu with rfl | hu
 ·rfl
 ·rw [List.mem_singleton.1 hu]; rfl
theorem make64 (W : World) (i0 : TypeInfo) (hi : Try.prog.info? 24 = some i0) (hz : i0.zero = some (.agg #[.bool false, .slice none 0 0])) (hs : i0.size = 2) (hb : i0.bytes = 32) : (Instr.makeSlice 55 (.int .i64 64) (.int .i64 64)).run Try.prog W = .ok (.slice (some ⟨W.heap.size, 0, none⟩) 64 64) (W.alloc (.cells (madeCells #[.bool false, .slice none 0 0] 128) 24)) := by
 have h := run_makeSlice W (P := Try.prog) 55 24 i0 _ Try.underlying55 hi hz .i64 .i64 64 64 (by decide) (by decide) (by rw [hs]; decide) (by rw [hb]; decide) (by decide)
 rw [hs] at h
 exact h
theorem made_two : ∀ i, i < 128 → (madeCells #[Value.bool false, .slice none 0 0] 128)[i]? = some (if i % 2 = 0 then Value.bool false else .slice none 0 0) := by
 intro i hi
 have h : i % 2 = 0 ∨ i % 2 = 1 := by omega
 rcases h with h | h <;> simp [madeCells, hi, h]
theorem many_newW {O0 O : Nat → Option Nat} {w0 w : World} {L cL K : Nat} {v : Nat → Value} {n c : Nat → Nat} {G q : Nat} {gs : Nat → Value} {cg ng mg : Nat → Nat} (hs : St EW 55 O0 w0 O w L cL K v n c G gs) (hg : Fam EW w O K gs ng cg mg) :
  Rw EW (w.alloc (.cells (madeCells #[.bool false, .slice none 0 0] 128) 24)) (own O w.heap.size (some q)) q (.slice (some ⟨w.heap.size, 0, none⟩) 64 64) 64 64 0 ∧ St EW 55 O0 w0 (own O w.heap.size (some q)) (w.alloc (.cells (madeCells #[.bool false, .slice none 0 0] 128) 24)) L cL K v n c G gs ∧ Fam EW (w.alloc (.cells (madeCells #[.bool false, .slice none 0 0] 128) 24)) (own O w.heap.size (some q)) K gs ng cg mg := by
 have hm := mv_new (O := O) (Zc (Below.refl w.heap.size w) (.cells (madeCells #[.bool false, .slice none 0 0] 128) 24)) (some q)
 refine ⟨Rw.new (E := EW) (c := 64) (f := fun i => if i % 2 = 0 then Value.bool false else .slice none 0 0) ⟨_, blk_new w _, size_madeCells _ _, made_two⟩ (Nat.le_refl _) (by simp [maxLen]) (fun i => ?_), hs.still hm, hg.mv hm (fun _ _ h => h) (fun h => h)⟩
 show (if i % 2 = 0 then Value.bool false else .slice none 0 0).oneCell' = true
 split <;> rfl
theorem step4W {O0 O : Nat → Option Nat} {w0 w w5 : World} {L cL K : Nat} {v : Nat → Value} {n c : Nat → Nat} {G M q i b : Nat} {gs : Nat → Value} {cg ng mg : Nat → Nat} (h : Rw EW w O q (.slice (some ⟨M, 0, none⟩) 64 64) 64 64 i) (hs : St EW 55 O0 w0 O w L cL K v n c G gs) (hg : Fam EW w O K gs ng cg mg) (hq : K ≤ q) (hq2 : q < 2 * K) (hi : i < 64)
  (hb : Below w.heap.size w w5) (hB : w.heap.size ≤ b) (h5 : w5.heap[b]? = some (.cells #[.int .u64 (mk q i)] 46 (0, 0))) :
  Rw EW ((w5.setCell ⟨M, i * 2, none⟩ (.bool false)).setCell ⟨M, i * 2 + 1, none⟩ (.slice (some ⟨b, 0, none⟩) 1 1)) (own O w.heap.size none) q (.slice (some ⟨M, 0, none⟩) 64 64) 64 64 (i + 1) ∧ St EW 55 O0 w0 (own O w.heap.size none) ((w5.setCell ⟨M, i * 2, none⟩ (.bool false)).setCell ⟨M, i * 2 + 1, none⟩ (.slice (some ⟨b, 0, none⟩) 1 1)) L cL K v n c G gs ∧ Fam EW ((w5.setCell ⟨M, i * 2, none⟩ (.bool false)).setCell ⟨M, i * 2 + 1, none⟩ (.slice (some ⟨b, 0, none⟩) 1 1)) (own O w.heap.size none) K gs ng cg mg := by
 have hn := mv_new (O := O) hb none
 obtain ⟨g, _, _, h1, h2, _, _, _, hst⟩ := (h.mv hn (fun h => h) (fun h => h)).markW hi
 obtain rfl := slice_inj h1
 have hm := (Mv.setCell (fun x => x = some q) (own O w.heap.size none) w5 (i * 2) (.bool false) h2).trans (Mv.setCell _ _ _ (i * 2 + 1) (.slice (some ⟨b, 0, none⟩) 1 1) h2)
 exact ⟨hst b h5 (own_ge hB), (hs.still hn).past hq hq2 hm, (hg.mv hn (fun _ _ h => h) (fun h => h)).mv hm (fun j hj => not_some (by omega)) not_none⟩
theorem info24 : (Try.prog.info? 24).map (fun i => (i.zero, i.size, i.bytes)) = some (some (.agg #[.bool false, .slice none 0 0]), 2, 32) := by kernel_rfl
theorem info55 : (Try.prog.info? 55).map (fun i => (i.zero, i.size, i.bytes)) = some (some (.slice none 0 0), 1, 24) := by kernel_rfl
theorem stepW {w0 w w5 : World} {O0 O : Nat → Option Nat} {L K cL k i g b : Nat} {v : Nat → Value} {n c : Nat → Nat} (HL : Hd w O L none 55 K cL v) (HR : Fam EW w O K v n c (fun j => if j < k then n j else if j = k then i else 0)) (HM : Mv (fun x => x ≠ none) O0 w0 O w)
  (hk : k < K) (hi : i < n k) (hv : v k = .slice (some ⟨g, 0, none⟩) (n k) (c k)) (hb : Below w.heap.size w w5) (hB : w.heap.size ≤ b) (h5 : w5.heap[b]? = some (.cells #[.int .u64 (mk k i)] 46 (0, 0))) :
  Hd ((w5.setCell ⟨g, i * 2, none⟩ (.bool false)).setCell ⟨g, i * 2 + 1, none⟩ (.slice (some ⟨b, 0, none⟩) 1 1)) (own O w.heap.size none) L none 55 K cL v ∧ Fam EW ((w5.setCell ⟨g, i * 2, none⟩ (.bool false)).setCell ⟨g, i * 2 + 1, none⟩ (.slice (some ⟨b, 0, none⟩) 1 1)) (own O w.heap.size none) K v n c (fun j => if j < k then n j else if j = k then i + 1 else 0) ∧ Mv (fun x => x ≠ none) O0 w0 (own O w.heap.size none) ((w5.setCell ⟨g, i * 2, none⟩ (.bool false)).setCell ⟨g, i * 2 + 1, none⟩ (.slice (some ⟨b, 0, none⟩) 1 1)) := by
 have hn := mv_new (O := O) hb none
 have h1 : Rw EW w5 (own O w.heap.size none) k (v k) (n k) (c k) (if k < k then n k else if k = k then i else 0) := (HR k hk).mv hn (fun h => h) (fun h => h)
 rw [m1_at] at h1
 obtain ⟨g', _, _, hg', hO, _, _, _, hst⟩ := h1.markW hi
 obtain rfl := slice_inj (hv.symm.trans hg')
 have hs := (Mv.setCell (fun x => x = some k) (own O w.heap.size none) w5 (i * 2) (.bool false) hO).trans (Mv.setCell _ _ _ (i * 2 + 1) (.slice (some ⟨b, 0, none⟩) 1 1) hO)
 have hd := hn.mono (S' := fun x => x = some k) (fun _ h => h.elim)
 exact ⟨(HL.mv hd not_none).mv hs not_none, HR.upd (hd.trans hs) (fun _ => by show Rw EW _ _ k (v k) (n k) (c k) (if k < k then n k else if k = k then i + 1 else 0); rw [m1_at]; exact hst b h5 (own_ge hB)) (fun j hj hjk => m1_off n k i j hjk), HM.trans ((hd.trans hs).mono ne_none_of)⟩
set_option maxHeartbeats 8000000 in
set_option maxRecDepth 100000 in
theorem flatWholes_calls (L cL K : Nat) (v : Nat → Value) (n c : Nat → Nat) (O : Nat → Option Nat) (w : World) (hK : K ≤ 1000) (hn : ∀ j, j < K → n j ≤ 1000)
  (hL : Hd w O L none 55 K cL v) (hr : Fam EW w O K v n c (fun _ => 0)) :
  Calls Try.prog 103 #[.slice (some ⟨L, 0, none⟩) K cL] w fun e w' => e = .returned (.bool true) ∧ ∃ O', Mv (fun x => x ≠ none) O w O' w' := by
 have HL := Zb.mk hL
 have HR := Zb.mk hr
 have HN := Zb.mk hn
 have HM := Zb.mk (Mv.refl (fun x => x ≠ none) O w)
 have hu24 := Try.underlying24
 clear hL hr hn
 go_enter Try.func103, Try.ntmps103
 go_wp2_with fail
 go_loopg [3] (K + 1) (fun kq v3 w' => ∃ (k : Nat) (O' : Nat → Option Nat), (k + kq = K + 1 ∧ k ≤ K) ∧ v3 = .int .i64 (k : Int) ∧ Zb (Hd w' O' L none 55 K cL v) ∧ Zb (Fam EW w' O' K v n c (fun j => if j < k then n j else 0)) ∧ Zb (Mv (fun x => x ≠ none) O w O' w'))
 case atStart => exact ⟨0, O, ⟨by omega, by omega⟩, rfl, HL, ⟨HR.out.congr fun j hj => (if_neg (by omega)).symm⟩, HM⟩
 case round =>
  clear HL HR HM
  obtain ⟨k, O0, hk, rfl, HL, HR, HM⟩ := hrel
  cases gk with
  | zero => exact absurd hk (by omega)
  | succ k1 =>
   by_cases hkK : k < K
   ·have cc : decide ((k : Int) < (K : Int)) = true := decide_eq_true (by omega)
    obtain ⟨A, hv⟩ := (HR.out k hkK).val
    have hlk := HL.out.get hkK
    rw [hv] at hlk
    have hk0 : (0 : Int) ≤ (k : Int) := by omega
    have hk1 : (k : Int) < (K : Int) := by omega
    go_wp2_with fail
    clear hlk
    have HV := Zb.mk hv
    clear hv
    go_loopg [4] (n k + 1) (fun kq v4 w' => ∃ (i : Nat) (O' : Nat → Option Nat), (i + kq = n k + 1 ∧ i ≤ n k) ∧ v4 = .int .i64 (i : Int) ∧ Zb (Hd w' O' L none 55 K cL v) ∧ Zb (Fam EW w' O' K v n c (fun j => if j < k then n j else if j = k then i else 0)) ∧ Zb (Mv (fun x => x ≠ none) O w O' w'))
    case atStart => exact ⟨0, O0, ⟨by omega, by omega⟩, rfl, HL, ⟨HR.out.congr fun j hj => m1_start n k j⟩, HM⟩
    case round =>
     clear HL HR HM
     obtain ⟨i, O1, hi, rfl, HL, HR, HM⟩ := hrel
     have hnk := HN.out k hkK
     cases gk with
     | zero => exact absurd hi (by omega)
     | succ k2 =>
      by_cases hin : i < n k
      ·have cci : decide ((i : Int) < (n k : Int)) = true := decide_eq_true (by omega)
       have hRk : Rw EW wr O1 k (v k) (n k) (c k) (if k < k then n k else if k = k then i else 0) := HR.out k hkK
       rw [m1_at] at hRk
       obtain ⟨g, o0, o1, hvg, hOg, hc0, hc1, hfr, _⟩ := hRk.markW hin
       obtain rfl : A = some ⟨g, 0, none⟩ := by have := HV.out.symm.trans hvg; injection this
       have hlk := HL.out.get hkK
       rw [hvg] at hlk
       have i0 : (0 : Int) ≤ (i : Int) := by omega
       have i1 : (i : Int) < (n k : Int) := by omega
       have b1 : k ≤ 100000 := by omega
       have b2 : i ≤ 100000 := by omega
       obtain ⟨x, hx, em, eu⟩ := mark_h k i b1 b2
       have HX := Zb.mk hx
       have HE := Zb.mk em
       have HU := Zb.mk eu
       have EI := Zb.mk (wrap_succ i b2)
       have hLg : L ≠ g := HL.out.ne hOg (fun h => by cases h)
       have HVG := Zb.mk hvg
       have HRK := Zb.mk hRk
       have HHI := Zb.mk hi
       have ltg : g < wr.heap.size := World.block_lt_of_cell? wr _ hc0
       clear hRk hvg hnk em eu hx b1 b2 hi
       go_upto_region 7 with fail
       go_region_held3 (fun w' => w'.cell? ⟨L, k, none⟩ = some (.slice (some ⟨g, 0, none⟩) (n k) (c k))) (first | exact hlk | exact kx | exact ((cell_far (a := ⟨L, k, none⟩) (p := ⟨g, i * 2 + 1, none⟩) hLg _).trans ((cell_far (a := ⟨L, k, none⟩) (p := ⟨g, i * 2, none⟩) hLg _).trans kx)) | go_keep)
        (first | (go_at_call 126; refine (markInt_calls (k : Int) (i : Int) x _ HE.out HU.out).mono ?_; rintro ev w5 ⟨b, rfl, hBb, hblk, hbel⟩; have hbel' : Below wr.heap.size wr w5 := Zl (Zd (Below.refl wr.heap.size wr)) hbel; have hc0' : w5.cell? ⟨g, i * 2, none⟩ = some o0 := (hbel'.cell (World.block_lt_of_cell? wr _ hc0)).trans hc0; have hc1' : w5.cell? ⟨g, i * 2 + 1, none⟩ = some o1 := (hbel'.cell (World.block_lt_of_cell? wr _ hc1)).trans hc1; have kx : w5.cell? ⟨L, k, none⟩ = some (.slice (some ⟨g, 0, none⟩) (n k) (c k)) := (hbel'.cell (World.block_lt_of_cell? wr _ hlk)).trans hlk; have hf0 : w5.frozen? ⟨g, i * 2, none⟩ = false := (World.frozen?_of_block (hbel'.block g ltg)).trans (hfr _); have hf1 : w5.frozen? ⟨g, i * 2 + 1, none⟩ = false := (World.frozen?_of_block (hbel'.block g ltg)).trans (hfr _)))
       have ei : ∀ j : Int, j = (i : Int) → wrap64 (j + 1) = ((i + 1 : Nat) : Int) := by rintro j rfl; exact EI.out
       go_wp2_with fail
       clear ei
       have hs := stepW HL.out HR.out HM.out hkK hin HVG.out hbel' (Nat.le_trans (Zd (Below.refl wr.heap.size wr)).size hBb) (by rw [← HX.out]; exact hblk)
       have hi := HHI.out
       go_roundg k2
       case measure => omega
       case rel => exact ⟨i + 1, _, ⟨by omega, by omega⟩, (by first | rfl | exact congrArg (Value.int .i64) EI.out), ⟨hs.1⟩, ⟨hs.2.1⟩, ⟨hs.2.2⟩⟩
      ·have hie : i = n k := by omega
       subst hie
       have cci : decide ((n k : Int) < (n k : Int)) = false := decide_eq_false (by omega)
       have hlk := HL.out.get hkK
       rw [HV.out] at hlk
       have ek := wrap_succ k (by omega)
       go_wp2_with fail
       have EK := Zb.mk ek
       clear ek
       go_roundg k1
       case measure => omega
       case rel => exact ⟨k + 1, O1, ⟨by omega, by omega⟩, (by first | rfl | exact congrArg (Value.int .i64) EK.out), HL, ⟨HR.out.congr fun j hj => m1_next n k j⟩, HM⟩
   ·have hkE : K = k := by omega
    subst hkE
    have cc : decide ((K : Int) < (K : Int)) = false := decide_eq_false (by omega)
    obtain ⟨i0, hi0, hz0, hsz0, hby0⟩ := info_parts info24
    go_wp2_with fail
    rw [run_make_row' (P := Try.prog) 56 55 (.slice none 0 0) 24 Try.underlying56 info55 rfl .i64 .i64 K (by omega) (by omega)]
    have ST := St.start HL.out (HR.out.congr fun j hj => if_pos hj) HM.out (.slice none 0 0)
    generalize hG : wr.heap.size = G at ST ⊢
    replace ST := Zb.mk ST
    clear HL HR HM hG
    have HI := Zb.mk (And.intro hi0 (And.intro hz0 (And.intro hsz0 hby0)))
    clear hi0 hz0 hsz0 hby0
    go_wp2_with fail
    go_loopg [6] (K + 1) (fun kq v6 w' => ∃ (k : Nat) (O' : Nat → Option Nat) (gs : Nat → Value) (cg : Nat → Nat), (k + kq = K + 1 ∧ k ≤ K) ∧ v6 = .int .i64 (k : Int) ∧ Zb (St EW 55 O w O' w' L cL K v n c G gs) ∧ Zb (Fam EW w' O' k gs (fun j => n j + 64) cg (fun j => n j + 64)))
    case atStart => exact ⟨0, _, _, fun _ => 0, ⟨by omega, by omega⟩, rfl, ST, ⟨fun j hj => absurd hj (by omega)⟩⟩
    case round =>
     clear ST
     obtain ⟨k, O1, gs, cg, hk, rfl, ST, HG⟩ := hrel
     cases gk with
     | zero => exact absurd hk (by omega)
     | succ k1 =>
      by_cases hkK : k < K
      ·have cc : decide ((k : Int) < (K : Int)) = true := decide_eq_true (by omega)
       obtain ⟨A, hv⟩ := (ST.out.rows k hkK).val
       have hlk := ST.out.hl.get hkK
       rw [hv] at hlk
       have HV := Zb.mk hv
       have hk0 : (0 : Int) ≤ (k : Int) := by omega
       have hk1 : (k : Int) < (K : Int) := by omega
       clear hv
       go_wp2_with fail
       clear hlk
       go_loopg [7, 8] 65 (fun kq v7 v8 w' => ∃ (i : Nat) (O' : Nat → Option Nat) (c' : Nat), (i + kq = 65 ∧ i ≤ 64) ∧ v8 = .int .i64 (i : Int) ∧ Zb (Rw EW w' O' k v7 (n k + i) c' (n k + i)) ∧ Zb (St EW 55 O w O' w' L cL K v n c G gs) ∧ Zb (Fam EW w' O' k gs (fun j => n j + 64) cg (fun j => n j + 64)))
       case atStart => exact ⟨0, O1, c k, ⟨by omega, by omega⟩, rfl, ⟨by have := ST.out.rows k hkK; rw [HV.out] at this; exact this⟩, ST, HG⟩
       case round =>
        clear ST HG
        obtain ⟨i, O2, c2, hi, rfl, HW, ST, HG⟩ := hrel
        have hnk := HN.out k hkK
        cases gk with
        | zero => exact absurd hi (by omega)
        | succ k2 =>
         by_cases hin : i < 64
         ·have cci : decide ((i : Int) < 64) = true := decide_eq_true (by omega)
          have hlk := ST.out.hl.get hkK
          rw [HV.out] at hlk
          have b1 : k ≤ 100000 := by omega
          have b2 : n k + i ≤ 100000 := by omega
          have b3 : n k ≤ 100000 := by omega
          have b4 : i ≤ 100000 := by omega
          obtain ⟨x, hx, em, eu⟩ := mark_g k (n k) i b1 b2
          have HX := Zb.mk hx
          have HE := Zb.mk em
          have HU := Zb.mk eu
          have EI := Zb.mk (wrap_succ i b4)
          have ea := wrap_add (n k) i b3 b4
          clear em eu hx b1 b2 b3 b4 hnk
          go_wp2_with fail
          clear ea
          refine (markInt_calls (k : Int) _ x _ HE.out HU.out).mono ?_
          rintro ev w5 ⟨b, rfl, hBb, hblk, hbel⟩
          have hn := mv_new (O := O2) hbel none
          have hsa : ∀ o, Below w5.heap.size w5 (w5.alloc o) := fun o => Zc (Below.refl _ _) o
          have hOb : own O2 wr.heap.size none b = none := own_ge hBb
          have hn2 := fun o => hn.below (hsa o)
          have HRW := Zb.mk (fun o => (HW.out.mv (hn2 o) (fun h => h) (fun h => h)))
          have HST := Zb.mk (fun o => ST.out.still (hn2 o))
          have HGF := Zb.mk (fun o => HG.out.mv (hn2 o) (fun _ _ h => h) (fun h => h))
          have HBK := Zb.mk (fun o => (Zf hblk o))
          clear ST HG HW hn hn2 hsa
          go_wp2_with ((with_reducible refine gate_builtin (b := .append) (xs := #[.tmp 57, .tmp 67]) rfl ?_); at_builtin; refine wpList_append_rw EW _ rfl _ _ 55 rfl i0 (.agg #[.bool false, .slice none 0 0]) 32 Try.underlying55 HI.out.1 HI.out.2.1 HI.out.2.2.1 HI.out.2.2.2 rfl (HRW.out _) rfl ⟨w5.heap.size, 0, none⟩ 1 1 [.bool false, .slice (some ⟨b, 0, none⟩) 1 1] rfl rfl ?s1 ?s2 ?s3 ?s4 Nat.one_pos (n k + i + 1) (Nat.le_succ _) (Nat.le_refl _) ?s5 ?_)
          case s1 => exact two_cells _ _ _
          case s2 => exact two_one _
          case s3 => have := HN.out k hkK; simp only [maxLen]; omega
          case s4 => have := HN.out k hkK; omega
          case s5 => exact two_ok HX.out (HBK.out _) hOb
          intro v' c' O' w' hrw hmv hal
          have HRW' := Zb.mk hrw
          have HST' := Zb.mk ((HST.out _).step (N := n k + i) (by omega) hmv hal (fun _ => Nat.le_add_right _ _))
          have HGF' := Zb.mk ((HGF.out _).mv hmv (fun j hj => not_some (by omega)) not_none)
          clear hrw hmv hal HRW HST HGF HBK
          go_wp2_with fail
          go_roundg k2
          case measure => omega
          case rel => exact ⟨i + 1, O', c', ⟨by omega, by omega⟩, (by first | rfl | exact congrArg (Value.int .i64) ei), HRW', HST', HGF'⟩
         ·have hie : i = 64 := by omega
          subst hie
          have cci : decide ((64 : Int) < 64) = false := rfl
          have ek := wrap_succ k (by omega)
          have hG0 := ST.out.hg.get hkK
          obtain ⟨A7, h7⟩ := HW.out.val
          subst h7
          have hGf := ST.out.hg.frozen k
          have hGo := ST.out.hg.1
          go_wp2_with fail
          go_roundg k1
          case measure => omega
          case rel => exact ⟨k + 1, O2, _, _, ⟨by omega, by omega⟩, (by first | rfl | exact congrArg (Value.int .i64) ek), ⟨ST.out.store k _⟩, ⟨Fam.header (Fam.snoc HG.out HW.out) hGo (by omega) k _⟩⟩
      ·have hkE : K = k := by omega
       subst hkE
       have cc : decide ((K : Int) < (K : Int)) = false := decide_eq_false (by omega)
       go_wp2_with fail
       go_loopg [9] (K + 1) (fun kq v9 w' => ∃ k : Nat, (k + kq = K + 1 ∧ k ≤ K) ∧ v9 = .int .i64 (k : Int) ∧ Zb (St EW 55 O w O1 w' L cL K v n c G gs) ∧ Zb (Fam EW w' O1 K gs (fun j => n j + 64) cg (fun j => n j + 64)))
       case atStart => exact ⟨0, ⟨by omega, by omega⟩, rfl, ST, HG⟩
       case round =>
        clear ST HG
        obtain ⟨k, hk, rfl, ST, HG⟩ := hrel
        cases gk with
        | zero => exact absurd hk (by omega)
        | succ k1 =>
         by_cases hkK : k < K
         ·have cc : decide ((k : Int) < (K : Int)) = true := decide_eq_true (by omega)
          have hk0 : (0 : Int) ≤ (k : Int) := by omega
          have hk1 : (k : Int) < (K : Int) := by omega
          go_wp2_with fail
          go_loopg [10] (n k + 64 + 1) (fun kq v10 w' => ∃ i : Nat, (i + kq = n k + 64 + 1 ∧ i ≤ n k + 64) ∧ v10 = .int .i64 (i : Int) ∧ Zb (St EW 55 O w O1 w' L cL K v n c G gs) ∧ Zb (Fam EW w' O1 K gs (fun j => n j + 64) cg (fun j => n j + 64)))
          case atStart => exact ⟨0, ⟨by omega, by omega⟩, rfl, ST, HG⟩
          case round =>
           clear ST HG
           obtain ⟨i, hi, rfl, ST, HG⟩ := hrel
           have hnk := HN.out k hkK
           cases gk with
           | zero => exact absurd hi (by omega)
           | succ k2 =>
            have hGk : Rw EW wr O1 k (gs k) (n k + 64) (cg k) (n k + 64) := HG.out k hkK
            have hgl := ST.out.hg.get hkK
            obtain ⟨N, hN⟩ : ∃ N, N = n k + 64 := ⟨_, rfl⟩
            rw [← hN] at hGk
            by_cases hin : i < N
            ·have cci : decide ((i : Int) < (N : Int)) = true := decide_eq_true (by omega)
             obtain ⟨gg, bg, hgv, hgc, hgd, hbg⟩ := hGk.getW hin
             rw [hgv] at hgl
             have i0 : (0 : Int) ≤ (i : Int) := by omega
             have i1 : (i : Int) < (N : Int) := by omega
             have b1 : k ≤ 100000 := by omega
             have b2 : i ≤ 100000 := by omega
             have hll := ST.out.hl.get hkK
             obtain ⟨x, hx, em, eu⟩ := mark_h k i b1 b2
             rw [← hx] at hbg
             have HE := Zb.mk em
             have HU := Zb.mk eu
             have HX := Zb.mk hx
             have EI := Zb.mk (wrap_succ i b2)
             clear em eu hx
             by_cases hin2 : i < n k
             ·have ccj : decide ((i : Int) < (n k : Int)) = true := decide_eq_true (by omega)
              have i2 : (i : Int) < (n k : Int) := by omega
              obtain ⟨gl, bl, hlv, hlc, hld, hbl⟩ := (ST.out.rows k hkK).getW hin2
              rw [hlv] at hll
              rw [← HX.out] at hbl
              have HNN := Zb.mk hN
              have HHI := Zb.mk hi
              clear hN hi
              have ei : ∀ j : Int, j = (i : Int) → wrap64 (j + 1) = ((i + 1 : Nat) : Int) := by rintro j rfl; exact EI.out
              clear b1 b2 hGk hgv hlv hnk
              go_upto_region 24 with fail
              refine start_ (n := 35) (S := fun w' => Below wr.heap.size wr w' ∧ w'.cell? ⟨G, k, none⟩ = some (.slice (some ⟨gg, 0, none⟩) N (cg k)) ∧ w'.cell? ⟨gg, i * 2, none⟩ = some (.bool false) ∧ w'.cell? ⟨gg, i * 2 + 1, none⟩ = some (.slice (some ⟨bg, 0, none⟩) 1 1) ∧ w'.cell? ⟨L, k, none⟩ = some (.slice (some ⟨gl, 0, none⟩) (n k) (c k)) ∧ w'.cell? ⟨gl, i * 2, none⟩ = some (.bool false) ∧ w'.cell? ⟨gl, i * 2 + 1, none⟩ = some (.slice (some ⟨bl, 0, none⟩) 1 1)) (ds := []) #[false, false, false, false, false, false, false, false, false, false, false, false, false, false, false, false, false, false, false, false, false, false, false, false, false, false, false, false, false, false, false, false, false, false, false] (by kernel_rfl) rfl rfl ⟨Zd (Below.refl _ _), hgl, hgc, hgd, hll, hlc, hld⟩ (fun hHeld => ?_)
              refine ZM (i := 0) (N := some 88) (v := ?_) (a' := ?_) #[true, false, false, false, false, false, false, false, false, false, false, false, false, false, false, false, false, false, false, false, false, false, false, false, false, false, false, false, false, false, false, false, false, false, false] rfl rfl (by kernel_rfl) (fun _ _ _ h => h) (Or.inl ⟨by rfl, ?_⟩) ?_ ?_
              rotate_left
              ·intro w'
               go_simp
               with_reducible rfl
              rotate_left
              ·simp only [Act.put, List.setIfInBounds_toArray, List.set_cons_zero, List.set_cons_succ, Zx, ZA]
               rfl
              refine ZM (i := 1) (N := some 89) (v := ?_) (a' := ?_) #[true, true, false, false, false, false, false, false, false, false, false, false, false, false, false, false, false, false, false, false, false, false, false, false, false, false, false, false, false, false, false, false, false, false, false] rfl rfl (by kernel_rfl) (fun _ _ _ h => h) (Or.inl ⟨by rfl, ?_⟩) ?_ ?_
              rotate_left
              ·intro w'
               go_simp
               with_reducible rfl
              rotate_left
              ·simp only [Act.put, List.setIfInBounds_toArray, List.set_cons_zero, List.set_cons_succ, Zx, ZA]
               rfl
              refine ZM (i := 2) (N := some 90) (v := ?_) (a' := ?_) #[true, true, true, false, false, false, false, false, false, false, false, false, false, false, false, false, false, false, false, false, false, false, false, false, false, false, false, false, false, false, false, false, false, false, false] rfl rfl (by kernel_rfl) (fun _ _ _ h => h) (Or.inl ⟨by rfl, ?_⟩) ?_ ?_
              rotate_left
              ·intro w'
               go_simp
               with_reducible rfl
              rotate_left
              ·simp only [Act.put, List.setIfInBounds_toArray, List.set_cons_zero, List.set_cons_succ, Zx, ZA]
               rfl
              refine take_ (i := 3) (N := some 91) (v := ?_) (a' := ?_) #[true, true, true, true, false, false, false, false, false, false, false, false, false, false, false, false, false, false, false, false, false, false, false, false, false, false, false, false, false, false, false, false, false, false, false] rfl rfl (by kernel_rfl) (fun _ _ _ h => h) (Or.inl ⟨by rfl, ?_⟩) hHeld ?_ ?_
              rotate_left
              ·rintro w' ⟨sB, s0, s1, s2, s3, s4, s5⟩
               go_simp
               with_reducible rfl
              rotate_left
              ·simp only [Act.put, List.setIfInBounds_toArray, List.set_cons_zero, List.set_cons_succ, Zx, ZA]
               rfl
              refine ZM (i := 4) (N := some 92) (v := ?_) (a' := ?_) #[true, true, true, true, true, false, false, false, false, false, false, false, false, false, false, false, false, false, false, false, false, false, false, false, false, false, false, false, false, false, false, false, false, false, false] rfl rfl (by kernel_rfl) (fun _ _ _ h => h) (Or.inl ⟨by rfl, ?_⟩) ?_ ?_
              rotate_left
              ·intro w'
               go_simp
               with_reducible rfl
              rotate_left
              ·simp only [Act.put, List.setIfInBounds_toArray, List.set_cons_zero, List.set_cons_succ, Zx, ZA]
               rfl
              refine ZM (i := 5) (N := some 93) (v := ?_) (a' := ?_) #[true, true, true, true, true, true, false, false, false, false, false, false, false, false, false, false, false, false, false, false, false, false, false, false, false, false, false, false, false, false, false, false, false, false, false] rfl rfl (by kernel_rfl) (fun _ _ _ h => h) (Or.inl ⟨by rfl, ?_⟩) ?_ ?_
              rotate_left
              ·intro w'
               go_simp
               with_reducible rfl
              rotate_left
              ·simp only [Act.put, List.setIfInBounds_toArray, List.set_cons_zero, List.set_cons_succ, Zx, ZA]
               rfl
              refine take_ (i := 6) (N := some 94) (v := ?_) (a' := ?_) #[true, true, true, true, true, true, true, false, false, false, false, false, false, false, false, false, false, false, false, false, false, false, false, false, false, false, false, false, false, false, false, false, false, false, false] rfl rfl (by kernel_rfl) (fun _ _ _ h => h) (Or.inl ⟨by rfl, ?_⟩) hHeld ?_ ?_
              rotate_left
              ·rintro w' ⟨sB, s0, s1, s2, s3, s4, s5⟩
               go_simp
               with_reducible rfl
              rotate_left
              ·simp only [Act.put, List.setIfInBounds_toArray, List.set_cons_zero, List.set_cons_succ, Zx, ZA]
               rfl
              refine ZM (i := 7) (N := some 95) (v := ?_) (a' := ?_) #[true, true, true, true, true, true, true, true, false, false, false, false, false, false, false, false, false, false, false, false, false, false, false, false, false, false, false, false, false, false, false, false, false, false, false] rfl rfl (by kernel_rfl) (fun _ _ _ h => h) (Or.inl ⟨by rfl, ?_⟩) ?_ ?_
              rotate_left
              ·intro w'
               go_simp
               with_reducible rfl
              rotate_left
              ·simp only [Act.put, List.setIfInBounds_toArray, List.set_cons_zero, List.set_cons_succ, Zx, ZA]
               rfl
              refine ZM (i := 8) (N := some 96) (v := ?_) (a' := ?_) #[true, true, true, true, true, true, true, true, true, false, false, false, false, false, false, false, false, false, false, false, false, false, false, false, false, false, false, false, false, false, false, false, false, false, false] rfl rfl (by kernel_rfl) (fun _ _ _ h => h) (Or.inl ⟨by rfl, ?_⟩) ?_ ?_
              rotate_left
              ·intro w'
               go_simp
               with_reducible rfl
              rotate_left
              ·simp only [Act.put, List.setIfInBounds_toArray, List.set_cons_zero, List.set_cons_succ, Zx, ZA]
               rfl
              refine one_ (i := 9) (N := some 97) #[true, true, true, true, true, true, true, true, true, true, false, false, false, false, false, false, false, false, false, false, false, false, false, false, false, false, false, false, false, false, false, false, false, false, false] rfl rfl (by kernel_rfl) (by decide) (fun K_ hK_ => ?_)
              refine goes_ Try.func126 (by kernel_rfl) rfl #[.int .i64 (k : Int), .int .i64 (i : Int)] (by rfl) rfl rfl (by (try simp only [List.map_toArray, List.map_cons, List.map_nil]); first | done | rfl) ?_
              with_reducible refine (markInt_calls (k : Int) (i : Int) x _ HE.out HU.out).mono ?_
              rintro ev w9_ ⟨b9_, rfl, hB9_, hk9_, hb9_⟩
              refine ⟨_, rfl, ?_⟩
              refine hK_.out _ _ ⟨Zl hHeld.1 hb9_, cb hb9_ hHeld.2.1, cb hb9_ hHeld.2.2.1, cb hb9_ hHeld.2.2.2.1, cb hb9_ hHeld.2.2.2.2.1, cb hb9_ hHeld.2.2.2.2.2.1, cb hb9_ hHeld.2.2.2.2.2.2⟩ (fun hHeld => ?_)
              clear hK_ K_
              refine norm_ (a' := ?_) ?_ ?_
              rotate_left
              ·show Act.put _ (some 97) _ = _
               simp only [Act.put, List.setIfInBounds_toArray, List.set_cons_zero, List.set_cons_succ, Zx, ZA]
               rfl
              refine one_ (i := 10) (N := some 98) #[true, true, true, true, true, true, true, true, true, true, true, false, false, false, false, false, false, false, false, false, false, false, false, false, false, false, false, false, false, false, false, false, false, false, false] rfl rfl (by kernel_rfl) (by decide) (fun K_ hK_ => ?_)
              refine goes_ Try.func19 (by kernel_rfl) rfl #[.agg #[.bool false, .slice (some ⟨bg, 0, none⟩) 1 1], .agg #[.bool false, .slice (some ⟨b9_, 0, none⟩) 1 1]] (by rfl) rfl rfl (by (try simp only [List.map_toArray, List.map_cons, List.map_nil]); first | done | rfl) ?_
              with_reducible refine (same_calls ((hHeld.1.block bg (Zw hbg)).trans hbg) hk9_).mono ?_
              rintro ev w10_ ⟨rfl, hb10_⟩
              refine ⟨_, rfl, ?_⟩
              refine hK_.out _ _ ⟨Zl hHeld.1 hb10_, cb hb10_ hHeld.2.1, cb hb10_ hHeld.2.2.1, cb hb10_ hHeld.2.2.2.1, cb hb10_ hHeld.2.2.2.2.1, cb hb10_ hHeld.2.2.2.2.2.1, cb hb10_ hHeld.2.2.2.2.2.2⟩ (fun hHeld => ?_)
              clear hK_ K_
              refine norm_ (a' := ?_) ?_ ?_
              rotate_left
              ·show Act.put _ (some 98) _ = _
               simp only [Act.put, List.setIfInBounds_toArray, List.set_cons_zero, List.set_cons_succ, Zx, ZA]
               rfl
              refine ZM (i := 11) (N := some 99) (v := ?_) (a' := ?_) #[true, true, true, true, true, true, true, true, true, true, true, true, false, false, false, false, false, false, false, false, false, false, false, false, false, false, false, false, false, false, false, false, false, false, false] rfl rfl (by kernel_rfl) (fun _ _ _ h => h) (Or.inl ⟨by rfl, ?_⟩) ?_ ?_
              rotate_left
              ·intro w'
               go_simp
               with_reducible rfl
              rotate_left
              ·simp only [Act.put, List.setIfInBounds_toArray, List.set_cons_zero, List.set_cons_succ, Zx, ZA]
               rfl
              refine ZM (i := 12) (N := some 100) (v := ?_) (a' := ?_) #[true, true, true, true, true, true, true, true, true, true, true, true, true, false, false, false, false, false, false, false, false, false, false, false, false, false, false, false, false, false, false, false, false, false, false] rfl rfl (by kernel_rfl) (fun _ _ _ h => h) (Or.inl ⟨by rfl, ?_⟩) ?_ ?_
              rotate_left
              ·intro w'
               go_simp
               with_reducible rfl
              rotate_left
              ·simp only [Act.put, List.setIfInBounds_toArray, List.set_cons_zero, List.set_cons_succ, Zx, ZA]
               rfl
              refine ZM (i := 13) (N := some 101) (v := ?_) (a' := ?_) #[true, true, true, true, true, true, true, true, true, true, true, true, true, true, false, false, false, false, false, false, false, false, false, false, false, false, false, false, false, false, false, false, false, false, false] rfl rfl (by kernel_rfl) (fun _ _ _ h => h) (Or.inl ⟨by rfl, ?_⟩) ?_ ?_
              rotate_left
              ·intro w'
               go_simp
               with_reducible rfl
              rotate_left
              ·simp only [Act.put, List.setIfInBounds_toArray, List.set_cons_zero, List.set_cons_succ, Zx, ZA]
               rfl
              refine ZM (i := 14) (N := some 102) (v := ?_) (a' := ?_) #[true, true, true, true, true, true, true, true, true, true, true, true, true, true, true, false, false, false, false, false, false, false, false, false, false, false, false, false, false, false, false, false, false, false, false] rfl rfl (by kernel_rfl) (fun _ _ _ h => h) (Or.inl ⟨by rfl, ?_⟩) ?_ ?_
              rotate_left
              ·intro w'
               go_simp
               with_reducible rfl
              rotate_left
              ·simp only [Act.put, List.setIfInBounds_toArray, List.set_cons_zero, List.set_cons_succ, Zx, ZA]
               rfl
              refine ZM (i := 15) (N := some 103) (v := ?_) (a' := ?_) #[true, true, true, true, true, true, true, true, true, true, true, true, true, true, true, true, false, false, false, false, false, false, false, false, false, false, false, false, false, false, false, false, false, false, false] rfl rfl (by kernel_rfl) (fun _ _ _ h => h) (Or.inl ⟨by rfl, ?_⟩) ?_ ?_
              rotate_left
              ·intro w'
               go_simp
               with_reducible rfl
              rotate_left
              ·simp only [Act.put, List.setIfInBounds_toArray, List.set_cons_zero, List.set_cons_succ, Zx, ZA]
               rfl
              refine ZM (i := 16) (N := some 104) (v := ?_) (a' := ?_) #[true, true, true, true, true, true, true, true, true, true, true, true, true, true, true, true, true, false, false, false, false, false, false, false, false, false, false, false, false, false, false, false, false, false, false] rfl rfl (by kernel_rfl) (fun _ _ _ h => h) (Or.inl ⟨by rfl, ?_⟩) ?_ ?_
              rotate_left
              ·intro w'
               go_simp
               with_reducible rfl
              rotate_left
              ·simp only [Act.put, List.setIfInBounds_toArray, List.set_cons_zero, List.set_cons_succ, Zx, ZA]
               rfl
              refine take_ (i := 17) (N := some 105) (v := ?_) (a' := ?_) #[true, true, true, true, true, true, true, true, true, true, true, true, true, true, true, true, true, true, false, false, false, false, false, false, false, false, false, false, false, false, false, false, false, false, false] rfl rfl (by kernel_rfl) (fun _ _ _ h => h) (Or.inl ⟨by rfl, ?_⟩) hHeld ?_ ?_
              rotate_left
              ·rintro w' ⟨sB, s0, s1, s2, s3, s4, s5⟩
               go_simp
               with_reducible rfl
              rotate_left
              ·simp only [Act.put, List.setIfInBounds_toArray, List.set_cons_zero, List.set_cons_succ, Zx, ZA]
               rfl
              refine ZM (i := 18) (N := some 106) (v := ?_) (a' := ?_) #[true, true, true, true, true, true, true, true, true, true, true, true, true, true, true, true, true, true, true, false, false, false, false, false, false, false, false, false, false, false, false, false, false, false, false] rfl rfl (by kernel_rfl) (fun _ _ _ h => h) (Or.inl ⟨by rfl, ?_⟩) ?_ ?_
              rotate_left
              ·intro w'
               go_simp
               with_reducible rfl
              rotate_left
              ·simp only [Act.put, List.setIfInBounds_toArray, List.set_cons_zero, List.set_cons_succ, Zx, ZA]
               rfl
              refine ZM (i := 19) (N := some 107) (v := ?_) (a' := ?_) #[true, true, true, true, true, true, true, true, true, true, true, true, true, true, true, true, true, true, true, true, false, false, false, false, false, false, false, false, false, false, false, false, false, false, false] rfl rfl (by kernel_rfl) (fun _ _ _ h => h) (Or.inl ⟨by rfl, ?_⟩) ?_ ?_
              rotate_left
              ·intro w'
               go_simp
               with_reducible rfl
              rotate_left
              ·simp only [Act.put, List.setIfInBounds_toArray, List.set_cons_zero, List.set_cons_succ, Zx, ZA]
               rfl
              refine ZM (i := 20) (N := some 108) (v := ?_) (a' := ?_) #[true, true, true, true, true, true, true, true, true, true, true, true, true, true, true, true, true, true, true, true, true, false, false, false, false, false, false, false, false, false, false, false, false, false, false] rfl rfl (by kernel_rfl) (fun _ _ _ h => h) (Or.inl ⟨by rfl, ?_⟩) ?_ ?_
              rotate_left
              ·intro w'
               go_simp
               with_reducible rfl
              rotate_left
              ·simp only [Act.put, List.setIfInBounds_toArray, List.set_cons_zero, List.set_cons_succ, Zx, ZA]
               rfl
              refine ZM (i := 21) (N := some 109) (v := ?_) (a' := ?_) #[true, true, true, true, true, true, true, true, true, true, true, true, true, true, true, true, true, true, true, true, true, true, false, false, false, false, false, false, false, false, false, false, false, false, false] rfl rfl (by kernel_rfl) (fun _ _ _ h => h) (Or.inl ⟨by rfl, ?_⟩) ?_ ?_
              rotate_left
              ·intro w'
               go_simp
               with_reducible rfl
              rotate_left
              ·simp only [Act.put, List.setIfInBounds_toArray, List.set_cons_zero, List.set_cons_succ, Zx, ZA]
               rfl
              refine ZM (i := 22) (N := some 110) (v := ?_) (a' := ?_) #[true, true, true, true, true, true, true, true, true, true, true, true, true, true, true, true, true, true, true, true, true, true, true, false, false, false, false, false, false, false, false, false, false, false, false] rfl rfl (by kernel_rfl) (fun _ _ _ h => h) (Or.inl ⟨by rfl, ?_⟩) ?_ ?_
              rotate_left
              ·intro w'
               go_simp
               with_reducible rfl
              rotate_left
              ·simp only [Act.put, List.setIfInBounds_toArray, List.set_cons_zero, List.set_cons_succ, Zx, ZA]
               rfl
              refine ZM (i := 23) (N := some 111) (v := ?_) (a' := ?_) #[true, true, true, true, true, true, true, true, true, true, true, true, true, true, true, true, true, true, true, true, true, true, true, true, false, false, false, false, false, false, false, false, false, false, false] rfl rfl (by kernel_rfl) (fun _ _ _ h => h) (Or.inl ⟨by rfl, ?_⟩) ?_ ?_
              rotate_left
              ·intro w'
               go_simp
               with_reducible rfl
              rotate_left
              ·simp only [Act.put, List.setIfInBounds_toArray, List.set_cons_zero, List.set_cons_succ, Zx, ZA]
               rfl
              refine take_ (i := 24) (N := some 112) (v := ?_) (a' := ?_) #[true, true, true, true, true, true, true, true, true, true, true, true, true, true, true, true, true, true, true, true, true, true, true, true, true, false, false, false, false, false, false, false, false, false, false] rfl rfl (by kernel_rfl) (fun _ _ _ h => h) (Or.inl ⟨by rfl, ?_⟩) hHeld ?_ ?_
              rotate_left
              ·rintro w' ⟨sB, s0, s1, s2, s3, s4, s5⟩
               go_simp
               with_reducible rfl
              rotate_left
              ·simp only [Act.put, List.setIfInBounds_toArray, List.set_cons_zero, List.set_cons_succ, Zx, ZA]
               rfl
              refine ZM (i := 25) (N := some 113) (v := ?_) (a' := ?_) #[true, true, true, true, true, true, true, true, true, true, true, true, true, true, true, true, true, true, true, true, true, true, true, true, true, true, false, false, false, false, false, false, false, false, false] rfl rfl (by kernel_rfl) (fun _ _ _ h => h) (Or.inl ⟨by rfl, ?_⟩) ?_ ?_
              rotate_left
              ·intro w'
               go_simp
               with_reducible rfl
              rotate_left
              ·simp only [Act.put, List.setIfInBounds_toArray, List.set_cons_zero, List.set_cons_succ, Zx, ZA]
               rfl
              refine ZM (i := 26) (N := some 114) (v := ?_) (a' := ?_) #[true, true, true, true, true, true, true, true, true, true, true, true, true, true, true, true, true, true, true, true, true, true, true, true, true, true, true, false, false, false, false, false, false, false, false] rfl rfl (by kernel_rfl) (fun _ _ _ h => h) (Or.inl ⟨by rfl, ?_⟩) ?_ ?_
              rotate_left
              ·intro w'
               go_simp
               with_reducible rfl
              rotate_left
              ·simp only [Act.put, List.setIfInBounds_toArray, List.set_cons_zero, List.set_cons_succ, Zx, ZA]
               rfl
              refine take_ (i := 27) (N := some 115) (v := ?_) (a' := ?_) #[true, true, true, true, true, true, true, true, true, true, true, true, true, true, true, true, true, true, true, true, true, true, true, true, true, true, true, true, false, false, false, false, false, false, false] rfl rfl (by kernel_rfl) (fun _ _ _ h => h) (Or.inl ⟨by rfl, ?_⟩) hHeld ?_ ?_
              rotate_left
              ·rintro w' ⟨sB, s0, s1, s2, s3, s4, s5⟩
               go_simp
               with_reducible rfl
              rotate_left
              ·simp only [Act.put, List.setIfInBounds_toArray, List.set_cons_zero, List.set_cons_succ, Zx, ZA]
               rfl
              refine ZM (i := 28) (N := some 116) (v := ?_) (a' := ?_) #[true, true, true, true, true, true, true, true, true, true, true, true, true, true, true, true, true, true, true, true, true, true, true, true, true, true, true, true, true, false, false, false, false, false, false] rfl rfl (by kernel_rfl) (fun _ _ _ h => h) (Or.inl ⟨by rfl, ?_⟩) ?_ ?_
              rotate_left
              ·intro w'
               go_simp
               with_reducible rfl
              rotate_left
              ·simp only [Act.put, List.setIfInBounds_toArray, List.set_cons_zero, List.set_cons_succ, Zx, ZA]
               rfl
              refine ZM (i := 29) (N := some 117) (v := ?_) (a' := ?_) #[true, true, true, true, true, true, true, true, true, true, true, true, true, true, true, true, true, true, true, true, true, true, true, true, true, true, true, true, true, true, false, false, false, false, false] rfl rfl (by kernel_rfl) (fun _ _ _ h => h) (Or.inl ⟨by rfl, ?_⟩) ?_ ?_
              rotate_left
              ·intro w'
               go_simp
               with_reducible rfl
              rotate_left
              ·simp only [Act.put, List.setIfInBounds_toArray, List.set_cons_zero, List.set_cons_succ, Zx, ZA]
               rfl
              refine one_ (i := 30) (N := some 118) #[true, true, true, true, true, true, true, true, true, true, true, true, true, true, true, true, true, true, true, true, true, true, true, true, true, true, true, true, true, true, true, false, false, false, false] rfl rfl (by kernel_rfl) (by decide) (fun K_ hK_ => ?_)
              refine goes_ Try.func126 (by kernel_rfl) rfl #[.int .i64 (k : Int), .int .i64 (i : Int)] (by rfl) rfl rfl (by (try simp only [List.map_toArray, List.map_cons, List.map_nil]); first | done | rfl) ?_
              with_reducible refine (markInt_calls (k : Int) (i : Int) x _ HE.out HU.out).mono ?_
              rintro ev w30_ ⟨b30_, rfl, hB30_, hk30_, hb30_⟩
              refine ⟨_, rfl, ?_⟩
              refine hK_.out _ _ ⟨Zl hHeld.1 hb30_, cb hb30_ hHeld.2.1, cb hb30_ hHeld.2.2.1, cb hb30_ hHeld.2.2.2.1, cb hb30_ hHeld.2.2.2.2.1, cb hb30_ hHeld.2.2.2.2.2.1, cb hb30_ hHeld.2.2.2.2.2.2⟩ (fun hHeld => ?_)
              clear hK_ K_
              refine norm_ (a' := ?_) ?_ ?_
              rotate_left
              ·show Act.put _ (some 118) _ = _
               simp only [Act.put, List.setIfInBounds_toArray, List.set_cons_zero, List.set_cons_succ, Zx, ZA]
               rfl
              refine one_ (i := 31) (N := some 119) #[true, true, true, true, true, true, true, true, true, true, true, true, true, true, true, true, true, true, true, true, true, true, true, true, true, true, true, true, true, true, true, true, false, false, false] rfl rfl (by kernel_rfl) (by decide) (fun K_ hK_ => ?_)
              refine goes_ Try.func19 (by kernel_rfl) rfl #[.agg #[.bool false, .slice (some ⟨bl, 0, none⟩) 1 1], .agg #[.bool false, .slice (some ⟨b30_, 0, none⟩) 1 1]] (by rfl) rfl rfl (by (try simp only [List.map_toArray, List.map_cons, List.map_nil]); first | done | rfl) ?_
              with_reducible refine (same_calls ((hHeld.1.block bl (Zw hbl)).trans hbl) hk30_).mono ?_
              rintro ev w31_ ⟨rfl, hb31_⟩
              refine ⟨_, rfl, ?_⟩
              refine hK_.out _ _ ⟨Zl hHeld.1 hb31_, cb hb31_ hHeld.2.1, cb hb31_ hHeld.2.2.1, cb hb31_ hHeld.2.2.2.1, cb hb31_ hHeld.2.2.2.2.1, cb hb31_ hHeld.2.2.2.2.2.1, cb hb31_ hHeld.2.2.2.2.2.2⟩ (fun hHeld => ?_)
              clear hK_ K_
              refine norm_ (a' := ?_) ?_ ?_
              rotate_left
              ·show Act.put _ (some 119) _ = _
               simp only [Act.put, List.setIfInBounds_toArray, List.set_cons_zero, List.set_cons_succ, Zx, ZA]
               rfl
              refine ZM (i := 32) (N := some 120) (v := ?_) (a' := ?_) #[true, true, true, true, true, true, true, true, true, true, true, true, true, true, true, true, true, true, true, true, true, true, true, true, true, true, true, true, true, true, true, true, true, false, false] rfl rfl (by kernel_rfl) (fun _ _ _ h => h) (Or.inl ⟨by rfl, ?_⟩) ?_ ?_
              rotate_left
              ·intro w'
               go_simp
               with_reducible rfl
              rotate_left
              ·simp only [Act.put, List.setIfInBounds_toArray, List.set_cons_zero, List.set_cons_succ, Zx, ZA]
               rfl
              refine ZM (i := 33) (N := some 121) (v := ?_) (a' := ?_) #[true, true, true, true, true, true, true, true, true, true, true, true, true, true, true, true, true, true, true, true, true, true, true, true, true, true, true, true, true, true, true, true, true, true, false] rfl rfl (by kernel_rfl) (fun _ _ _ h => h) (Or.inl ⟨by rfl, ?_⟩) ?_ ?_
              rotate_left
              ·intro w'
               go_simp
               with_reducible rfl
              rotate_left
              ·simp only [Act.put, List.setIfInBounds_toArray, List.set_cons_zero, List.set_cons_succ, Zx, ZA]
               rfl
              refine ZM (i := 34) (N := some 122) (v := ?_) (a' := ?_) #[true, true, true, true, true, true, true, true, true, true, true, true, true, true, true, true, true, true, true, true, true, true, true, true, true, true, true, true, true, true, true, true, true, true, true] rfl rfl (by kernel_rfl) (fun _ _ _ h => h) (Or.inl ⟨by rfl, ?_⟩) ?_ ?_
              rotate_left
              ·intro w'
               go_simp
               with_reducible rfl
              rotate_left
              ·simp only [Act.put, List.setIfInBounds_toArray, List.set_cons_zero, List.set_cons_succ, Zx, ZA]
               rfl
              refine done_ (by kernel_rfl) ?_
              have hfin := hHeld.1
              go_wp2_with fail
              clear ei
              have hN := HNN.out
              have hi := HHI.out
              go_roundg k2
              case measure => omega
              case rel => exact ⟨i + 1, ⟨by omega, by omega⟩, (by first | rfl | exact congrArg (Value.int .i64) EI.out), ⟨ST.out.below hfin⟩, ⟨HG.out.below hfin⟩⟩
             ·have ccj : decide ((i : Int) < (n k : Int)) = false := decide_eq_false (by omega)
              obtain ⟨Al, hlv⟩ := (ST.out.rows k hkK).val
              rw [hlv] at hll
              have HNN := Zb.mk hN
              have HHI := Zb.mk hi
              clear hN hi
              have ei : ∀ j : Int, j = (i : Int) → wrap64 (j + 1) = ((i + 1 : Nat) : Int) := by rintro j rfl; exact EI.out
              clear b1 b2 hGk hgv hlv hnk
              go_upto_region 24 with fail
              refine start_ (n := 35) (S := fun w' => Below wr.heap.size wr w' ∧ w'.cell? ⟨G, k, none⟩ = some (.slice (some ⟨gg, 0, none⟩) N (cg k)) ∧ w'.cell? ⟨gg, i * 2, none⟩ = some (.bool false) ∧ w'.cell? ⟨gg, i * 2 + 1, none⟩ = some (.slice (some ⟨bg, 0, none⟩) 1 1) ∧ w'.cell? ⟨L, k, none⟩ = some (.slice Al (n k) (c k))) (ds := []) #[false, false, false, false, false, false, false, false, false, false, false, false, false, false, false, false, false, false, false, false, false, false, false, false, false, false, false, false, false, false, false, false, false, false, false] (by kernel_rfl) rfl rfl ⟨Zd (Below.refl _ _), hgl, hgc, hgd, hll⟩ (fun hHeld => ?_)
              refine ZM (i := 0) (N := some 88) (v := ?_) (a' := ?_) #[true, false, false, false, false, false, false, false, false, false, false, false, false, false, false, false, false, false, false, false, false, false, false, false, false, false, false, false, false, false, false, false, false, false, false] rfl rfl (by kernel_rfl) (fun _ _ _ h => h) (Or.inl ⟨by rfl, ?_⟩) ?_ ?_
              rotate_left
              ·intro w'
               go_simp
               with_reducible rfl
              rotate_left
              ·simp only [Act.put, List.setIfInBounds_toArray, List.set_cons_zero, List.set_cons_succ, Zx, ZA]
               rfl
              refine ZM (i := 1) (N := some 89) (v := ?_) (a' := ?_) #[true, true, false, false, false, false, false, false, false, false, false, false, false, false, false, false, false, false, false, false, false, false, false, false, false, false, false, false, false, false, false, false, false, false, false] rfl rfl (by kernel_rfl) (fun _ _ _ h => h) (Or.inl ⟨by rfl, ?_⟩) ?_ ?_
              rotate_left
              ·intro w'
               go_simp
               with_reducible rfl
              rotate_left
              ·simp only [Act.put, List.setIfInBounds_toArray, List.set_cons_zero, List.set_cons_succ, Zx, ZA]
               rfl
              refine ZM (i := 2) (N := some 90) (v := ?_) (a' := ?_) #[true, true, true, false, false, false, false, false, false, false, false, false, false, false, false, false, false, false, false, false, false, false, false, false, false, false, false, false, false, false, false, false, false, false, false] rfl rfl (by kernel_rfl) (fun _ _ _ h => h) (Or.inl ⟨by rfl, ?_⟩) ?_ ?_
              rotate_left
              ·intro w'
               go_simp
               with_reducible rfl
              rotate_left
              ·simp only [Act.put, List.setIfInBounds_toArray, List.set_cons_zero, List.set_cons_succ, Zx, ZA]
               rfl
              refine take_ (i := 3) (N := some 91) (v := ?_) (a' := ?_) #[true, true, true, true, false, false, false, false, false, false, false, false, false, false, false, false, false, false, false, false, false, false, false, false, false, false, false, false, false, false, false, false, false, false, false] rfl rfl (by kernel_rfl) (fun _ _ _ h => h) (Or.inl ⟨by rfl, ?_⟩) hHeld ?_ ?_
              rotate_left
              ·rintro w' ⟨sB, s0, s1, s2, s3⟩
               go_simp
               with_reducible rfl
              rotate_left
              ·simp only [Act.put, List.setIfInBounds_toArray, List.set_cons_zero, List.set_cons_succ, Zx, ZA]
               rfl
              refine ZM (i := 4) (N := some 92) (v := ?_) (a' := ?_) #[true, true, true, true, true, false, false, false, false, false, false, false, false, false, false, false, false, false, false, false, false, false, false, false, false, false, false, false, false, false, false, false, false, false, false] rfl rfl (by kernel_rfl) (fun _ _ _ h => h) (Or.inl ⟨by rfl, ?_⟩) ?_ ?_
              rotate_left
              ·intro w'
               go_simp
               with_reducible rfl
              rotate_left
              ·simp only [Act.put, List.setIfInBounds_toArray, List.set_cons_zero, List.set_cons_succ, Zx, ZA]
               rfl
              refine ZM (i := 5) (N := some 93) (v := ?_) (a' := ?_) #[true, true, true, true, true, true, false, false, false, false, false, false, false, false, false, false, false, false, false, false, false, false, false, false, false, false, false, false, false, false, false, false, false, false, false] rfl rfl (by kernel_rfl) (fun _ _ _ h => h) (Or.inl ⟨by rfl, ?_⟩) ?_ ?_
              rotate_left
              ·intro w'
               go_simp
               with_reducible rfl
              rotate_left
              ·simp only [Act.put, List.setIfInBounds_toArray, List.set_cons_zero, List.set_cons_succ, Zx, ZA]
               rfl
              refine take_ (i := 6) (N := some 94) (v := ?_) (a' := ?_) #[true, true, true, true, true, true, true, false, false, false, false, false, false, false, false, false, false, false, false, false, false, false, false, false, false, false, false, false, false, false, false, false, false, false, false] rfl rfl (by kernel_rfl) (fun _ _ _ h => h) (Or.inl ⟨by rfl, ?_⟩) hHeld ?_ ?_
              rotate_left
              ·rintro w' ⟨sB, s0, s1, s2, s3⟩
               go_simp
               with_reducible rfl
              rotate_left
              ·simp only [Act.put, List.setIfInBounds_toArray, List.set_cons_zero, List.set_cons_succ, Zx, ZA]
               rfl
              refine ZM (i := 7) (N := some 95) (v := ?_) (a' := ?_) #[true, true, true, true, true, true, true, true, false, false, false, false, false, false, false, false, false, false, false, false, false, false, false, false, false, false, false, false, false, false, false, false, false, false, false] rfl rfl (by kernel_rfl) (fun _ _ _ h => h) (Or.inl ⟨by rfl, ?_⟩) ?_ ?_
              rotate_left
              ·intro w'
               go_simp
               with_reducible rfl
              rotate_left
              ·simp only [Act.put, List.setIfInBounds_toArray, List.set_cons_zero, List.set_cons_succ, Zx, ZA]
               rfl
              refine ZM (i := 8) (N := some 96) (v := ?_) (a' := ?_) #[true, true, true, true, true, true, true, true, true, false, false, false, false, false, false, false, false, false, false, false, false, false, false, false, false, false, false, false, false, false, false, false, false, false, false] rfl rfl (by kernel_rfl) (fun _ _ _ h => h) (Or.inl ⟨by rfl, ?_⟩) ?_ ?_
              rotate_left
              ·intro w'
               go_simp
               with_reducible rfl
              rotate_left
              ·simp only [Act.put, List.setIfInBounds_toArray, List.set_cons_zero, List.set_cons_succ, Zx, ZA]
               rfl
              refine one_ (i := 9) (N := some 97) #[true, true, true, true, true, true, true, true, true, true, false, false, false, false, false, false, false, false, false, false, false, false, false, false, false, false, false, false, false, false, false, false, false, false, false] rfl rfl (by kernel_rfl) (by decide) (fun K_ hK_ => ?_)
              refine goes_ Try.func126 (by kernel_rfl) rfl #[.int .i64 (k : Int), .int .i64 (i : Int)] (by rfl) rfl rfl (by (try simp only [List.map_toArray, List.map_cons, List.map_nil]); first | done | rfl) ?_
              with_reducible refine (markInt_calls (k : Int) (i : Int) x _ HE.out HU.out).mono ?_
              rintro ev w9_ ⟨b9_, rfl, hB9_, hk9_, hb9_⟩
              refine ⟨_, rfl, ?_⟩
              refine hK_.out _ _ ⟨Zl hHeld.1 hb9_, cb hb9_ hHeld.2.1, cb hb9_ hHeld.2.2.1, cb hb9_ hHeld.2.2.2.1, cb hb9_ hHeld.2.2.2.2⟩ (fun hHeld => ?_)
              clear hK_ K_
              refine norm_ (a' := ?_) ?_ ?_
              rotate_left
              ·show Act.put _ (some 97) _ = _
               simp only [Act.put, List.setIfInBounds_toArray, List.set_cons_zero, List.set_cons_succ, Zx, ZA]
               rfl
              refine one_ (i := 10) (N := some 98) #[true, true, true, true, true, true, true, true, true, true, true, false, false, false, false, false, false, false, false, false, false, false, false, false, false, false, false, false, false, false, false, false, false, false, false] rfl rfl (by kernel_rfl) (by decide) (fun K_ hK_ => ?_)
              refine goes_ Try.func19 (by kernel_rfl) rfl #[.agg #[.bool false, .slice (some ⟨bg, 0, none⟩) 1 1], .agg #[.bool false, .slice (some ⟨b9_, 0, none⟩) 1 1]] (by rfl) rfl rfl (by (try simp only [List.map_toArray, List.map_cons, List.map_nil]); first | done | rfl) ?_
              with_reducible refine (same_calls ((hHeld.1.block bg (Zw hbg)).trans hbg) hk9_).mono ?_
              rintro ev w10_ ⟨rfl, hb10_⟩
              refine ⟨_, rfl, ?_⟩
              refine hK_.out _ _ ⟨Zl hHeld.1 hb10_, cb hb10_ hHeld.2.1, cb hb10_ hHeld.2.2.1, cb hb10_ hHeld.2.2.2.1, cb hb10_ hHeld.2.2.2.2⟩ (fun hHeld => ?_)
              clear hK_ K_
              refine norm_ (a' := ?_) ?_ ?_
              rotate_left
              ·show Act.put _ (some 98) _ = _
               simp only [Act.put, List.setIfInBounds_toArray, List.set_cons_zero, List.set_cons_succ, Zx, ZA]
               rfl
              refine ZM (i := 11) (N := some 99) (v := ?_) (a' := ?_) #[true, true, true, true, true, true, true, true, true, true, true, true, false, false, false, false, false, false, false, false, false, false, false, false, false, false, false, false, false, false, false, false, false, false, false] rfl rfl (by kernel_rfl) (fun _ _ _ h => h) (Or.inl ⟨by rfl, ?_⟩) ?_ ?_
              rotate_left
              ·intro w'
               go_simp
               with_reducible rfl
              rotate_left
              ·simp only [Act.put, List.setIfInBounds_toArray, List.set_cons_zero, List.set_cons_succ, Zx, ZA]
               rfl
              refine ZM (i := 12) (N := some 100) (v := ?_) (a' := ?_) #[true, true, true, true, true, true, true, true, true, true, true, true, true, false, false, false, false, false, false, false, false, false, false, false, false, false, false, false, false, false, false, false, false, false, false] rfl rfl (by kernel_rfl) (fun _ _ _ h => h) (Or.inl ⟨by rfl, ?_⟩) ?_ ?_
              rotate_left
              ·intro w'
               go_simp
               with_reducible rfl
              rotate_left
              ·simp only [Act.put, List.setIfInBounds_toArray, List.set_cons_zero, List.set_cons_succ, Zx, ZA]
               rfl
              refine ZM (i := 13) (N := some 101) (v := ?_) (a' := ?_) #[true, true, true, true, true, true, true, true, true, true, true, true, true, true, false, false, false, false, false, false, false, false, false, false, false, false, false, false, false, false, false, false, false, false, false] rfl rfl (by kernel_rfl) (fun _ _ _ h => h) (Or.inl ⟨by rfl, ?_⟩) ?_ ?_
              rotate_left
              ·intro w'
               go_simp
               with_reducible rfl
              rotate_left
              ·simp only [Act.put, List.setIfInBounds_toArray, List.set_cons_zero, List.set_cons_succ, Zx, ZA]
               rfl
              refine ZM (i := 14) (N := some 102) (v := ?_) (a' := ?_) #[true, true, true, true, true, true, true, true, true, true, true, true, true, true, true, false, false, false, false, false, false, false, false, false, false, false, false, false, false, false, false, false, false, false, false] rfl rfl (by kernel_rfl) (fun _ _ _ h => h) (Or.inl ⟨by rfl, ?_⟩) ?_ ?_
              rotate_left
              ·intro w'
               go_simp
               with_reducible rfl
              rotate_left
              ·simp only [Act.put, List.setIfInBounds_toArray, List.set_cons_zero, List.set_cons_succ, Zx, ZA]
               rfl
              refine ZM (i := 15) (N := some 103) (v := ?_) (a' := ?_) #[true, true, true, true, true, true, true, true, true, true, true, true, true, true, true, true, false, false, false, false, false, false, false, false, false, false, false, false, false, false, false, false, false, false, false] rfl rfl (by kernel_rfl) (fun _ _ _ h => h) (Or.inl ⟨by rfl, ?_⟩) ?_ ?_
              rotate_left
              ·intro w'
               go_simp
               with_reducible rfl
              rotate_left
              ·simp only [Act.put, List.setIfInBounds_toArray, List.set_cons_zero, List.set_cons_succ, Zx, ZA]
               rfl
              refine ZM (i := 16) (N := some 104) (v := ?_) (a' := ?_) #[true, true, true, true, true, true, true, true, true, true, true, true, true, true, true, true, true, false, false, false, false, false, false, false, false, false, false, false, false, false, false, false, false, false, false] rfl rfl (by kernel_rfl) (fun _ _ _ h => h) (Or.inl ⟨by rfl, ?_⟩) ?_ ?_
              rotate_left
              ·intro w'
               go_simp
               with_reducible rfl
              rotate_left
              ·simp only [Act.put, List.setIfInBounds_toArray, List.set_cons_zero, List.set_cons_succ, Zx, ZA]
               rfl
              refine take_ (i := 17) (N := some 105) (v := ?_) (a' := ?_) #[true, true, true, true, true, true, true, true, true, true, true, true, true, true, true, true, true, true, false, false, false, false, false, false, false, false, false, false, false, false, false, false, false, false, false] rfl rfl (by kernel_rfl) (fun _ _ _ h => h) (Or.inl ⟨by rfl, ?_⟩) hHeld ?_ ?_
              rotate_left
              ·rintro w' ⟨sB, s0, s1, s2, s3⟩
               go_simp
               with_reducible rfl
              rotate_left
              ·simp only [Act.put, List.setIfInBounds_toArray, List.set_cons_zero, List.set_cons_succ, Zx, ZA]
               rfl
              refine ZM (i := 18) (N := some 106) (v := ?_) (a' := ?_) #[true, true, true, true, true, true, true, true, true, true, true, true, true, true, true, true, true, true, true, false, false, false, false, false, false, false, false, false, false, false, false, false, false, false, false] rfl rfl (by kernel_rfl) (fun _ _ _ h => h) (Or.inl ⟨by rfl, ?_⟩) ?_ ?_
              rotate_left
              ·intro w'
               go_simp
               with_reducible rfl
              rotate_left
              ·simp only [Act.put, List.setIfInBounds_toArray, List.set_cons_zero, List.set_cons_succ, Zx, ZA]
               rfl
              refine ZM (i := 19) (N := some 107) (v := ?_) (a' := ?_) #[true, true, true, true, true, true, true, true, true, true, true, true, true, true, true, true, true, true, true, true, false, false, false, false, false, false, false, false, false, false, false, false, false, false, false] rfl rfl (by kernel_rfl) (fun _ _ _ h => h) (Or.inl ⟨by rfl, ?_⟩) ?_ ?_
              rotate_left
              ·intro w'
               go_simp
               with_reducible rfl
              rotate_left
              ·simp only [Act.put, List.setIfInBounds_toArray, List.set_cons_zero, List.set_cons_succ, Zx, ZA]
               rfl
              refine ZM (i := 20) (N := some 108) (v := ?_) (a' := ?_) #[true, true, true, true, true, true, true, true, true, true, true, true, true, true, true, true, true, true, true, true, true, false, false, false, false, false, false, false, false, false, false, false, false, false, false] rfl rfl (by kernel_rfl) (fun _ _ _ h => h) (Or.inl ⟨by rfl, ?_⟩) ?_ ?_
              rotate_left
              ·intro w'
               go_simp
               with_reducible rfl
              rotate_left
              ·simp only [Act.put, List.setIfInBounds_toArray, List.set_cons_zero, List.set_cons_succ, Zx, ZA]
               rfl
              refine ZM (i := 21) (N := some 109) (v := undef) (a' := ?_) #[true, true, true, true, true, true, true, true, true, true, true, true, true, true, true, true, true, true, true, true, true, true, false, false, false, false, false, false, false, false, false, false, false, false, false] rfl rfl (by kernel_rfl) (fun _ _ _ h => h) (Or.inr ⟨by rfl, rfl⟩) ?_ ?_
              rotate_left
              ·simp only [Act.put, List.setIfInBounds_toArray, List.set_cons_zero, List.set_cons_succ, Zx, ZA]
               rfl
              refine ZM (i := 22) (N := some 110) (v := undef) (a' := ?_) #[true, true, true, true, true, true, true, true, true, true, true, true, true, true, true, true, true, true, true, true, true, true, true, false, false, false, false, false, false, false, false, false, false, false, false] rfl rfl (by kernel_rfl) (fun _ _ _ h => h) (Or.inr ⟨by rfl, rfl⟩) ?_ ?_
              rotate_left
              ·simp only [Act.put, List.setIfInBounds_toArray, List.set_cons_zero, List.set_cons_succ, Zx, ZA]
               rfl
              refine ZM (i := 23) (N := some 111) (v := undef) (a' := ?_) #[true, true, true, true, true, true, true, true, true, true, true, true, true, true, true, true, true, true, true, true, true, true, true, true, false, false, false, false, false, false, false, false, false, false, false] rfl rfl (by kernel_rfl) (fun _ _ _ h => h) (Or.inr ⟨by rfl, rfl⟩) ?_ ?_
              rotate_left
              ·simp only [Act.put, List.setIfInBounds_toArray, List.set_cons_zero, List.set_cons_succ, Zx, ZA]
               rfl
              refine ZM (i := 24) (N := some 112) (v := undef) (a' := ?_) #[true, true, true, true, true, true, true, true, true, true, true, true, true, true, true, true, true, true, true, true, true, true, true, true, true, false, false, false, false, false, false, false, false, false, false] rfl rfl (by kernel_rfl) (fun _ _ _ h => h) (Or.inr ⟨by rfl, rfl⟩) ?_ ?_
              rotate_left
              ·simp only [Act.put, List.setIfInBounds_toArray, List.set_cons_zero, List.set_cons_succ, Zx, ZA]
               rfl
              refine ZM (i := 25) (N := some 113) (v := undef) (a' := ?_) #[true, true, true, true, true, true, true, true, true, true, true, true, true, true, true, true, true, true, true, true, true, true, true, true, true, true, false, false, false, false, false, false, false, false, false] rfl rfl (by kernel_rfl) (fun _ _ _ h => h) (Or.inr ⟨by rfl, rfl⟩) ?_ ?_
              rotate_left
              ·simp only [Act.put, List.setIfInBounds_toArray, List.set_cons_zero, List.set_cons_succ, Zx, ZA]
               rfl
              refine ZM (i := 26) (N := some 114) (v := undef) (a' := ?_) #[true, true, true, true, true, true, true, true, true, true, true, true, true, true, true, true, true, true, true, true, true, true, true, true, true, true, true, false, false, false, false, false, false, false, false] rfl rfl (by kernel_rfl) (fun _ _ _ h => h) (Or.inr ⟨by rfl, rfl⟩) ?_ ?_
              rotate_left
              ·simp only [Act.put, List.setIfInBounds_toArray, List.set_cons_zero, List.set_cons_succ, Zx, ZA]
               rfl
              refine ZM (i := 27) (N := some 115) (v := undef) (a' := ?_) #[true, true, true, true, true, true, true, true, true, true, true, true, true, true, true, true, true, true, true, true, true, true, true, true, true, true, true, true, false, false, false, false, false, false, false] rfl rfl (by kernel_rfl) (fun _ _ _ h => h) (Or.inr ⟨by rfl, rfl⟩) ?_ ?_
              rotate_left
              ·simp only [Act.put, List.setIfInBounds_toArray, List.set_cons_zero, List.set_cons_succ, Zx, ZA]
               rfl
              refine ZM (i := 28) (N := some 116) (v := undef) (a' := ?_) #[true, true, true, true, true, true, true, true, true, true, true, true, true, true, true, true, true, true, true, true, true, true, true, true, true, true, true, true, true, false, false, false, false, false, false] rfl rfl (by kernel_rfl) (fun _ _ _ h => h) (Or.inr ⟨by rfl, rfl⟩) ?_ ?_
              rotate_left
              ·simp only [Act.put, List.setIfInBounds_toArray, List.set_cons_zero, List.set_cons_succ, Zx, ZA]
               rfl
              refine ZM (i := 29) (N := some 117) (v := undef) (a' := ?_) #[true, true, true, true, true, true, true, true, true, true, true, true, true, true, true, true, true, true, true, true, true, true, true, true, true, true, true, true, true, true, false, false, false, false, false] rfl rfl (by kernel_rfl) (fun _ _ _ h => h) (Or.inr ⟨by rfl, rfl⟩) ?_ ?_
              rotate_left
              ·simp only [Act.put, List.setIfInBounds_toArray, List.set_cons_zero, List.set_cons_succ, Zx, ZA]
               rfl
              refine ZM (i := 30) (N := some 118) (v := undef) (a' := ?_) #[true, true, true, true, true, true, true, true, true, true, true, true, true, true, true, true, true, true, true, true, true, true, true, true, true, true, true, true, true, true, true, false, false, false, false] rfl rfl (by kernel_rfl) (fun _ _ _ h => h) (Or.inr ⟨by rfl, rfl⟩) ?_ ?_
              rotate_left
              ·simp only [Act.put, List.setIfInBounds_toArray, List.set_cons_zero, List.set_cons_succ, Zx, ZA]
               rfl
              refine ZM (i := 31) (N := some 119) (v := undef) (a' := ?_) #[true, true, true, true, true, true, true, true, true, true, true, true, true, true, true, true, true, true, true, true, true, true, true, true, true, true, true, true, true, true, true, true, false, false, false] rfl rfl (by kernel_rfl) (fun _ _ _ h => h) (Or.inr ⟨by rfl, rfl⟩) ?_ ?_
              rotate_left
              ·simp only [Act.put, List.setIfInBounds_toArray, List.set_cons_zero, List.set_cons_succ, Zx, ZA]
               rfl
              refine ZM (i := 32) (N := some 120) (v := undef) (a' := ?_) #[true, true, true, true, true, true, true, true, true, true, true, true, true, true, true, true, true, true, true, true, true, true, true, true, true, true, true, true, true, true, true, true, true, false, false] rfl rfl (by kernel_rfl) (fun _ _ _ h => h) (Or.inr ⟨by rfl, rfl⟩) ?_ ?_
              rotate_left
              ·simp only [Act.put, List.setIfInBounds_toArray, List.set_cons_zero, List.set_cons_succ, Zx, ZA]
               rfl
              refine ZM (i := 33) (N := some 121) (v := ?_) (a' := ?_) #[true, true, true, true, true, true, true, true, true, true, true, true, true, true, true, true, true, true, true, true, true, true, true, true, true, true, true, true, true, true, true, true, true, true, false] rfl rfl (by kernel_rfl) (fun _ _ _ h => h) (Or.inl ⟨by rfl, ?_⟩) ?_ ?_
              rotate_left
              ·intro w'
               go_simp
               with_reducible rfl
              rotate_left
              ·simp only [Act.put, List.setIfInBounds_toArray, List.set_cons_zero, List.set_cons_succ, Zx, ZA]
               rfl
              refine ZM (i := 34) (N := some 122) (v := ?_) (a' := ?_) #[true, true, true, true, true, true, true, true, true, true, true, true, true, true, true, true, true, true, true, true, true, true, true, true, true, true, true, true, true, true, true, true, true, true, true] rfl rfl (by kernel_rfl) (fun _ _ _ h => h) (Or.inl ⟨by rfl, ?_⟩) ?_ ?_
              rotate_left
              ·intro w'
               go_simp
               with_reducible rfl
              rotate_left
              ·simp only [Act.put, List.setIfInBounds_toArray, List.set_cons_zero, List.set_cons_succ, Zx, ZA]
               rfl
              refine done_ (by kernel_rfl) ?_
              have hfin := hHeld.1
              go_wp2_with fail
              clear ei
              have hN := HNN.out
              have hi := HHI.out
              go_roundg k2
              case measure => omega
              case rel => exact ⟨i + 1, ⟨by omega, by omega⟩, (by first | rfl | exact congrArg (Value.int .i64) EI.out), ⟨ST.out.below hfin⟩, ⟨HG.out.below hfin⟩⟩
            ·have hie : i = N := by omega
             subst hie
             have cci : decide ((i : Int) < (i : Int)) = false := decide_eq_false (by omega)
             obtain ⟨Ag, hgv⟩ := hGk.val
             rw [hgv] at hgl
             have ek := wrap_succ k (by omega)
             go_wp2_with fail
             have EK := Zb.mk ek
             clear ek
             go_roundg k1
             case measure => omega
             case rel => exact ⟨k + 1, ⟨by omega, by omega⟩, (by first | rfl | exact congrArg (Value.int .i64) EK.out), ST, HG⟩
         ·have hkE : K = k := by omega
          subst hkE
          have cc : decide ((K : Int) < (K : Int)) = false := decide_eq_false (by omega)
          go_wp2_with fail
          go_loopg [11] (K + 1) (fun kq v11 w' => ∃ (k : Nat) (O' : Nat → Option Nat) (gs : Nat → Value) (cg : Nat → Nat), (k + kq = K + 1 ∧ k ≤ K) ∧ v11 = .int .i64 (k : Int) ∧ Zb (St EW 55 O w O' w' L cL K v n c G gs) ∧ Zb (Fam EW w' O' K gs (fun j => n j + 64) cg n))
          case atStart => exact ⟨0, O1, gs, cg, ⟨by omega, by omega⟩, rfl, ST, ⟨HG.out.less fun j hj => Nat.le_add_right _ _⟩⟩
          case round =>
           clear ST HG
           obtain ⟨k, O1, gs, cg, hk, rfl, ST, HG⟩ := hrel
           cases gk with
           | zero => exact absurd hk (by omega)
           | succ k1 =>
            by_cases hkK : k < K
            ·have cc : decide ((k : Int) < (K : Int)) = true := decide_eq_true (by omega)
             have hk0 : (0 : Int) ≤ (k : Int) := by omega
             have hk1 : (k : Int) < (K : Int) := by omega
             have hmk : ∀ W : World, (Instr.makeSlice 55 (.int .i64 64) (.int .i64 64)).run Try.prog W = .ok (.slice (some ⟨W.heap.size, 0, none⟩) 64 64) (W.alloc (.cells (madeCells #[.bool false, .slice none 0 0] 128) 24)) := fun W => make64 W i0 HI.out.1 HI.out.2.1 HI.out.2.2.1 HI.out.2.2.2
             go_wp2_with fail
             have hn4 := many_newW (q := k + K) ST.out HG.out
             generalize hM : wr.heap.size = M at hn4 ⊢
             have HW := Zb.mk hn4.1
             have ST' := Zb.mk hn4.2.1
             have HG' := Zb.mk hn4.2.2
             clear hn4 hmk hM ST HG
             generalize own O1 M (some (k + K)) = O2 at HW ST' HG'
             go_loopg [13] 65 (fun kq v13 w' => ∃ (i : Nat) (O' : Nat → Option Nat), (i + kq = 65 ∧ i ≤ 64) ∧ v13 = .int .i64 (i : Int) ∧ Zb (Rw EW w' O' (k + K) (.slice (some ⟨M, 0, none⟩) 64 64) 64 64 i) ∧ Zb (St EW 55 O w O' w' L cL K v n c G gs) ∧ Zb (Fam EW w' O' K gs (fun j => n j + 64) cg n))
             case atStart => exact ⟨0, O2, ⟨by omega, by omega⟩, rfl, HW, ST', HG'⟩
             case round =>
              clear HW ST' HG'
              obtain ⟨i, O3, hi, rfl, HW, ST, HG⟩ := hrel
              cases gk with
              | zero => exact absurd hi (by omega)
              | succ k2 =>
               by_cases hin : i < 64
               ·have cci : decide ((i : Int) < 64) = true := decide_eq_true (by omega)
                have i0_ : (0 : Int) ≤ (i : Int) := by omega
                have i1 : (i : Int) < 64 := by omega
                have b1 : k + K ≤ 100000 := by omega
                have b2 : i ≤ 100000 := by omega
                have b3 : k ≤ 100000 := by omega
                have b4 : K ≤ 100000 := by omega
                obtain ⟨x, hx, em, eu⟩ := mark_p k K i b1 b2
                have HX := Zb.mk hx
                have HE := Zb.mk em
                have HU := Zb.mk eu
                have EI := Zb.mk (wrap_succ i b2)
                obtain ⟨g', o0, o1, hg', _, hc0, hc1, hfr, _⟩ := HW.out.markW hin
                obtain rfl := slice_inj hg'
                have ltg : M < wr.heap.size := World.block_lt_of_cell? wr _ hc0
                have ea : ∀ j : Int, j = (k : Int) → wrap64 (j + (K : Int)) = ((k + K : Nat) : Int) := by rintro j rfl; exact wrap_add k K b3 b4
                clear em eu hx b1 b2 b3 b4 hg'
                go_wp2_with fail
                clear ea
                refine (markInt_calls _ (i : Int) x _ HE.out HU.out).mono ?_
                rintro ev w5 ⟨b, rfl, hBb, hblk, hbel⟩
                have hc0' := cb hbel hc0
                have hc1' := cb hbel hc1
                have hf0 : w5.frozen? ⟨M, i * 2, none⟩ = false := (World.frozen?_of_block (hbel.block M ltg)).trans (hfr _)
                have hf1 : w5.frozen? ⟨M, i * 2 + 1, none⟩ = false := (World.frozen?_of_block (hbel.block M ltg)).trans (hfr _)
                have ei : ∀ j : Int, j = (i : Int) → wrap64 (j + 1) = ((i + 1 : Nat) : Int) := by rintro j rfl; exact EI.out
                go_wp2_with fail
                clear ei
                have hs := step4W HW.out ST.out HG.out (q := k + K) (by omega) (by omega) hin hbel hBb (by rw [← HX.out]; exact hblk)
                go_roundg k2
                case measure => omega
                case rel => exact ⟨i + 1, _, ⟨by omega, by omega⟩, (by first | rfl | exact congrArg (Value.int .i64) EI.out), ⟨hs.1⟩, ⟨hs.2.1⟩, ⟨hs.2.2⟩⟩
               ·have hie : i = 64 := by omega
                subst hie
                have cci : decide ((64 : Int) < 64) = false := rfl
                have hll := ST.out.hl.get hkK
                obtain ⟨A, hv⟩ := (ST.out.rows k hkK).val
                rw [hv] at hll
                have HRW := Zb.mk (show Rw EW wr O3 k (.slice A (n k) (c k)) (n k) (c k) (n k) from by have := ST.out.rows k hkK; rw [hv] at this; exact this)
                obtain ⟨news, hn1, hn2, hn3⟩ := HW.out.news
                have H1 := Zb.mk hn1
                have H2 := Zb.mk hn2
                have H3 := Zb.mk hn3
                clear hv hn1 hn2 hn3
                go_wp2_with ((with_reducible refine gate_builtin (b := .append) (xs := #[.tmp 148, .tmp 149]) rfl ?_); at_builtin; refine wpList_append_rw EW _ rfl _ _ 55 rfl i0 (.agg #[.bool false, .slice none 0 0]) 32 Try.underlying55 HI.out.1 HI.out.2.1 HI.out.2.2.1 HI.out.2.2.2 rfl HRW.out rfl ⟨M, 0, none⟩ 64 64 news rfl H1.out H2.out H3.out ?s3 ?s4 (by decide) (n k) (Nat.le_refl _) (Nat.le_add_right _ _) ?s5 ?_)
                case s3 => have := HN.out k hkK; simp only [maxLen]; omega
                case s4 => have := HN.out k hkK; omega
                case s5 => exact fun i h1 h2 => absurd h1 (by omega)
                intro v' c' O' w' hrw hmv hal
                obtain ⟨A', hA'⟩ := hrw.val
                subst hA'
                have HRW' := Zb.mk hrw
                have HST' := Zb.mk (ST.out.step (N := n k) (by omega) hmv hal (fun _ => Nat.le_refl _))
                have HGF' := Zb.mk (HG.out.put hmv (fun _ => HRW'.out))
                have hG0 := HST'.out.hg.get hkK
                have hGf := HST'.out.hg.frozen k
                have hGo := HST'.out.hg.1
                clear hrw hmv hal HRW HRW' ST HG HW hll
                have ek := wrap_succ k (by omega)
                have EK := Zb.mk ek
                go_wp2_with fail
                clear ek
                go_roundg k1
                case measure => omega
                case rel => exact ⟨k + 1, O', _, _, ⟨by omega, by omega⟩, (by first | rfl | exact congrArg (Value.int .i64) EK.out), ⟨HST'.out.store k _⟩, ⟨Fam.header HGF'.out hGo (by omega) k _⟩⟩
            ·have hkE : K = k := by omega
             subst hkE
             have cc : decide ((K : Int) < (K : Int)) = false := decide_eq_false (by omega)
             go_wp2_with fail
             go_loopg [14] (K + 1) (fun kq v14 w' => ∃ k : Nat, (k + kq = K + 1 ∧ k ≤ K) ∧ v14 = .int .i64 (k : Int) ∧ Zb (St EW 55 O w O1 w' L cL K v n c G gs) ∧ Zb (Fam EW w' O1 K gs (fun j => n j + 64) cg n))
             case atStart => exact ⟨0, ⟨by omega, by omega⟩, rfl, ST, HG⟩
             case round =>
              clear ST HG
              obtain ⟨k, hk, rfl, ST, HG⟩ := hrel
              cases gk with
              | zero => exact absurd hk (by omega)
              | succ k1 =>
               by_cases hkK : k < K
               ·have cc : decide ((k : Int) < (K : Int)) = true := decide_eq_true (by omega)
                have hk0 : (0 : Int) ≤ (k : Int) := by omega
                have hk1 : (k : Int) < (K : Int) := by omega
                go_wp2_with fail
                go_loopg [15] (n k + 1) (fun kq v15 w' => ∃ i : Nat, (i + kq = n k + 1 ∧ i ≤ n k) ∧ v15 = .int .i64 (i : Int) ∧ Zb (St EW 55 O w O1 w' L cL K v n c G gs) ∧ Zb (Fam EW w' O1 K gs (fun j => n j + 64) cg n))
                case atStart => exact ⟨0, ⟨by omega, by omega⟩, rfl, ST, HG⟩
                case round =>
                 clear ST HG
                 obtain ⟨i, hi, rfl, ST, HG⟩ := hrel
                 have hnk := HN.out k hkK
                 cases gk with
                 | zero => exact absurd hi (by omega)
                 | succ k2 =>
                  by_cases hin : i < n k
                  ·have ccj : decide ((i : Int) < (n k : Int)) = true := decide_eq_true (by omega)
                   have hGk : Rw EW wr O1 k (gs k) (n k + 64) (cg k) (n k) := HG.out k hkK
                   have hgl := ST.out.hg.get hkK
                   obtain ⟨N, hN⟩ : ∃ N, N = n k + 64 := ⟨_, rfl⟩
                   rw [← hN] at hGk
                   obtain ⟨gg, bg, hgv, hgc, hgd, hbg⟩ := hGk.getW hin
                   rw [hgv] at hgl
                   have hll := ST.out.hl.get hkK
                   obtain ⟨gl, bl, hlv, hlc, hld, hbl⟩ := (ST.out.rows k hkK).getW hin
                   rw [hlv] at hll
                   have i0 : (0 : Int) ≤ (i : Int) := by omega
                   have i1 : (i : Int) < (N : Int) := by omega
                   have i2 : (i : Int) < (n k : Int) := by omega
                   have b1 : k ≤ 100000 := by omega
                   have b2 : i ≤ 100000 := by omega
                   obtain ⟨x, hx, em, eu⟩ := mark_h k i b1 b2
                   rw [← hx] at hbg hbl
                   have HE := Zb.mk em
                   have HU := Zb.mk eu
                   have EI := Zb.mk (wrap_succ i b2)
                   have HHI := Zb.mk hi
                   clear em eu hx hN hi b1 b2 hGk hgv hlv hnk
                   have eu := True.intro
                   go_upto_region 41 with fail
                   refine start_ (n := 26) (S := fun w' => Below wr.heap.size wr w' ∧ w'.cell? ⟨G, k, none⟩ = some (.slice (some ⟨gg, 0, none⟩) N (cg k)) ∧ w'.cell? ⟨gg, i * 2, none⟩ = some (.bool false) ∧ w'.cell? ⟨gg, i * 2 + 1, none⟩ = some (.slice (some ⟨bg, 0, none⟩) 1 1) ∧ w'.cell? ⟨L, k, none⟩ = some (.slice (some ⟨gl, 0, none⟩) (n k) (c k)) ∧ w'.cell? ⟨gl, i * 2, none⟩ = some (.bool false) ∧ w'.cell? ⟨gl, i * 2 + 1, none⟩ = some (.slice (some ⟨bl, 0, none⟩) 1 1)) (ds := []) #[false, false, false, false, false, false, false, false, false, false, false, false, false, false, false, false, false, false, false, false, false, false, false, false, false, false] (by kernel_rfl) rfl rfl ⟨Zd (Below.refl _ _), hgl, hgc, hgd, hll, hlc, hld⟩ (fun hHeld => ?_)
                   refine ZM (i := 0) (N := some 167) (v := ?_) (a' := ?_) #[true, false, false, false, false, false, false, false, false, false, false, false, false, false, false, false, false, false, false, false, false, false, false, false, false, false] rfl rfl (by kernel_rfl) (fun _ _ _ h => h) (Or.inl ⟨by rfl, ?_⟩) ?_ ?_
                   rotate_left
                   ·intro w'
                    go_simp
                    with_reducible rfl
                   rotate_left
                   ·simp only [Act.put, List.setIfInBounds_toArray, List.set_cons_zero, List.set_cons_succ, Zx, ZA]
                    rfl
                   refine ZM (i := 1) (N := some 168) (v := ?_) (a' := ?_) #[true, true, false, false, false, false, false, false, false, false, false, false, false, false, false, false, false, false, false, false, false, false, false, false, false, false] rfl rfl (by kernel_rfl) (fun _ _ _ h => h) (Or.inl ⟨by rfl, ?_⟩) ?_ ?_
                   rotate_left
                   ·intro w'
                    go_simp
                    with_reducible rfl
                   rotate_left
                   ·simp only [Act.put, List.setIfInBounds_toArray, List.set_cons_zero, List.set_cons_succ, Zx, ZA]
                    rfl
                   refine ZM (i := 2) (N := some 169) (v := ?_) (a' := ?_) #[true, true, true, false, false, false, false, false, false, false, false, false, false, false, false, false, false, false, false, false, false, false, false, false, false, false] rfl rfl (by kernel_rfl) (fun _ _ _ h => h) (Or.inl ⟨by rfl, ?_⟩) ?_ ?_
                   rotate_left
                   ·intro w'
                    go_simp
                    with_reducible rfl
                   rotate_left
                   ·simp only [Act.put, List.setIfInBounds_toArray, List.set_cons_zero, List.set_cons_succ, Zx, ZA]
                    rfl
                   refine take_ (i := 3) (N := some 170) (v := ?_) (a' := ?_) #[true, true, true, true, false, false, false, false, false, false, false, false, false, false, false, false, false, false, false, false, false, false, false, false, false, false] rfl rfl (by kernel_rfl) (fun _ _ _ h => h) (Or.inl ⟨by rfl, ?_⟩) hHeld ?_ ?_
                   rotate_left
                   ·rintro w' ⟨sB, s0, s1, s2, s3, s4, s5⟩
                    go_simp
                    with_reducible rfl
                   rotate_left
                   ·simp only [Act.put, List.setIfInBounds_toArray, List.set_cons_zero, List.set_cons_succ, Zx, ZA]
                    rfl
                   refine ZM (i := 4) (N := some 171) (v := ?_) (a' := ?_) #[true, true, true, true, true, false, false, false, false, false, false, false, false, false, false, false, false, false, false, false, false, false, false, false, false, false] rfl rfl (by kernel_rfl) (fun _ _ _ h => h) (Or.inl ⟨by rfl, ?_⟩) ?_ ?_
                   rotate_left
                   ·intro w'
                    go_simp
                    with_reducible rfl
                   rotate_left
                   ·simp only [Act.put, List.setIfInBounds_toArray, List.set_cons_zero, List.set_cons_succ, Zx, ZA]
                    rfl
                   refine ZM (i := 5) (N := some 172) (v := ?_) (a' := ?_) #[true, true, true, true, true, true, false, false, false, false, false, false, false, false, false, false, false, false, false, false, false, false, false, false, false, false] rfl rfl (by kernel_rfl) (fun _ _ _ h => h) (Or.inl ⟨by rfl, ?_⟩) ?_ ?_
                   rotate_left
                   ·intro w'
                    go_simp
                    with_reducible rfl
                   rotate_left
                   ·simp only [Act.put, List.setIfInBounds_toArray, List.set_cons_zero, List.set_cons_succ, Zx, ZA]
                    rfl
                   refine take_ (i := 6) (N := some 173) (v := ?_) (a' := ?_) #[true, true, true, true, true, true, true, false, false, false, false, false, false, false, false, false, false, false, false, false, false, false, false, false, false, false] rfl rfl (by kernel_rfl) (fun _ _ _ h => h) (Or.inl ⟨by rfl, ?_⟩) hHeld ?_ ?_
                   rotate_left
                   ·rintro w' ⟨sB, s0, s1, s2, s3, s4, s5⟩
                    go_simp
                    with_reducible rfl
                   rotate_left
                   ·simp only [Act.put, List.setIfInBounds_toArray, List.set_cons_zero, List.set_cons_succ, Zx, ZA]
                    rfl
                   refine ZM (i := 7) (N := some 174) (v := ?_) (a' := ?_) #[true, true, true, true, true, true, true, true, false, false, false, false, false, false, false, false, false, false, false, false, false, false, false, false, false, false] rfl rfl (by kernel_rfl) (fun _ _ _ h => h) (Or.inl ⟨by rfl, ?_⟩) ?_ ?_
                   rotate_left
                   ·intro w'
                    go_simp
                    with_reducible rfl
                   rotate_left
                   ·simp only [Act.put, List.setIfInBounds_toArray, List.set_cons_zero, List.set_cons_succ, Zx, ZA]
                    rfl
                   refine ZM (i := 8) (N := some 175) (v := ?_) (a' := ?_) #[true, true, true, true, true, true, true, true, true, false, false, false, false, false, false, false, false, false, false, false, false, false, false, false, false, false] rfl rfl (by kernel_rfl) (fun _ _ _ h => h) (Or.inl ⟨by rfl, ?_⟩) ?_ ?_
                   rotate_left
                   ·intro w'
                    go_simp
                    with_reducible rfl
                   rotate_left
                   ·simp only [Act.put, List.setIfInBounds_toArray, List.set_cons_zero, List.set_cons_succ, Zx, ZA]
                    rfl
                   refine one_ (i := 9) (N := some 176) #[true, true, true, true, true, true, true, true, true, true, false, false, false, false, false, false, false, false, false, false, false, false, false, false, false, false] rfl rfl (by kernel_rfl) (by decide) (fun K_ hK_ => ?_)
                   refine goes_ Try.func126 (by kernel_rfl) rfl #[.int .i64 (k : Int), .int .i64 (i : Int)] (by rfl) rfl rfl (by (try simp only [List.map_toArray, List.map_cons, List.map_nil]); first | done | rfl) ?_
                   with_reducible refine (markInt_calls (k : Int) (i : Int) x _ HE.out HU.out).mono ?_
                   rintro ev w9_ ⟨b9_, rfl, hB9_, hk9_, hb9_⟩
                   refine ⟨_, rfl, ?_⟩
                   refine hK_.out _ _ ⟨Zl hHeld.1 hb9_, cb hb9_ hHeld.2.1, cb hb9_ hHeld.2.2.1, cb hb9_ hHeld.2.2.2.1, cb hb9_ hHeld.2.2.2.2.1, cb hb9_ hHeld.2.2.2.2.2.1, cb hb9_ hHeld.2.2.2.2.2.2⟩ (fun hHeld => ?_)
                   clear hK_ K_
                   refine norm_ (a' := ?_) ?_ ?_
                   rotate_left
                   ·show Act.put _ (some 176) _ = _
                    simp only [Act.put, List.setIfInBounds_toArray, List.set_cons_zero, List.set_cons_succ, Zx, ZA]
                    rfl
                   refine one_ (i := 10) (N := some 177) #[true, true, true, true, true, true, true, true, true, true, true, false, false, false, false, false, false, false, false, false, false, false, false, false, false, false] rfl rfl (by kernel_rfl) (by decide) (fun K_ hK_ => ?_)
                   refine goes_ Try.func19 (by kernel_rfl) rfl #[.agg #[.bool false, .slice (some ⟨bl, 0, none⟩) 1 1], .agg #[.bool false, .slice (some ⟨b9_, 0, none⟩) 1 1]] (by rfl) rfl rfl (by (try simp only [List.map_toArray, List.map_cons, List.map_nil]); first | done | rfl) ?_
                   with_reducible refine (same_calls ((hHeld.1.block bl (Zw hbl)).trans hbl) hk9_).mono ?_
                   rintro ev w10_ ⟨rfl, hb10_⟩
                   refine ⟨_, rfl, ?_⟩
                   refine hK_.out _ _ ⟨Zl hHeld.1 hb10_, cb hb10_ hHeld.2.1, cb hb10_ hHeld.2.2.1, cb hb10_ hHeld.2.2.2.1, cb hb10_ hHeld.2.2.2.2.1, cb hb10_ hHeld.2.2.2.2.2.1, cb hb10_ hHeld.2.2.2.2.2.2⟩ (fun hHeld => ?_)
                   clear hK_ K_
                   refine norm_ (a' := ?_) ?_ ?_
                   rotate_left
                   ·show Act.put _ (some 177) _ = _
                    simp only [Act.put, List.setIfInBounds_toArray, List.set_cons_zero, List.set_cons_succ, Zx, ZA]
                    rfl
                   refine ZM (i := 11) (N := some 178) (v := ?_) (a' := ?_) #[true, true, true, true, true, true, true, true, true, true, true, true, false, false, false, false, false, false, false, false, false, false, false, false, false, false] rfl rfl (by kernel_rfl) (fun _ _ _ h => h) (Or.inl ⟨by rfl, ?_⟩) ?_ ?_
                   rotate_left
                   ·intro w'
                    go_simp
                    with_reducible rfl
                   rotate_left
                   ·simp only [Act.put, List.setIfInBounds_toArray, List.set_cons_zero, List.set_cons_succ, Zx, ZA]
                    rfl
                   refine ZM (i := 12) (N := some 179) (v := ?_) (a' := ?_) #[true, true, true, true, true, true, true, true, true, true, true, true, true, false, false, false, false, false, false, false, false, false, false, false, false, false] rfl rfl (by kernel_rfl) (fun _ _ _ h => h) (Or.inl ⟨by rfl, ?_⟩) ?_ ?_
                   rotate_left
                   ·intro w'
                    go_simp
                    with_reducible rfl
                   rotate_left
                   ·simp only [Act.put, List.setIfInBounds_toArray, List.set_cons_zero, List.set_cons_succ, Zx, ZA]
                    rfl
                   refine ZM (i := 13) (N := some 180) (v := ?_) (a' := ?_) #[true, true, true, true, true, true, true, true, true, true, true, true, true, true, false, false, false, false, false, false, false, false, false, false, false, false] rfl rfl (by kernel_rfl) (fun _ _ _ h => h) (Or.inl ⟨by rfl, ?_⟩) ?_ ?_
                   rotate_left
                   ·intro w'
                    go_simp
                    with_reducible rfl
                   rotate_left
                   ·simp only [Act.put, List.setIfInBounds_toArray, List.set_cons_zero, List.set_cons_succ, Zx, ZA]
                    rfl
                   refine ZM (i := 14) (N := some 181) (v := ?_) (a' := ?_) #[true, true, true, true, true, true, true, true, true, true, true, true, true, true, true, false, false, false, false, false, false, false, false, false, false, false] rfl rfl (by kernel_rfl) (fun _ _ _ h => h) (Or.inl ⟨by rfl, ?_⟩) ?_ ?_
                   rotate_left
                   ·intro w'
                    go_simp
                    with_reducible rfl
                   rotate_left
                   ·simp only [Act.put, List.setIfInBounds_toArray, List.set_cons_zero, List.set_cons_succ, Zx, ZA]
                    rfl
                   refine ZM (i := 15) (N := some 182) (v := ?_) (a' := ?_) #[true, true, true, true, true, true, true, true, true, true, true, true, true, true, true, true, false, false, false, false, false, false, false, false, false, false] rfl rfl (by kernel_rfl) (fun _ _ _ h => h) (Or.inl ⟨by rfl, ?_⟩) ?_ ?_
                   rotate_left
                   ·intro w'
                    go_simp
                    with_reducible rfl
                   rotate_left
                   ·simp only [Act.put, List.setIfInBounds_toArray, List.set_cons_zero, List.set_cons_succ, Zx, ZA]
                    rfl
                   refine take_ (i := 16) (N := some 183) (v := ?_) (a' := ?_) #[true, true, true, true, true, true, true, true, true, true, true, true, true, true, true, true, true, false, false, false, false, false, false, false, false, false] rfl rfl (by kernel_rfl) (fun _ _ _ h => h) (Or.inl ⟨by rfl, ?_⟩) hHeld ?_ ?_
                   rotate_left
                   ·rintro w' ⟨sB, s0, s1, s2, s3, s4, s5⟩
                    go_simp
                    with_reducible rfl
                   rotate_left
                   ·simp only [Act.put, List.setIfInBounds_toArray, List.set_cons_zero, List.set_cons_succ, Zx, ZA]
                    rfl
                   refine ZM (i := 17) (N := some 184) (v := ?_) (a' := ?_) #[true, true, true, true, true, true, true, true, true, true, true, true, true, true, true, true, true, true, false, false, false, false, false, false, false, false] rfl rfl (by kernel_rfl) (fun _ _ _ h => h) (Or.inl ⟨by rfl, ?_⟩) ?_ ?_
                   rotate_left
                   ·intro w'
                    go_simp
                    with_reducible rfl
                   rotate_left
                   ·simp only [Act.put, List.setIfInBounds_toArray, List.set_cons_zero, List.set_cons_succ, Zx, ZA]
                    rfl
                   refine ZM (i := 18) (N := some 185) (v := ?_) (a' := ?_) #[true, true, true, true, true, true, true, true, true, true, true, true, true, true, true, true, true, true, true, false, false, false, false, false, false, false] rfl rfl (by kernel_rfl) (fun _ _ _ h => h) (Or.inl ⟨by rfl, ?_⟩) ?_ ?_
                   rotate_left
                   ·intro w'
                    go_simp
                    with_reducible rfl
                   rotate_left
                   ·simp only [Act.put, List.setIfInBounds_toArray, List.set_cons_zero, List.set_cons_succ, Zx, ZA]
                    rfl
                   refine take_ (i := 19) (N := some 186) (v := ?_) (a' := ?_) #[true, true, true, true, true, true, true, true, true, true, true, true, true, true, true, true, true, true, true, true, false, false, false, false, false, false] rfl rfl (by kernel_rfl) (fun _ _ _ h => h) (Or.inl ⟨by rfl, ?_⟩) hHeld ?_ ?_
                   rotate_left
                   ·rintro w' ⟨sB, s0, s1, s2, s3, s4, s5⟩
                    go_simp
                    with_reducible rfl
                   rotate_left
                   ·simp only [Act.put, List.setIfInBounds_toArray, List.set_cons_zero, List.set_cons_succ, Zx, ZA]
                    rfl
                   refine ZM (i := 20) (N := some 187) (v := ?_) (a' := ?_) #[true, true, true, true, true, true, true, true, true, true, true, true, true, true, true, true, true, true, true, true, true, false, false, false, false, false] rfl rfl (by kernel_rfl) (fun _ _ _ h => h) (Or.inl ⟨by rfl, ?_⟩) ?_ ?_
                   rotate_left
                   ·intro w'
                    go_simp
                    with_reducible rfl
                   rotate_left
                   ·simp only [Act.put, List.setIfInBounds_toArray, List.set_cons_zero, List.set_cons_succ, Zx, ZA]
                    rfl
                   refine ZM (i := 21) (N := some 188) (v := ?_) (a' := ?_) #[true, true, true, true, true, true, true, true, true, true, true, true, true, true, true, true, true, true, true, true, true, true, false, false, false, false] rfl rfl (by kernel_rfl) (fun _ _ _ h => h) (Or.inl ⟨by rfl, ?_⟩) ?_ ?_
                   rotate_left
                   ·intro w'
                    go_simp
                    with_reducible rfl
                   rotate_left
                   ·simp only [Act.put, List.setIfInBounds_toArray, List.set_cons_zero, List.set_cons_succ, Zx, ZA]
                    rfl
                   refine one_ (i := 22) (N := some 189) #[true, true, true, true, true, true, true, true, true, true, true, true, true, true, true, true, true, true, true, true, true, true, true, false, false, false] rfl rfl (by kernel_rfl) (by decide) (fun K_ hK_ => ?_)
                   refine goes_ Try.func126 (by kernel_rfl) rfl #[.int .i64 (k : Int), .int .i64 (i : Int)] (by rfl) rfl rfl (by (try simp only [List.map_toArray, List.map_cons, List.map_nil]); first | done | rfl) ?_
                   with_reducible refine (markInt_calls (k : Int) (i : Int) x _ HE.out HU.out).mono ?_
                   rintro ev w22_ ⟨b22_, rfl, hB22_, hk22_, hb22_⟩
                   refine ⟨_, rfl, ?_⟩
                   refine hK_.out _ _ ⟨Zl hHeld.1 hb22_, cb hb22_ hHeld.2.1, cb hb22_ hHeld.2.2.1, cb hb22_ hHeld.2.2.2.1, cb hb22_ hHeld.2.2.2.2.1, cb hb22_ hHeld.2.2.2.2.2.1, cb hb22_ hHeld.2.2.2.2.2.2⟩ (fun hHeld => ?_)
                   clear hK_ K_
                   refine norm_ (a' := ?_) ?_ ?_
                   rotate_left
                   ·show Act.put _ (some 189) _ = _
                    simp only [Act.put, List.setIfInBounds_toArray, List.set_cons_zero, List.set_cons_succ, Zx, ZA]
                    rfl
                   refine one_ (i := 23) (N := some 190) #[true, true, true, true, true, true, true, true, true, true, true, true, true, true, true, true, true, true, true, true, true, true, true, true, false, false] rfl rfl (by kernel_rfl) (by decide) (fun K_ hK_ => ?_)
                   refine goes_ Try.func19 (by kernel_rfl) rfl #[.agg #[.bool false, .slice (some ⟨bg, 0, none⟩) 1 1], .agg #[.bool false, .slice (some ⟨b22_, 0, none⟩) 1 1]] (by rfl) rfl rfl (by (try simp only [List.map_toArray, List.map_cons, List.map_nil]); first | done | rfl) ?_
                   with_reducible refine (same_calls ((hHeld.1.block bg (Zw hbg)).trans hbg) hk22_).mono ?_
                   rintro ev w23_ ⟨rfl, hb23_⟩
                   refine ⟨_, rfl, ?_⟩
                   refine hK_.out _ _ ⟨Zl hHeld.1 hb23_, cb hb23_ hHeld.2.1, cb hb23_ hHeld.2.2.1, cb hb23_ hHeld.2.2.2.1, cb hb23_ hHeld.2.2.2.2.1, cb hb23_ hHeld.2.2.2.2.2.1, cb hb23_ hHeld.2.2.2.2.2.2⟩ (fun hHeld => ?_)
                   clear hK_ K_
                   refine norm_ (a' := ?_) ?_ ?_
                   rotate_left
                   ·show Act.put _ (some 190) _ = _
                    simp only [Act.put, List.setIfInBounds_toArray, List.set_cons_zero, List.set_cons_succ, Zx, ZA]
                    rfl
                   refine ZM (i := 24) (N := some 191) (v := ?_) (a' := ?_) #[true, true, true, true, true, true, true, true, true, true, true, true, true, true, true, true, true, true, true, true, true, true, true, true, true, false] rfl rfl (by kernel_rfl) (fun _ _ _ h => h) (Or.inl ⟨by rfl, ?_⟩) ?_ ?_
                   rotate_left
                   ·intro w'
                    go_simp
                    with_reducible rfl
                   rotate_left
                   ·simp only [Act.put, List.setIfInBounds_toArray, List.set_cons_zero, List.set_cons_succ, Zx, ZA]
                    rfl
                   refine ZM (i := 25) (N := some 192) (v := ?_) (a' := ?_) #[true, true, true, true, true, true, true, true, true, true, true, true, true, true, true, true, true, true, true, true, true, true, true, true, true, true] rfl rfl (by kernel_rfl) (fun _ _ _ h => h) (Or.inl ⟨by rfl, ?_⟩) ?_ ?_
                   rotate_left
                   ·intro w'
                    go_simp
                    with_reducible rfl
                   rotate_left
                   ·simp only [Act.put, List.setIfInBounds_toArray, List.set_cons_zero, List.set_cons_succ, Zx, ZA]
                    rfl
                   refine done_ (by kernel_rfl) ?_
                   have hfin := hHeld.1
                   clear eu
                   have ei : ∀ j : Int, j = (i : Int) → wrap64 (j + 1) = ((i + 1 : Nat) : Int) := by rintro j rfl; exact EI.out
                   go_wp2_with fail
                   clear ei
                   have hi := HHI.out
                   go_roundg k2
                   case measure => omega
                   case rel => exact ⟨i + 1, ⟨by omega, by omega⟩, (by first | rfl | exact congrArg (Value.int .i64) EI.out), ⟨ST.out.below hfin⟩, ⟨HG.out.below hfin⟩⟩
                  ·have hie : i = n k := by omega
                   subst hie
                   have cci : decide ((n k : Int) < (n k : Int)) = false := decide_eq_false (by omega)
                   have hll := ST.out.hl.get hkK
                   obtain ⟨Al, hlv⟩ := (ST.out.rows k hkK).val
                   rw [hlv] at hll
                   have ek := wrap_succ k (by omega)
                   go_wp2_with fail
                   have EK := Zb.mk ek
                   clear ek
                   go_roundg k1
                   case measure => omega
                   case rel => exact ⟨k + 1, ⟨by omega, by omega⟩, (by first | rfl | exact congrArg (Value.int .i64) EK.out), ST, HG⟩
               ·have hkE : K = k := by omega
                subst hkE
                have cc : decide ((K : Int) < (K : Int)) = false := decide_eq_false (by omega)
                go_wp2_with fail
                go_ret
                exact ⟨rfl, O1, ST.out.mv⟩
end Go.Proofs.Ytbmddlldadbfnaa.BS
end
section
namespace Go.Proofs.Ytbmddlldadbfnaa.BS
open Go.Proofs.Ytbmddlldadbfnaa.BM (w64 u64)
open Go.RowKit Go.Proofs.Ytbmddlldadbfnaa.BA Go.Proofs.Ytbmddlldadbfnaa.BB Go.Proofs.YtbmddlldadbfnaaW.PrintWords Go.Proofs.YtbmddlldadbfnaaW.PrintLast Go.Proofs.YtbmddlldadbfnaaW.PrintMore
attribute [local go_sem] ZU ZS max_two min_two ZP ZO ZT ZR
set_option linter.unusedVariables false
set_option linter.unusedSimpArgs false
def bagCells (lv wv : Value) : Array Value := #[lv, .slice none 0 0, .slice none 0 0, .slice none 0 0, .slice none 0 0, .slice none 0 0, .slice none 0 0, wv, .slice none 0 0, .slice none 0 0, .slice none 0 0, .slice none 0 0, .slice none 0 0, .slice none 0 0]
structure BagIs (w : World) (base B : Nat) (lv wv : Value) (xs ys : List Value) : Prop where
 blk : w.heap[B]? = some (.cells (bagCells lv wv) 101 (0, 0))
 hB : base ≤ B
 lim : w.ownsRow base 22 1 lv xs.length xs
 who : w.ownsRow base 55 1 wv ys.length ys
theorem owns_keep {w w' : World} {base n s : Nat} {e : TypeId} {v : Value} {xs : List Value} (h : w.ownsRow base e s v n xs) (hb : ∀ g, v.ownBlock = some g → w'.heap[g]? = w.heap[g]?) : w'.ownsRow base e s v n xs := by
 obtain ⟨h1, h2⟩ := h
 refine ⟨h1, ?_⟩
 rcases h2 with h2 | ⟨g, cap, cur, rfl, h3, h4, h5⟩
 ·exact .inl h2
 ·exact .inr ⟨g, cap, cur, rfl, h3, (hb g rfl).trans h4, h5⟩
theorem owns_block {w : World} {base n s : Nat} {e : TypeId} {v : Value} {xs : List Value} (h : w.ownsRow base e s v n xs) {g : Nat} (hg : v.ownBlock = some g) : base ≤ g ∧ g < w.heap.size ∧ ∃ c, w.heap[g]? = some (.cells c e (0, 0)) := by
 rcases h.2 with ⟨rfl, _⟩ | ⟨g', cap, cur, rfl, h3, h4, h5⟩
 ·cases hg
 ·cases hg
  exact ⟨h3, Zw h4, cur, h4⟩
theorem owns_val {w : World} {base n s : Nat} {e : TypeId} {v : Value} {xs : List Value} (h : w.ownsRow base e s v n xs) : ∃ A c, v = .slice A n c := by
 rcases h.2 with ⟨rfl, rfl⟩ | ⟨g', cap, cur, rfl, h3, h4, h5⟩
 ·exact ⟨_, _, rfl⟩
 ·exact ⟨_, _, rfl⟩
namespace BagIs
theorem keptL {w w' : World} {base B : Nat} {lv wv : Value} {xs ys : List Value} (h : BagIs w base B lv wv xs ys) (hg : w.grownBy w' lv.ownBlock) : w'.heap[B]? = some (.cells (bagCells lv wv) 101 (0, 0)) := by
 refine (hg.block B (Zw h.blk) (fun e => ?_)).trans h.blk
 obtain ⟨_, _, c, hc⟩ := owns_block h.lim e.symm
 rw [h.blk] at hc
 injection hc with hc
 injection hc with _ hc
 cases hc
theorem keptW {w w' : World} {base B : Nat} {lv wv : Value} {xs ys : List Value} (h : BagIs w base B lv wv xs ys) (hg : w.grownBy w' wv.ownBlock) : w'.heap[B]? = some (.cells (bagCells lv wv) 101 (0, 0)) := by
 refine (hg.block B (Zw h.blk) (fun e => ?_)).trans h.blk
 obtain ⟨_, _, c, hc⟩ := owns_block h.who e.symm
 rw [h.blk] at hc
 injection hc with hc
 injection hc with _ hc
 cases hc
variable {w w' : World} {base B : Nat} {lv wv lv' wv' : Value} {xs ys xs' ys' : List Value}
theorem below (h : BagIs w base B lv wv xs ys) (hb : Below w.heap.size w w') : BagIs w' base B lv wv xs ys :=
 ⟨Zn h.blk hb, h.hB, owns_keep h.lim fun g hg => hb.block g (owns_block h.lim hg).2.1, owns_keep h.who fun g hg => hb.block g (owns_block h.who hg).2.1⟩
theorem putL (h : BagIs w base B lv wv xs ys) (hg : w.grownBy w' lv.ownBlock) (ho : w'.ownsRow base 22 1 lv' xs'.length xs') : BagIs (w'.setCell ⟨B, 0, none⟩ lv') base B lv' wv xs' ys := by
 have hne : ∀ g, lv.ownBlock = some g → B ≠ g := by
  rintro g hg rfl
  obtain ⟨_, _, c, hc⟩ := owns_block h.lim hg
  rw [h.blk] at hc
  injection hc with hc
  injection hc with _ hc
  cases hc
 have hB' : w'.heap[B]? = some (.cells (bagCells lv wv) 101 (0, 0)) := (hg.block B (Zw h.blk) (fun e => hne B e.symm rfl)).trans h.blk
 refine ⟨Zu hB' 0 lv' rfl, h.hB, owns_keep ho fun g hg' => Below.heap_setCell w' ⟨B, 0, none⟩ lv' g ?_, owns_keep h.who fun g hg' => ?_⟩
 ·rintro rfl
  obtain ⟨_, _, c, hc⟩ := owns_block ho hg'
  rw [hB'] at hc
  injection hc with hc
  injection hc with _ hc
  cases hc
 ·obtain ⟨_, hlt, c, hc⟩ := owns_block h.who hg'
  refine (Below.heap_setCell w' ⟨B, 0, none⟩ lv' g ?_).trans (hg.block g hlt (fun e => ?_))
  ·rintro rfl
   rw [h.blk] at hc
   injection hc with hc
   injection hc with _ hc
   cases hc
  ·obtain ⟨_, _, c', hc'⟩ := owns_block h.lim e.symm
   rw [hc'] at hc
   injection hc with hc
   injection hc with _ hc
   cases hc
theorem putW (h : BagIs w base B lv wv xs ys) (hg : w.grownBy w' wv.ownBlock) (ho : w'.ownsRow base 55 1 wv' ys'.length ys') : BagIs (w'.setCell ⟨B, 7, none⟩ wv') base B lv wv' xs ys' := by
 have hne : ∀ g, wv.ownBlock = some g → B ≠ g := by
  rintro g hg rfl
  obtain ⟨_, _, c, hc⟩ := owns_block h.who hg
  rw [h.blk] at hc
  injection hc with hc
  injection hc with _ hc
  cases hc
 have hB' : w'.heap[B]? = some (.cells (bagCells lv wv) 101 (0, 0)) := (hg.block B (Zw h.blk) (fun e => hne B e.symm rfl)).trans h.blk
 refine ⟨Zu hB' 7 wv' rfl, h.hB, owns_keep h.lim fun g hg' => ?_, owns_keep ho fun g hg' => Below.heap_setCell w' ⟨B, 7, none⟩ wv' g ?_⟩
 ·obtain ⟨_, hlt, c, hc⟩ := owns_block h.lim hg'
  refine (Below.heap_setCell w' ⟨B, 7, none⟩ wv' g ?_).trans (hg.block g hlt (fun e => ?_))
  ·rintro rfl
   rw [h.blk] at hc
   injection hc with hc
   injection hc with _ hc
   cases hc
  ·obtain ⟨_, _, c', hc'⟩ := owns_block h.who e.symm
   rw [hc'] at hc
   injection hc with hc
   injection hc with _ hc
   cases hc
 ·rintro rfl
  obtain ⟨_, _, c, hc⟩ := owns_block ho hg'
  rw [hB'] at hc
  injection hc with hc
  injection hc with _ hc
  cases hc
end BagIs
theorem info22' : (Try.prog.info? 22).map (fun i => (i.zero, i.size, i.bytes)) = some (some (.slice none 0 0), 1, 24) := by kernel_rfl
theorem one_cells22 (w : World) (x : Value) (t : TypeId) : ∀ j u, [x][j]? = some u → (w.alloc (.cells #[x] t)).cell? (Addr.add ⟨w.heap.size, 0, none⟩ j) = some u := by
 rintro (_ | j) u hu
 ·injection hu with hu
  rw [← hu]
  exact cell_one_new w _ t 0 _ rfl
 ·cases hu
set_option maxHeartbeats 4000000 in
set_option maxRecDepth 100000 in
theorem putLimbs_calls {base B : Nat} {lv wv : Value} {xs ys : List Value} {A : Option Addr} {n c : Nat} {w : World} (hb : BagIs w base B lv wv xs ys) (hsz : base ≤ w.heap.size) (hlen : xs.length ≤ 1000) :
  Calls Try.prog 123 #[.pointer (some ⟨B, 0, none⟩), .slice A n c] w fun e w' => e = .returned (.tuple #[]) ∧ ∃ lv', BagIs w' base B lv' wv (xs ++ [.slice A n c]) ys ∧ Below base w w' := by
 have HB := Zb.mk hb
 have hu101 := Try.underlying101
 have hc0 : w.cell? ⟨B, 0, none⟩ = some lv := (Zk hb.blk 0).trans rfl
 have ne0 := World.new_ne w _ hc0
 obtain ⟨i0, hi0, hz0, hsz0, hby0⟩ := info_parts info22'
 clear hb
 go_enter Try.func123, Try.ntmps123
 have HB1 := Zb.mk (HB.out.below (Zc (Below.refl w.heap.size w) (.cells #[.slice A n c] 22)))
 go_wp2_with ((with_reducible refine gate_builtin (b := .append) (xs := #[.tmp 8, .tmp 10]) rfl ?_); at_builtin; refine wpList_append_own _ rfl _ _ 87 rfl base 22 i0 (.slice none 0 0) 1 24 Try.underlying87 hi0 hz0 hsz0 hby0 rfl Nat.one_pos lv xs.length xs rfl HB1.out.lim ⟨w.heap.size, 0, none⟩ 1 1 [.slice A n c] rfl rfl (one_cells22 _ _ _) ?s2 ?s3 ?s4 ?s5 ?_)
 case s2 => rfl
 case s3 => simp only [maxLen]; omega
 case s4 => omega
 case s5 => exact Nat.le_trans hsz (Nat.le_succ _)
 intro v' w' hown hg _
 obtain ⟨A', c', rfl⟩ := owns_val hown
 have hk := HB1.out.keptL hg
 have hc1 : w'.cell? ⟨B, 0, none⟩ = some lv := (Zk hk 0).trans rfl
 have hf1 := Zj hk 0
 have HP := Zb.mk (HB1.out.putL (lv' := .slice A' (xs.length + 1) c') (xs' := xs ++ [.slice A n c]) hg (by rw [List.length_append]; exact hown))
 have HBL := Zb.mk (show Below base w w' from ((Zc (Below.refl w.heap.size w) (.cells #[.slice A n c] 22)).mono hsz).grown hg (Nat.le_trans hsz (Zc (Below.refl w.heap.size w) _).size) (fun k hk => (owns_block HB1.out.lim hk).1))
 clear hown hk
 go_wp2_with fail
 refine bodyPost_end (results_none rfl _ _ _) rfl ?_
 exact ⟨rfl, _, HP.out, HBL.out.setCell HB1.out.hB _⟩
set_option maxHeartbeats 4000000 in
set_option maxRecDepth 100000 in
theorem oneInt_calls {base B : Nat} {lv wv : Value} {xs ys : List Value} {ng : Bool} {A : Option Addr} {n c : Nat} {w : World} (hb : BagIs w base B lv wv xs ys) (hsz : base ≤ w.heap.size) (hlen : xs.length ≤ 1000) :
  Calls Try.prog 95 #[.pointer (some ⟨B, 0, none⟩), .agg #[.bool ng, .slice A n c]] w fun e w' => e = .returned (.tuple #[]) ∧ ∃ lv', BagIs w' base B lv' wv (xs ++ [.slice A n c]) ys ∧ Below base w w' := by
 have HB := Zb.mk hb
 have hu24 := Try.underlying24
 clear hb
 go_enter Try.func95, Try.ntmps95
 go_wp2_with fail
 refine (putLimbs_calls (HB.out.below (Zc (Below.refl w.heap.size w) _)) (Nat.le_trans hsz (Zc (Below.refl w.heap.size w) _).size) hlen).mono ?_
 rintro ev w' ⟨rfl, lv', hb', hbel⟩
 have HP := Zb.mk hb'
 have HQ := Zb.mk (((Zc (Below.refl w.heap.size w) _).mono hsz).trans hbel)
 clear hb' hbel
 go_wp2_with fail
 refine bodyPost_end (results_none rfl _ _ _) rfl ?_
 exact ⟨rfl, _, HP.out, HQ.out⟩
theorem info55' : (Try.prog.info? 55).map (fun i => (i.zero, i.size, i.bytes)) = some (some (.slice none 0 0), 1, 24) := by kernel_rfl
set_option maxHeartbeats 4000000 in
set_option maxRecDepth 100000 in
theorem putWholes_calls {base B R : Nat} {lv wv : Value} {xs ys : List Value} {ng : Bool} {A : Option Addr} {n c : Nat} {w : World} (hb : BagIs w base B lv wv xs ys) (hsz : base ≤ w.heap.size) (hlen : xs.length ≤ 1000) (hlen2 : ys.length ≤ 1000) (hR : R < base) (hr : w.heap[R]? = some (.cells #[.bool ng, .slice A n c] 24 (0, 0))) :
  Calls Try.prog 64 #[.pointer (some ⟨B, 0, none⟩), .slice (some ⟨R, 0, none⟩) 1 1] w fun e w' => e = .returned (.tuple #[]) ∧ ∃ lv' wv', BagIs w' base B lv' wv' (xs ++ [.slice A n c]) (ys ++ [.slice (some ⟨R, 0, none⟩) 1 1]) ∧ Below base w w' := by
 have HB := Zb.mk hb
 have hu101 := Try.underlying101
 have hu24 := Try.underlying24
 have hc0 : w.cell? ⟨B, 7, none⟩ = some wv := (Zk hb.blk 7).trans rfl
 have ne0 := World.new_ne w _ hc0
 obtain ⟨i0, hi0, hz0, hsz0, hby0⟩ := info_parts info55'
 have HR := Zb.mk hr
 clear hb hr
 go_enter Try.func64, Try.ntmps64
 have HB1 := Zb.mk (HB.out.below (Zc (Below.refl w.heap.size w) (.cells #[.slice (some ⟨R, 0, none⟩) 1 1] 55)))
 go_wp2_with ((with_reducible refine gate_builtin (b := .append) (xs := #[.tmp 9, .tmp 11]) rfl ?_); at_builtin; refine wpList_append_own _ rfl _ _ 56 rfl base 55 i0 (.slice none 0 0) 1 24 Try.underlying56 hi0 hz0 hsz0 hby0 rfl Nat.one_pos wv ys.length ys rfl HB1.out.who ⟨w.heap.size, 0, none⟩ 1 1 [.slice (some ⟨R, 0, none⟩) 1 1] rfl rfl (one_cells22 _ _ _) ?s2 ?s3 ?s4 ?s5 ?_)
 case s2 => rfl
 case s3 => simp only [maxLen]; omega
 case s4 => omega
 case s5 => exact Nat.le_trans hsz (Nat.le_succ _)
 intro v' w' hown hg _
 obtain ⟨A', c', rfl⟩ := owns_val hown
 have hk := HB1.out.keptW hg
 have hc1 : w'.cell? ⟨B, 7, none⟩ = some wv := (Zk hk 7).trans rfl
 have hf1 := Zj hk 7
 have HP := Zb.mk (HB1.out.putW (wv' := .slice A' (ys.length + 1) c') (ys' := ys ++ [.slice (some ⟨R, 0, none⟩) 1 1]) hg (by rw [List.length_append]; exact hown))
 have HBL := Zb.mk (show Below base w (w'.setCell ⟨B, 7, none⟩ (.slice A' (ys.length + 1) c')) from (((Zc (Below.refl w.heap.size w) (.cells #[.slice (some ⟨R, 0, none⟩) 1 1] 55)).mono hsz).grown hg (Nat.le_trans hsz (Zc (Below.refl w.heap.size w) _).size) (fun k hk => (owns_block HB1.out.who hk).1)).setCell HB1.out.hB _)
 clear hown hk
 go_wp2_with fail
 go_loopg [4] 2 (fun kq v4 w2 => ∃ i : Nat, (i + kq = 2 ∧ i ≤ 1) ∧ v4 = .int .i64 (i : Int) ∧ Zb (∃ lv', BagIs w2 base B lv' (.slice A' (ys.length + 1) c') (if i = 0 then xs else xs ++ [.slice A n c]) (ys ++ [.slice (some ⟨R, 0, none⟩) 1 1])) ∧ Zb (Below base w w2))
 case atStart => exact ⟨0, ⟨rfl, by decide⟩, rfl, ⟨_, HP.out⟩, HBL⟩
 case round =>
  clear HP HBL
  obtain ⟨i, hi, rfl, HP, HBL⟩ := hrel
  cases gk with
  | zero => exact absurd hi (by omega)
  | succ k1 =>
   by_cases hi1 : i = 0
   ·subst hi1
    obtain ⟨lv1, hP⟩ := HP.out
    have hP' : BagIs wr base B lv1 (.slice A' (ys.length + 1) c') xs (ys ++ [.slice (some ⟨R, 0, none⟩) 1 1]) := hP
    have hrr : wr.heap[R]? = some (.cells #[.bool ng, .slice A n c] 24 (0, 0)) := (HBL.out.block R hR).trans HR.out
    have hx0 : wr.cell? ⟨R, 0, none⟩ = some (.bool ng) := (Zk hrr 0).trans rfl
    have hx1 : wr.cell? ⟨R, 1, none⟩ = some (.slice A n c) := (Zk hrr 1).trans rfl
    have hszr := Nat.le_trans hsz HBL.out.size
    have e1 : wrap64 ((0 : Int) + 1) = 1 := w64 (by decide) (by decide)
    go_wp2_with fail
    refine (oneInt_calls hP' hszr hlen).mono ?_
    rintro ev w5 ⟨rfl, lv5, hb5, hbel⟩
    have HP5 := Zb.mk hb5
    have HB5 := Zb.mk (HBL.out.trans hbel)
    clear hb5 hbel hP hP'
    go_wp2_with fail
    go_roundg k1
    case measure => omega
    case rel => exact ⟨1, ⟨by omega, by decide⟩, by first | rfl | exact congrArg (Value.int .i64) e1, ⟨lv5, HP5.out⟩, HB5⟩
   ·have hi2 : i = 1 := by omega
    subst hi2
    obtain ⟨lv1, hP⟩ := HP.out
    have HPP := Zb.mk (show BagIs wr base B lv1 (.slice A' (ys.length + 1) c') (xs ++ [.slice A n c]) (ys ++ [.slice (some ⟨R, 0, none⟩) 1 1]) from hP)
    clear hP
    go_wp2_with fail
    refine bodyPost_end (results_none rfl _ _ _) rfl ?_
    exact ⟨rfl, _, _, HPP.out, HBL.out⟩
end Go.Proofs.Ytbmddlldadbfnaa.BS
end

/- Part of the proof that what is read twice of the text of a number of at most 40 limbs lies apart, spare room and all, and what is read a third time is what was read first. -/
import Derived.Deep.OwnRows
import Derived.ArgAppend
import Derived.Lib.LazyBuf
import Derived.Test.YtbmddlldadbfnaaCG9
section
namespace Go.Proofs.Ytbmddlldadbfnaa.BS
open Go.RowKit Go.Proofs.Ytbmddlldadbfnaa.BA Go.Proofs.Ytbmddlldadbfnaa.BB Go.Proofs.YtbmddlldadbfnaaW.PrintWords Go.Proofs.YtbmddlldadbfnaaW.PrintLast Go.Proofs.YtbmddlldadbfnaaW.PrintMore
set_option linter.unusedVariables false
set_option linter.unusedSimpArgs false
structure Mv (S : Option Nat → Prop) (O : Nat → Option Nat) (w : World) (O' : Nat → Option Nat) (w' : World) : Prop where
 os : w'.os = w.os
 tape : w'.tape = w.tape
 output : w'.output = w.output
 size : w.heap.size ≤ w'.heap.size
 own : ∀ k, k < w.heap.size → O' k = O k
 block : ∀ k, k < w.heap.size → ¬ S (O k) → w'.heap[k]? = w.heap[k]?
namespace Mv
variable {S : Option Nat → Prop} {O O' O'' : Nat → Option Nat} {a w w' : World}
theorem refl (S : Option Nat → Prop) (O : Nat → Option Nat) (w : World) : Mv S O w O w := ⟨rfl, rfl, rfl, Nat.le_refl _, fun _ _ => rfl, fun _ _ _ => rfl⟩
theorem trans (h : Mv S O a O' w) (k : Mv S O' w O'' w') : Mv S O a O'' w' :=
 ⟨k.os.trans h.os, k.tape.trans h.tape, k.output.trans h.output, Nat.le_trans h.size k.size, fun i hi => (k.own i (Nat.lt_of_lt_of_le hi h.size)).trans (h.own i hi), fun i hi hS => (k.block i (Nat.lt_of_lt_of_le hi h.size) (by rw [h.own i hi]; exact hS)).trans (h.block i hi hS)⟩
theorem of_below (S : Option Nat → Prop) (O : Nat → Option Nat) (h : Below w.heap.size w w') : Mv S O w O w' := ⟨h.os, h.tape, h.output, h.size, fun _ _ => rfl, fun k hk _ => h.block k hk⟩
theorem below (h : Mv S O a O' w) (k : Below w.heap.size w w') : Mv S O a O' w' := h.trans (of_below S O' k)
theorem mono {S' : Option Nat → Prop} (h : Mv S O a O' w) (hS : ∀ x, S x → S' x) : Mv S' O a O' w := ⟨h.os, h.tape, h.output, h.size, h.own, fun k hk hn => h.block k hk (fun hs => hn (hS _ hs))⟩
theorem setCell (S : Option Nat → Prop) (O : Nat → Option Nat) (w : World) {b : Nat} (p : Nat) (u : Value) (hb : S (O b)) : Mv S O w O (w.setCell ⟨b, p, none⟩ u) :=
 ⟨rfl, rfl, rfl, by simp [World.setCell], fun _ _ => rfl, fun k hk hS => Below.heap_setCell w ⟨b, p, none⟩ u k (by rintro rfl; exact hS hb)⟩
theorem setCells (S : Option Nat → Prop) (O : Nat → Option Nat) {b : Nat} (hb : S (O b)) : ∀ (vs : List Value) (o : Nat) (w : World), Mv S O w O (w.setCells b o vs)
 | [], _, w => refl S O w
 | v :: r, o, w => (setCell S O w o v hb).trans (setCells S O hb r (o + 1) _)
theorem of_grown (S : Option Nat → Prop) (O : Nat → Option Nat) {O' : Nat → Option Nat} (hg : w.grownBy w' none) (hO : ∀ k, k < w.heap.size → O' k = O k) : Mv S O w O' w' :=
 ⟨hg.os, hg.tape, hg.output, hg.size, hO, fun k hk _ => hg.block k hk (fun h => by cases h)⟩
theorem owned (h : Mv S O a O' w) (O'' : Nat → Option Nat) (hO : ∀ k, k < a.heap.size → O'' k = O' k) : Mv S O a O'' w := ⟨h.os, h.tape, h.output, h.size, fun k hk => (hO k hk).trans (h.own k hk), h.block⟩
theorem to_below {B : Nat} (h : Mv S O a O' w) (hB : B ≤ a.heap.size) (hS : ∀ k, k < a.heap.size → S (O k) → B ≤ k) : Below B a w := ⟨h.os, h.tape, h.output, h.size, fun k hk => h.block k (by omega) (fun hs => by have := hS k (by omega) hs; omega)⟩
end Mv
def own (O : Nat → Option Nat) (B : Nat) (q : Option Nat) : Nat → Option Nat := fun b => if b < B then O b else q
theorem own_lt {O : Nat → Option Nat} {B b : Nat} {q : Option Nat} (h : b < B) : own O B q b = O b := if_pos h
theorem own_ge {O : Nat → Option Nat} {B b : Nat} {q : Option Nat} (h : B ≤ b) : own O B q b = q := if_neg (by omega)
def mk (k i : Nat) : Int := 1000003 * ((k : Int) + 7) + (i : Int)
structure El where
 e : TypeId
 size : Nat
 ok : World → (Nat → Option Nat) → Nat → Nat → (Nat → Value) → Prop
 pos : 0 < size
 stay : ∀ {S : Option Nat → Prop} {w w' : World} {O O' : Nat → Option Nat} {k i : Nat} {f : Nat → Value}, Mv S O w O' w' → ¬ S none → ok w O k i f → ok w' O' k i f
 congr : ∀ {w : World} {O : Nat → Option Nat} {k i : Nat} {f g : Nat → Value}, (∀ j, j < size → f j = g j) → ok w O k i f → ok w O k i g
def EL : El where
 e := 46
 size := 1
 ok := fun _ _ k i f => f 0 = .int .u64 (mk k i)
 pos := Nat.one_pos
 stay := fun _ _ h => h
 congr := fun h h' => (h 0 Nat.one_pos).symm.trans h'
def EW : El where
 e := 24
 size := 2
 ok := fun w O k i f => f 0 = .bool false ∧ ∃ b, f 1 = .slice (some ⟨b, 0, none⟩) 1 1 ∧ w.heap[b]? = some (.cells #[.int .u64 (mk k i)] 46 (0, 0)) ∧ O b = none
 pos := Nat.two_pos
 stay := by
  rintro S w w' O O' k i f h hS ⟨h0, b, h1, h2, h3⟩
  have hb : b < w.heap.size := Zw h2
  exact ⟨h0, b, h1, (h.block b hb (by rw [h3]; exact hS)).trans h2, (h.own b hb).trans h3⟩
 congr := by
  rintro w O k i f g h ⟨h0, b, h1, h2⟩
  exact ⟨(h 0 (by decide)).symm.trans h0, b, (h 1 (by decide)).symm.trans h1, h2⟩
def Rw (E : El) (w : World) (O : Nat → Option Nat) (k : Nat) (v : Value) (n c m : Nat) : Prop :=
 (v = .slice none 0 0 ∧ n = 0 ∧ c = 0 ∧ m = 0) ∨ ∃ g f, v = .slice (some ⟨g, 0, none⟩) n c ∧ O g = some k ∧ n ≤ c ∧ c ≤ maxLen ∧ m ≤ n ∧ w.rowIs g E.e (c * E.size) f ∧ (∀ i, i < n * E.size → (f i).oneCell' = true) ∧ ∀ i, i < m → E.ok w O k i (fun j => f (i * E.size + j))
theorem in_row {n m i j s : Nat} (h : i < n) (hj : j < s) (hn : n ≤ m) : i * s + j < m * s := by
 have h1 : (i + 1) * s ≤ n * s := Nat.mul_le_mul_right s h
 have h2 : n * s ≤ m * s := Nat.mul_le_mul_right s hn
 rw [Nat.add_mul, Nat.one_mul] at h1
 omega
namespace Rw
variable {E : El} {w w' : World} {O O' : Nat → Option Nat} {k : Nat} {v : Value} {n c m : Nat}
theorem le (h : Rw E w O k v n c m) : m ≤ n ∧ n ≤ c ∧ c ≤ maxLen := by
 rcases h with ⟨_, rfl, rfl, rfl⟩ | ⟨g, f, _, _, h1, h2, h3, _⟩
 ·simp [maxLen]
 ·exact ⟨h3, h1, h2⟩
theorem val (h : Rw E w O k v n c m) : ∃ A, v = .slice A n c := by
 rcases h with ⟨rfl, rfl, rfl, _⟩ | ⟨g, f, rfl, _⟩
 ·exact ⟨_, rfl⟩
 ·exact ⟨_, rfl⟩
theorem mv {S : Option Nat → Prop} (h : Rw E w O k v n c m) (hm : Mv S O w O' w') (hk : ¬ S (some k)) (hn : ¬ S none) : Rw E w' O' k v n c m := by
 rcases h with h | ⟨g, f, rfl, h0, h1, h2, h3, h4, h5, h6⟩
 ·exact .inl h
 ·exact .inr ⟨g, f, rfl, (hm.own g h4.lt).trans h0, h1, h2, h3, h4.of_block (hm.block g h4.lt (by rw [h0]; exact hk)), h5, fun i hi => E.stay hm hn (h6 i hi)⟩
theorem below (h : Rw E w O k v n c m) (hb : Below w.heap.size w w') : Rw E w' O k v n c m := h.mv (Mv.of_below (fun _ => False) O hb) (fun h => h) (fun h => h)
theorem less (h : Rw E w O k v n c m) {m' : Nat} (hm : m' ≤ m) : Rw E w O k v n c m' := by
 rcases h with ⟨h1, h2, h3, h4⟩ | ⟨g, f, rfl, h0, h1, h2, h3, h4, h5, h6⟩
 ·exact .inl ⟨h1, h2, h3, by omega⟩
 ·exact .inr ⟨g, f, rfl, h0, h1, h2, by omega, h4, h5, fun i hi => h6 i (by omega)⟩
theorem get (h : Rw E w O k v n c m) {i : Nat} (hi : i < m) : ∃ g f, v = .slice (some ⟨g, 0, none⟩) n c ∧ O g = some k ∧ (∀ j, j < E.size → w.cell? ⟨g, i * E.size + j, none⟩ = some (f j)) ∧ E.ok w O k i f := by
 rcases h with ⟨_, h2, h3, h4⟩ | ⟨g, f, rfl, h0, h1, h2, h3, h4, h5, h6⟩
 ·omega
 ·exact ⟨g, _, rfl, h0, fun j hj => h4.cell (in_row (n := n) (by omega) hj h1), h6 i hi⟩
theorem put (h : Rw E w O k v n c m) (hm : m < n) : ∃ g f, v = .slice (some ⟨g, 0, none⟩) n c ∧ O g = some k ∧ w.rowIs g E.e (c * E.size) f ∧ (∀ j, j < E.size → w.cell? ⟨g, m * E.size + j, none⟩ ≠ none) ∧
  ∀ (S : Option Nat → Prop) (w' : World) (O' : Nat → Option Nat) (f' : Nat → Value), w'.rowIs g E.e (c * E.size) f' → (∀ x, (f x).oneCell' = true → (f' x).oneCell' = true) → (∀ i j, i < m → j < E.size → f' (i * E.size + j) = f (i * E.size + j)) → Mv S O w O' w' → ¬ S none → E.ok w' O' k m (fun j => f' (m * E.size + j)) → Rw E w' O' k v n c (m + 1) := by
 rcases h with ⟨_, h2, h3, h4⟩ | ⟨g, f, rfl, h0, h1, h2, h3, h4, h5, h6⟩
 ·omega
 ·refine ⟨g, f, rfl, h0, h4, fun j hj => by rw [h4.cell (in_row (n := n) hm hj h1)]; simp, fun S w' O' f' hr hc he hv hn hk => .inr ⟨g, f', rfl, (hv.own g h4.lt).trans h0, h1, h2, hm, hr, fun i hi => hc i (h5 i hi), fun i hi => ?_⟩⟩
  by_cases e : i = m
  ·rw [e]; exact hk
  ·exact E.congr (fun j hj => (he i j (by omega) hj).symm) (E.stay hv hn (h6 i (by omega)))
theorem new {g : Nat} {f : Nat → Value} {B : Nat} (hr : w.rowIs g E.e (c * E.size) f) (hg : B ≤ g) (hc : c ≤ maxLen) (h1 : ∀ i, (f i).oneCell' = true) : Rw E w (own O B (some k)) k (.slice (some ⟨g, 0, none⟩) c c) c c 0 :=
 .inr ⟨g, f, rfl, own_ge hg, Nat.le_refl _, hc, Nat.zero_le _, hr, fun i _ => h1 i, fun i hi => absurd hi (by omega)⟩
end Rw
def Hd (w : World) (O : Nat → Option Nat) (L : Nat) (p : Option Nat) (e : TypeId) (K c : Nat) (v : Nat → Value) : Prop := O L = p ∧ K ≤ c ∧ ∃ h, w.rowIs L e c h ∧ ∀ j, j < K → h j = v j
namespace Hd
variable {w w' : World} {O O' : Nat → Option Nat} {L : Nat} {p : Option Nat} {e : TypeId} {K c : Nat} {v : Nat → Value}
theorem get (h : Hd w O L p e K c v) {j : Nat} (hj : j < K) : w.cell? ⟨L, j, none⟩ = some (v j) := by
 obtain ⟨h0, h1, f, h2, h3⟩ := h
 exact (h2.cell (by omega)).trans (by rw [h3 j hj])
theorem frozen (h : Hd w O L p e K c v) (j : Nat) : w.frozen? ⟨L, j, none⟩ = false := by
 obtain ⟨h0, h1, f, h2, h3⟩ := h
 exact h2.frozen j
theorem lt (h : Hd w O L p e K c v) : L < w.heap.size := by
 obtain ⟨h0, h1, f, h2, h3⟩ := h
 exact h2.lt
theorem mv {S : Option Nat → Prop} (h : Hd w O L p e K c v) (hm : Mv S O w O' w') (hS : ¬ S p) : Hd w' O' L p e K c v := by
 obtain ⟨h0, h1, f, h2, h3⟩ := h
 exact ⟨(hm.own L h2.lt).trans h0, h1, f, h2.of_block (hm.block L h2.lt (by rw [h0]; exact hS)), h3⟩
theorem set (h : Hd w O L p e K c v) (j : Nat) (u : Value) : Hd (w.setCell ⟨L, j, none⟩ u) O L p e K c (fun i => if i = j then u else v i) := by
 obtain ⟨h0, h1, f, h2, h3⟩ := h
 refine ⟨h0, h1, _, h2.set j u, fun i hi => ?_⟩
 show (if i = j then u else f i) = (if i = j then u else v i)
 rw [h3 i hi]
theorem congr (h : Hd w O L p e K c v) {v' : Nat → Value} (hv : ∀ j, j < K → v j = v' j) : Hd w O L p e K c v' := by
 obtain ⟨h0, h1, f, h2, h3⟩ := h
 exact ⟨h0, h1, f, h2, fun j hj => (h3 j hj).trans (hv j hj)⟩
theorem ne (h : Hd w O L p e K c v) {g : Nat} {q : Option Nat} (hg : O g = q) (hq : p ≠ q) : L ≠ g := by
 rintro rfl
 exact hq (h.1.symm.trans hg)
end Hd
def Fam (E : El) (w : World) (O : Nat → Option Nat) (K : Nat) (v : Nat → Value) (n c m : Nat → Nat) : Prop := ∀ j, j < K → Rw E w O j (v j) (n j) (c j) (m j)
namespace Fam
variable {E : El} {w w' : World} {O O' : Nat → Option Nat} {K : Nat} {v : Nat → Value} {n c m : Nat → Nat}
theorem mv {S : Option Nat → Prop} (h : Fam E w O K v n c m) (hm : Mv S O w O' w') (hS : ∀ j, j < K → ¬ S (some j)) (hn : ¬ S none) : Fam E w' O' K v n c m := fun j hj => (h j hj).mv hm (hS j hj) hn
theorem congr (h : Fam E w O K v n c m) {m' : Nat → Nat} (e : ∀ j, j < K → m j = m' j) : Fam E w O K v n c m' := fun j hj => by rw [← e j hj]; exact h j hj
theorem below (h : Fam E w O K v n c m) (hb : Below w.heap.size w w') : Fam E w' O K v n c m := fun j hj => (h j hj).below hb
theorem drewN (h : Fam E w O K v n c m) (q : Nat) : Fam E (w.drewN q) O K v n c m := h.below (Za (Below.refl _ _) q)
theorem upd (h : Fam E w O K v n c m) {k : Nat} (hm : Mv (fun x => x = some k) O w O' w') {m' : Nat → Nat} (hk : k < K → Rw E w' O' k (v k) (n k) (c k) (m' k)) (e : ∀ j, j < K → j ≠ k → m j = m' j) : Fam E w' O' K v n c m' := by
 intro j hj
 by_cases hjk : j = k
 ·subst hjk; exact hk hj
 ·rw [← e j hj hjk]
  exact (h j hj).mv hm (fun h => hjk (Option.some.inj h)) (fun h => by cases h)
end Fam
theorem rowIs_map {w : World} {g t n : Nat} {f : Nat → Value} (h : w.rowIs g t n f) {q : Nat} (hq : q ≤ n) (j : Nat) (u : Value) (hu : ((List.range q).map f)[j]? = some u) : w.cell? ⟨g, j, none⟩ = some u := by
 rw [List.getElem?_map] at hu
 rcases Nat.lt_or_ge j q with hj | hj
 ·rw [List.getElem?_range hj] at hu
  injection hu with hu
  rw [← hu]
  exact h.cell (by omega)
 ·rw [List.getElem?_eq_none (by simpa using hj)] at hu
  cases hu
set_option maxHeartbeats 4000000 in
theorem wpList_append_rw {P : Program} (E : El) (w : World) {ops : Array Oper} {rest : List Oper} {o : Oper} {a : Act} {Q : Exit → Act → World → Prop}
  (hg : o.guard = none) (s x : Operand) (t : TypeId) (hop : o.op = Op.call { callee := Callee.builtin Builtin.append, args := #[s, x], argTypes := #[t, t] })
  (i : TypeInfo) (z : Value) (bytes : Nat) (h1 : P.underlying t = some (.slice E.e)) (h2 : P.info? E.e = some i) (h3 : i.zero = some z) (h4 : i.size = E.size) (h5 : i.bytes = bytes) (h6 : z.cells.size = E.size)
  {O : Nat → Option Nat} {k : Nat} {v : Value} {n c : Nat} (h : Rw E w O k v n c n) (hs : a.eval s = v)
  (ad : Addr) (q cq : Nat) (news : List Value) (hx : a.eval x = .slice (some ad) q cq) (hn : news.length = q * E.size) (hc : ∀ j u, news[j]? = some u → w.cell? (ad.add j) = some u) (h1c : ∀ u ∈ news, u.oneCell' = true)
  (b1 : n + q ≤ maxLen) (b2 : (n + q) * bytes ≤ 140737488355328) (hq : 0 < q) (m' : Nat) (hm : n ≤ m') (hm' : m' ≤ n + q)
  (hok : ∀ i, n ≤ i → i < m' → E.ok w O k i (fun j => news[(i - n) * E.size + j]?.getD default))
  (hK : ∀ v' c' O' w', Rw E w' O' k v' (n + q) c' m' → Mv (fun x => x = some k) O w O' w' → (∀ u n2 c2 m2, m2 ≤ n → Rw E w O k u n2 c2 m2 → Rw E w' O' k u n2 c2 m2) → wpList P ops Q rest (a.put o.dst v') w') :
  wpList P ops Q (o :: rest) a w := by
 have hnn : ¬ ((none : Option Nat) = some k) := by intro h; cases h
 have hgrow : ∀ olds : List Value, olds.length = n * E.size → (∀ u ∈ olds, u.oneCell' = true) → (∀ i, i < n → E.ok w O k i (fun j => olds[i * E.size + j]?.getD default)) →
   ∀ v' w', w'.ownsRow w.heap.size E.e E.size v' (n + q) (olds ++ news) → w.grownBy w' none → wpList P ops Q rest (a.put o.dst v') w' := by
  intro olds hlo ho1 hoo v' w' hown hgb
  have hmv : Mv (fun x => x = some k) O w (own O w.heap.size (some k)) w' := Mv.of_grown _ O hgb (fun b hb => own_lt hb)
  obtain ⟨hlen, hv⟩ := hown
  rcases hv with ⟨_, h0⟩ | ⟨g, cap, cur, rfl, hgB, hblk, hncap, hcap, hcs, htake⟩
  ·omega
  ·refine hK _ cap (own O w.heap.size (some k)) w' (.inr ⟨g, fun x => cur[x]?.getD default, rfl, own_ge hgB, hncap, hcap, hm', ⟨cur, hblk, hcs, fun x hx => ?_⟩, fun x hx => ?_, fun x hx => ?_⟩) hmv (fun u n2 c2 m2 _ hr => ?_)
   ·show cur[x]? = some (cur[x]?.getD default)
    rw [Array.getElem?_eq_getElem (by omega)]; rfl
   ·have hcap' : (n + q) * E.size ≤ cap * E.size := Nat.mul_le_mul_right _ hncap
    have hcx : cur[x]? = (olds ++ news)[x]? := by rw [← htake, List.getElem?_take_of_lt hx, Array.getElem?_toList]
    show ((cur[x]?).getD default).oneCell' = true
    rw [hcx, List.getElem?_eq_getElem (by rw [hlen]; exact hx)]
    show ((olds ++ news)[x]).oneCell' = true
    have := List.getElem_mem (l := olds ++ news) (n := x) (by rw [hlen]; exact hx)
    rcases List.mem_append.1 this with hh | hh
    ·exact ho1 _ hh
    ·exact h1c _ hh
   ·refine E.congr (f := fun j => (olds ++ news)[x * E.size + j]?.getD default) (fun j hj => ?_) (E.stay hmv hnn ?_)
    ·have hxj : x * E.size + j < (n + q) * E.size := in_row (n := n + q) (by omega) hj (Nat.le_refl _)
     show (olds ++ news)[x * E.size + j]?.getD default = cur[x * E.size + j]?.getD default
     rw [← htake, List.getElem?_take_of_lt hxj, Array.getElem?_toList]
    ·by_cases hxn : x < n
     ·refine E.congr (fun j hj => ?_) (hoo x hxn)
      show olds[x * E.size + j]?.getD default = (olds ++ news)[x * E.size + j]?.getD default
      rw [List.getElem?_append_left (by rw [hlo]; exact in_row (n := n) hxn hj (Nat.le_refl _))]
     ·refine E.congr (fun j hj => ?_) (hok x (by omega) hx)
      have hle : n * E.size ≤ x * E.size := Nat.mul_le_mul_right _ (by omega)
      show news[(x - n) * E.size + j]?.getD default = (olds ++ news)[x * E.size + j]?.getD default
      rw [List.getElem?_append_right (by rw [hlo]; omega), hlo, Nat.sub_mul, show x * E.size - n * E.size + j = x * E.size + j - n * E.size by omega]
   ·rcases hr with hr | ⟨g2, f2, rfl, r0, r1, r2, r3, r4, r5, r6⟩
    ·exact .inl hr
    ·exact .inr ⟨g2, f2, rfl, (own_lt r4.lt).trans r0, r1, r2, r3, r4.of_block (hgb.block g2 r4.lt (fun h => by cases h)), r5, fun i hi => E.stay hmv hnn (r6 i hi)⟩
 rcases h with ⟨rfl, rfl, rfl, _⟩ | ⟨g, f, rfl, h0, hnc, hcm, _, hr, ho1, hom⟩
 ·exact wpList_append_grows w hg s x t hop E.e i z E.size bytes h1 h2 h3 h4 h5 h6 E.pos none 0 0 [] hs (fun _ => ⟨rfl, rfl⟩) (by simp) (fun b hb => by cases hb) ad q cq news hx hn hc h1c (by omega) b1 b2 (hgrow [] (by simp) (fun u hu => by cases hu) (fun i hi => absurd hi (by omega)))
 ·have hnc' : n * E.size ≤ c * E.size := Nat.mul_le_mul_right _ hnc
  have hmv : Mv (fun x => x = some k) O w O (w.setCells g (0 + n * E.size) news) := Mv.setCells _ O h0 news _ w
  refine wpList_append_arg w hg s x t hop E.e i z E.size bytes h1 h2 h3 h4 h5 h6 E.pos g 0 n c ((List.range (n * E.size)).map f) hs (by simp) (fun j u hu => by rw [Nat.zero_add]; exact rowIs_map hr hnc' j u hu) ad q cq news hx hn hc h1c (fun hcap j hj => ?_) b1 b2 (fun hcap => ?_) (fun _ => hgrow _ (by simp) (fun u hu => ?_) (fun i hi => ?_))
  ·have : (n + q) * E.size ≤ c * E.size := Nat.mul_le_mul_right _ hcap
   rw [Nat.add_mul] at this
   exact ⟨by rw [hr.cell (by omega)]; rfl, hr.frozen _⟩
  ·have hcap' : (n + q) * E.size ≤ c * E.size := Nat.mul_le_mul_right _ hcap
   rw [Nat.add_mul] at hcap'
   rw [Nat.zero_add] at hmv
   rw [Nat.zero_add]
   refine hK _ c O _ (.inr ⟨g, _, rfl, h0, hcap, hcm, hm', rowIs_setCells news (n * E.size) w f hr, fun x hx => ?_, fun x hx => ?_⟩) hmv (fun u n2 c2 m2 hm2 hr2 => ?_)
   ·show (if n * E.size ≤ x ∧ x < n * E.size + news.length then news[x - n * E.size]?.getD default else f x).oneCell' = true
    split
    ·next hh =>
     rw [List.getElem?_eq_getElem (by omega)]
     exact h1c _ (List.getElem_mem _)
    ·next hh =>
     rw [Nat.add_mul] at hx
     exact ho1 x (by omega)
   ·refine E.stay hmv hnn ?_
    by_cases hxn : x < n
    ·refine E.congr (fun j hj => ?_) (hom x hxn)
     have := in_row (n := n) (m := n) hxn hj (Nat.le_refl _)
     show f (x * E.size + j) = (if n * E.size ≤ x * E.size + j ∧ x * E.size + j < n * E.size + news.length then news[x * E.size + j - n * E.size]?.getD default else f (x * E.size + j))
     rw [if_neg (by omega)]
    ·refine E.congr (fun j hj => ?_) (hok x (by omega) hx)
     have h7 : n * E.size ≤ x * E.size := Nat.mul_le_mul_right _ (by omega)
     have h8 := in_row (i := x) (n := n + q) (m := n + q) (by omega) hj (Nat.le_refl _)
     rw [Nat.add_mul] at h8
     show news[(x - n) * E.size + j]?.getD default = (if n * E.size ≤ x * E.size + j ∧ x * E.size + j < n * E.size + news.length then news[x * E.size + j - n * E.size]?.getD default else f (x * E.size + j))
     rw [if_pos ⟨by omega, by omega⟩, Nat.sub_mul, show x * E.size - n * E.size + j = x * E.size + j - n * E.size by omega]
   ·rcases hr2 with hr2 | ⟨g2, f2, rfl, r0, r1, r2, r3, r4, r5, r6⟩
    ·exact .inl hr2
    ·by_cases hgg : g2 = g
     ·subst hgg
      refine .inr ⟨g2, _, rfl, r0, r1, r2, r3, rowIs_setCells news (n * E.size) w f2 r4, fun x hx => ?_, fun x hx => ?_⟩
      ·show (if n * E.size ≤ x ∧ x < n * E.size + news.length then news[x - n * E.size]?.getD default else f2 x).oneCell' = true
       split
       ·next hh =>
        rw [List.getElem?_eq_getElem (by omega)]
        exact h1c _ (List.getElem_mem _)
       ·exact r5 x hx
      ·refine E.stay hmv hnn (E.congr (fun j hj => ?_) (r6 x hx))
       have := in_row (i := x) (n := n) (m := n) (by omega) hj (Nat.le_refl _)
       show f2 (x * E.size + j) = (if n * E.size ≤ x * E.size + j ∧ x * E.size + j < n * E.size + news.length then news[x * E.size + j - n * E.size]?.getD default else f2 (x * E.size + j))
       rw [if_neg (by omega)]
     ·exact .inr ⟨g2, f2, rfl, r0, r1, r2, r3, rowIs_setCells_other hgg news _ w r4, r5, fun i hi => E.stay hmv hnn (r6 i hi)⟩
  ·obtain ⟨j, hj, rfl⟩ := List.mem_map.1 hu
   exact ho1 j (List.mem_range.1 hj)
  ·refine E.congr (fun j hj => ?_) (hom i hi)
   have := in_row (n := n) (m := n) hi hj (Nat.le_refl _)
   show f (i * E.size + j) = ((List.range (n * E.size)).map f)[i * E.size + j]?.getD default
   rw [List.getElem?_map, List.getElem?_range this]
   rfl
theorem ne_none_of {k : Nat} (x : Option Nat) (hx : x = some k) : x ≠ none := by rw [hx]; exact fun h => by cases h
theorem not_none {k : Nat} : ¬ ((none : Option Nat) = some k) := fun h => by cases h
theorem not_some {j k : Nat} (h : j ≠ k) : ¬ (some j = some k) := fun e => h (Option.some.inj e)
namespace Fam
variable {E : El} {w w' : World} {O O' : Nat → Option Nat} {K : Nat} {v : Nat → Value} {n c m : Nat → Nat}
theorem put (h : Fam E w O K v n c m) {k : Nat} (hm : Mv (fun x => x = some k) O w O' w') {v' : Value} {c' : Nat} (hk : k < K → Rw E w' O' k v' (n k) c' (m k)) : Fam E w' O' K (fun j => if j = k then v' else v j) n (fun j => if j = k then c' else c j) m := by
 intro j hj
 by_cases e : j = k
 ·subst e
  show Rw E w' O' j (if j = j then v' else v j) (n j) (if j = j then c' else c j) (m j)
  rw [if_pos rfl, if_pos rfl]
  exact hk hj
 ·show Rw E w' O' j (if j = k then v' else v j) (n j) (if j = k then c' else c j) (m j)
  rw [if_neg e, if_neg e]
  exact (h j hj).mv hm (not_some e) not_none
theorem snoc {k : Nat} (h : Fam E w O k v n c m) {v' : Value} {c' : Nat} (hk : Rw E w O k v' (n k) c' (m k)) : Fam E w O (k + 1) (fun j => if j = k then v' else v j) n (fun j => if j = k then c' else c j) m := by
 intro j hj
 by_cases e : j = k
 ·subst e
  show Rw E w O j (if j = j then v' else v j) (n j) (if j = j then c' else c j) (m j)
  rw [if_pos rfl, if_pos rfl]
  exact hk
 ·show Rw E w O j (if j = k then v' else v j) (n j) (if j = k then c' else c j) (m j)
  rw [if_neg e, if_neg e]
  exact h j (by omega)
theorem less (h : Fam E w O K v n c m) {m' : Nat → Nat} (hm : ∀ j, j < K → m' j ≤ m j) : Fam E w O K v n c m' := fun j hj => (h j hj).less (hm j hj)
end Fam
theorem Rw.news {E : El} {w : World} {O : Nat → Option Nat} {q g n c m : Nat} (h : Rw E w O q (.slice (some ⟨g, 0, none⟩) n c) n c m) : ∃ news : List Value, news.length = n * E.size ∧ (∀ j u, news[j]? = some u → w.cell? (Addr.add ⟨g, 0, none⟩ j) = some u) ∧ ∀ u ∈ news, u.oneCell' = true := by
 rcases h with ⟨h, _⟩ | ⟨g', f, h, h0, h1, h2, h3, h4, h5, h6⟩
 ·injection h with h; cases h
 ·injection h with h
  injection h with h
  injection h with h
  subst h
  refine ⟨(List.range (n * E.size)).map f, by simp, fun j u hu => ?_, fun u hu => ?_⟩
  ·rw [Addr.add_lit, Nat.zero_add]
   exact rowIs_map h4 (Nat.mul_le_mul_right _ h1) j u hu
  ·obtain ⟨j, hj, rfl⟩ := List.mem_map.1 hu
   exact h5 j (List.mem_range.1 hj)
structure St (E : El) (eh : TypeId) (O0 : Nat → Option Nat) (w0 : World) (O : Nat → Option Nat) (w : World) (L cL K : Nat) (v : Nat → Value) (n c : Nat → Nat) (G : Nat) (gs : Nat → Value) : Prop where
 hl : Hd w O L none eh K cL v
 hg : Hd w O G (some (2 * K)) eh K K gs
 rows : Fam E w O K v n c n
 mv : Mv (fun x => x ≠ none) O0 w0 O w
namespace St
variable {E : El} {eh : TypeId} {O0 O O' : Nat → Option Nat} {w0 w w' : World} {L cL K : Nat} {v : Nat → Value} {n c : Nat → Nat} {G : Nat} {gs : Nat → Value}
theorem step (h : St E eh O0 w0 O w L cL K v n c G gs) {k N : Nat} (hk : k < 2 * K) (hm : Mv (fun x => x = some k) O w O' w') (also : ∀ u n2 c2 m2, m2 ≤ N → Rw E w O k u n2 c2 m2 → Rw E w' O' k u n2 c2 m2) (hN : k < K → n k ≤ N) : St E eh O0 w0 O' w' L cL K v n c G gs :=
 ⟨h.hl.mv hm not_none, h.hg.mv hm (not_some (by omega)), h.rows.upd hm (fun hkK => also _ _ _ _ (hN hkK) (h.rows k hkK)) (fun _ _ _ => rfl), h.mv.trans (hm.mono ne_none_of)⟩
theorem still (h : St E eh O0 w0 O w L cL K v n c G gs) (hm : Mv (fun _ => False) O w O' w') : St E eh O0 w0 O' w' L cL K v n c G gs :=
 ⟨h.hl.mv hm (fun h => h), h.hg.mv hm (fun h => h), h.rows.mv hm (fun _ _ h => h) (fun h => h), h.mv.trans (hm.mono fun _ h => h.elim)⟩
theorem below (h : St E eh O0 w0 O w L cL K v n c G gs) (hb : Below w.heap.size w w') : St E eh O0 w0 O w' L cL K v n c G gs := h.still (Mv.of_below _ O hb)
theorem past (h : St E eh O0 w0 O w L cL K v n c G gs) {k : Nat} (hk : K ≤ k) (hk2 : k < 2 * K) (hm : Mv (fun x => x = some k) O w O' w') : St E eh O0 w0 O' w' L cL K v n c G gs :=
 ⟨h.hl.mv hm not_none, h.hg.mv hm (not_some (by omega)), h.rows.mv hm (fun j hj => not_some (by omega)) not_none, h.mv.trans (hm.mono ne_none_of)⟩
theorem store (h : St E eh O0 w0 O w L cL K v n c G gs) (k : Nat) (u : Value) : St E eh O0 w0 O (w.setCell ⟨G, k, none⟩ u) L cL K v n c G (fun i => if i = k then u else gs i) :=
 have hm := Mv.setCell (fun x => x = some (2 * K)) O w k u h.hg.1
 ⟨h.hl.mv hm not_none, h.hg.set k u, h.rows.mv hm (fun j hj => not_some (by omega)) not_none, h.mv.trans (hm.mono ne_none_of)⟩
end St
theorem St.start {E : El} {eh : TypeId} {O0 O : Nat → Option Nat} {w0 w : World} {L cL K : Nat} {v : Nat → Value} {n c : Nat → Nat} (hl : Hd w O L none eh K cL v) (rows : Fam E w O K v n c n) (mv : Mv (fun x => x ≠ none) O0 w0 O w) (z : Value) :
  St E eh O0 w0 (own O w.heap.size (some (2 * K))) (w.alloc (.cells (madeCells #[z] K) eh)) L cL K v n c w.heap.size (fun _ => z) :=
 have hm : Mv (fun _ => False) O w (own O w.heap.size (some (2 * K))) (w.alloc (.cells (madeCells #[z] K) eh)) := (Mv.of_below _ O (Zc (Below.refl _ _) _)).owned _ (fun b hb => own_lt hb)
 ⟨hl.mv hm (fun h => h), ⟨own_ge (Nat.le_refl _), Nat.le_refl _, _, World.rowIs_made w z K eh, fun _ _ => rfl⟩, rows.mv hm (fun _ _ h => h) (fun h => h), mv.trans (hm.mono fun _ h => h.elim)⟩
theorem Fam.header {E : El} {w : World} {O : Nat → Option Nat} {K k : Nat} {v : Nat → Value} {n c m : Nat → Nat} (h : Fam E w O k v n c m) {G : Nat} (hG : O G = some (2 * K)) (hk : k ≤ 2 * K) (i : Nat) (u : Value) : Fam E (w.setCell ⟨G, i, none⟩ u) O k v n c m :=
 h.mv (Mv.setCell (fun x => x = some (2 * K)) O w i u hG) (fun j hj => not_some (by omega)) not_none
end Go.Proofs.Ytbmddlldadbfnaa.BS
end
section
namespace Go.Proofs.Ytbmddlldadbfnaa.BS
open Go.RowKit Go.Proofs.Ytbmddlldadbfnaa.BA Go.Proofs.Ytbmddlldadbfnaa.BB Go.Proofs.YtbmddlldadbfnaaW.PrintWords Go.Proofs.YtbmddlldadbfnaaW.PrintLast Go.Proofs.YtbmddlldadbfnaaW.PrintMore
attribute [local go_sem] ZU ZS max_two min_two ZP ZO ZT ZR
set_option linter.unusedVariables false
set_option linter.unusedSimpArgs false
theorem info156 : (Try.prog.info? 156).map (fun i => (i.zero, i.size, i.bytes)) = some (some (.slice none 0 0), 1, 24) := by kernel_rfl
set_option maxHeartbeats 4000000 in
set_option maxRecDepth 100000 in
theorem flat97_calls (w : World) : Calls Try.prog 97 #[.slice none 0 0] w fun e w' => e = .returned (.bool true) ∧ Below w.heap.size w w' := by
 have hmk : ∀ W : World, (Instr.makeSlice 88 (.int .i64 0) (.int .i64 0)).run Try.prog W = .ok (.slice (some ⟨W.heap.size, 0, none⟩) 0 0) (W.alloc (.cells (madeCells #[.slice none 0 0] 0) 156)) := fun W => run_make_row' (P := Try.prog) 88 156 (.slice none 0 0) 24 Try.underlying88 info156 rfl .i64 .i64 0 (by decide) (by decide) W
 go_enter Try.func97, Try.ntmps97
 go_wp2_with fail
 go_loopg [3] 1 (fun kq v_ w' => kq = 1 ∧ v_ = .int .i64 0 ∧ Zb (Below w.heap.size w w'))
 case atStart => exact ⟨rfl, rfl, ⟨Below.refl _ _⟩⟩
 case round =>
  obtain ⟨rfl, rfl, HB⟩ := hrel
  go_wp2_with fail
  go_loopg [6] 1 (fun kq v_ w' => kq = 1 ∧ v_ = .int .i64 0 ∧ Zb (Below w.heap.size w w'))
  case atStart => exact ⟨rfl, rfl, ⟨Zc HB.out _⟩⟩
  case round =>
   clear HB
   obtain ⟨rfl, rfl, HB⟩ := hrel
   go_wp2_with fail
   go_loopg [9] 1 (fun kq v_ w' => kq = 1 ∧ v_ = .int .i64 0 ∧ Zb (Below w.heap.size w w'))
   case atStart => exact ⟨rfl, rfl, HB⟩
   case round =>
    clear HB
    obtain ⟨rfl, rfl, HB⟩ := hrel
    go_wp2_with fail
    go_loopg [11] 1 (fun kq v_ w' => kq = 1 ∧ v_ = .int .i64 0 ∧ Zb (Below w.heap.size w w'))
    case atStart => exact ⟨rfl, rfl, HB⟩
    case round =>
     clear HB
     obtain ⟨rfl, rfl, HB⟩ := hrel
     go_wp2_with fail
     go_loopg [14] 1 (fun kq v_ w' => kq = 1 ∧ v_ = .int .i64 0 ∧ Zb (Below w.heap.size w w'))
     case atStart => exact ⟨rfl, rfl, HB⟩
     case round =>
      clear HB
      obtain ⟨rfl, rfl, HB⟩ := hrel
      go_wp2_with fail
      go_ret
      exact ⟨rfl, HB.out⟩
theorem info157 : (Try.prog.info? 157).map (fun i => (i.zero, i.size, i.bytes)) = some (some (.slice none 0 0), 1, 24) := by kernel_rfl
set_option maxHeartbeats 4000000 in
set_option maxRecDepth 100000 in
theorem flat98_calls (w : World) : Calls Try.prog 98 #[.slice none 0 0] w fun e w' => e = .returned (.bool true) ∧ Below w.heap.size w w' := by
 have hmk : ∀ W : World, (Instr.makeSlice 89 (.int .i64 0) (.int .i64 0)).run Try.prog W = .ok (.slice (some ⟨W.heap.size, 0, none⟩) 0 0) (W.alloc (.cells (madeCells #[.slice none 0 0] 0) 157)) := fun W => run_make_row' (P := Try.prog) 89 157 (.slice none 0 0) 24 Try.underlying89 info157 rfl .i64 .i64 0 (by decide) (by decide) W
 go_enter Try.func98, Try.ntmps98
 go_wp2_with fail
 go_loopg [3] 1 (fun kq v_ w' => kq = 1 ∧ v_ = .int .i64 0 ∧ Zb (Below w.heap.size w w'))
 case atStart => exact ⟨rfl, rfl, ⟨Below.refl _ _⟩⟩
 case round =>
  obtain ⟨rfl, rfl, HB⟩ := hrel
  go_wp2_with fail
  go_loopg [6] 1 (fun kq v_ w' => kq = 1 ∧ v_ = .int .i64 0 ∧ Zb (Below w.heap.size w w'))
  case atStart => exact ⟨rfl, rfl, ⟨Zc HB.out _⟩⟩
  case round =>
   clear HB
   obtain ⟨rfl, rfl, HB⟩ := hrel
   go_wp2_with fail
   go_loopg [9] 1 (fun kq v_ w' => kq = 1 ∧ v_ = .int .i64 0 ∧ Zb (Below w.heap.size w w'))
   case atStart => exact ⟨rfl, rfl, HB⟩
   case round =>
    clear HB
    obtain ⟨rfl, rfl, HB⟩ := hrel
    go_wp2_with fail
    go_loopg [11] 1 (fun kq v_ w' => kq = 1 ∧ v_ = .int .i64 0 ∧ Zb (Below w.heap.size w w'))
    case atStart => exact ⟨rfl, rfl, HB⟩
    case round =>
     clear HB
     obtain ⟨rfl, rfl, HB⟩ := hrel
     go_wp2_with fail
     go_loopg [14] 1 (fun kq v_ w' => kq = 1 ∧ v_ = .int .i64 0 ∧ Zb (Below w.heap.size w w'))
     case atStart => exact ⟨rfl, rfl, HB⟩
     case round =>
      clear HB
      obtain ⟨rfl, rfl, HB⟩ := hrel
      go_wp2_with fail
      go_ret
      exact ⟨rfl, HB.out⟩
theorem info158 : (Try.prog.info? 158).map (fun i => (i.zero, i.size, i.bytes)) = some (some (.slice none 0 0), 1, 24) := by kernel_rfl
set_option maxHeartbeats 4000000 in
set_option maxRecDepth 100000 in
theorem flat99_calls (w : World) : Calls Try.prog 99 #[.slice none 0 0] w fun e w' => e = .returned (.bool true) ∧ Below w.heap.size w w' := by
 have hmk : ∀ W : World, (Instr.makeSlice 90 (.int .i64 0) (.int .i64 0)).run Try.prog W = .ok (.slice (some ⟨W.heap.size, 0, none⟩) 0 0) (W.alloc (.cells (madeCells #[.slice none 0 0] 0) 158)) := fun W => run_make_row' (P := Try.prog) 90 158 (.slice none 0 0) 24 Try.underlying90 info158 rfl .i64 .i64 0 (by decide) (by decide) W
 go_enter Try.func99, Try.ntmps99
 go_wp2_with fail
 go_loopg [3] 1 (fun kq v_ w' => kq = 1 ∧ v_ = .int .i64 0 ∧ Zb (Below w.heap.size w w'))
 case atStart => exact ⟨rfl, rfl, ⟨Below.refl _ _⟩⟩
 case round =>
  obtain ⟨rfl, rfl, HB⟩ := hrel
  go_wp2_with fail
  go_loopg [6] 1 (fun kq v_ w' => kq = 1 ∧ v_ = .int .i64 0 ∧ Zb (Below w.heap.size w w'))
  case atStart => exact ⟨rfl, rfl, ⟨Zc HB.out _⟩⟩
  case round =>
   clear HB
   obtain ⟨rfl, rfl, HB⟩ := hrel
   go_wp2_with fail
   go_loopg [9] 1 (fun kq v_ w' => kq = 1 ∧ v_ = .int .i64 0 ∧ Zb (Below w.heap.size w w'))
   case atStart => exact ⟨rfl, rfl, HB⟩
   case round =>
    clear HB
    obtain ⟨rfl, rfl, HB⟩ := hrel
    go_wp2_with fail
    go_loopg [11] 1 (fun kq v_ w' => kq = 1 ∧ v_ = .int .i64 0 ∧ Zb (Below w.heap.size w w'))
    case atStart => exact ⟨rfl, rfl, HB⟩
    case round =>
     clear HB
     obtain ⟨rfl, rfl, HB⟩ := hrel
     go_wp2_with fail
     go_loopg [14] 1 (fun kq v_ w' => kq = 1 ∧ v_ = .int .i64 0 ∧ Zb (Below w.heap.size w w'))
     case atStart => exact ⟨rfl, rfl, HB⟩
     case round =>
      clear HB
      obtain ⟨rfl, rfl, HB⟩ := hrel
      go_wp2_with fail
      go_ret
      exact ⟨rfl, HB.out⟩
theorem info107 : (Try.prog.info? 107).map (fun i => (i.zero, i.size, i.bytes)) = some (some (.slice none 0 0), 1, 24) := by kernel_rfl
set_option maxHeartbeats 4000000 in
set_option maxRecDepth 100000 in
theorem flat100_calls (w : World) : Calls Try.prog 100 #[.slice none 0 0] w fun e w' => e = .returned (.bool true) ∧ Below w.heap.size w w' := by
 have hmk : ∀ W : World, (Instr.makeSlice 91 (.int .i64 0) (.int .i64 0)).run Try.prog W = .ok (.slice (some ⟨W.heap.size, 0, none⟩) 0 0) (W.alloc (.cells (madeCells #[.slice none 0 0] 0) 107)) := fun W => run_make_row' (P := Try.prog) 91 107 (.slice none 0 0) 24 Try.underlying91 info107 rfl .i64 .i64 0 (by decide) (by decide) W
 go_enter Try.func100, Try.ntmps100
 go_wp2_with fail
 go_loopg [3] 1 (fun kq v_ w' => kq = 1 ∧ v_ = .int .i64 0 ∧ Zb (Below w.heap.size w w'))
 case atStart => exact ⟨rfl, rfl, ⟨Below.refl _ _⟩⟩
 case round =>
  obtain ⟨rfl, rfl, HB⟩ := hrel
  go_wp2_with fail
  go_loopg [6] 1 (fun kq v_ w' => kq = 1 ∧ v_ = .int .i64 0 ∧ Zb (Below w.heap.size w w'))
  case atStart => exact ⟨rfl, rfl, ⟨Zc HB.out _⟩⟩
  case round =>
   clear HB
   obtain ⟨rfl, rfl, HB⟩ := hrel
   go_wp2_with fail
   go_loopg [9] 1 (fun kq v_ w' => kq = 1 ∧ v_ = .int .i64 0 ∧ Zb (Below w.heap.size w w'))
   case atStart => exact ⟨rfl, rfl, HB⟩
   case round =>
    clear HB
    obtain ⟨rfl, rfl, HB⟩ := hrel
    go_wp2_with fail
    go_loopg [11] 1 (fun kq v_ w' => kq = 1 ∧ v_ = .int .i64 0 ∧ Zb (Below w.heap.size w w'))
    case atStart => exact ⟨rfl, rfl, HB⟩
    case round =>
     clear HB
     obtain ⟨rfl, rfl, HB⟩ := hrel
     go_wp2_with fail
     go_loopg [14] 1 (fun kq v_ w' => kq = 1 ∧ v_ = .int .i64 0 ∧ Zb (Below w.heap.size w w'))
     case atStart => exact ⟨rfl, rfl, HB⟩
     case round =>
      clear HB
      obtain ⟨rfl, rfl, HB⟩ := hrel
      go_wp2_with fail
      go_ret
      exact ⟨rfl, HB.out⟩
theorem info161 : (Try.prog.info? 161).map (fun i => (i.zero, i.size, i.bytes)) = some (some (.slice none 0 0), 1, 24) := by kernel_rfl
set_option maxHeartbeats 4000000 in
set_option maxRecDepth 100000 in
theorem flat101_calls (w : World) : Calls Try.prog 101 #[.slice none 0 0] w fun e w' => e = .returned (.bool true) ∧ Below w.heap.size w w' := by
 have hmk : ∀ W : World, (Instr.makeSlice 92 (.int .i64 0) (.int .i64 0)).run Try.prog W = .ok (.slice (some ⟨W.heap.size, 0, none⟩) 0 0) (W.alloc (.cells (madeCells #[.slice none 0 0] 0) 161)) := fun W => run_make_row' (P := Try.prog) 92 161 (.slice none 0 0) 24 Try.underlying92 info161 rfl .i64 .i64 0 (by decide) (by decide) W
 go_enter Try.func101, Try.ntmps101
 go_wp2_with fail
 go_loopg [3] 1 (fun kq v_ w' => kq = 1 ∧ v_ = .int .i64 0 ∧ Zb (Below w.heap.size w w'))
 case atStart => exact ⟨rfl, rfl, ⟨Below.refl _ _⟩⟩
 case round =>
  obtain ⟨rfl, rfl, HB⟩ := hrel
  go_wp2_with fail
  go_loopg [6] 1 (fun kq v_ w' => kq = 1 ∧ v_ = .int .i64 0 ∧ Zb (Below w.heap.size w w'))
  case atStart => exact ⟨rfl, rfl, ⟨Zc HB.out _⟩⟩
  case round =>
   clear HB
   obtain ⟨rfl, rfl, HB⟩ := hrel
   go_wp2_with fail
   go_loopg [9] 1 (fun kq v_ w' => kq = 1 ∧ v_ = .int .i64 0 ∧ Zb (Below w.heap.size w w'))
   case atStart => exact ⟨rfl, rfl, HB⟩
   case round =>
    clear HB
    obtain ⟨rfl, rfl, HB⟩ := hrel
    go_wp2_with fail
    go_loopg [11] 1 (fun kq v_ w' => kq = 1 ∧ v_ = .int .i64 0 ∧ Zb (Below w.heap.size w w'))
    case atStart => exact ⟨rfl, rfl, HB⟩
    case round =>
     clear HB
     obtain ⟨rfl, rfl, HB⟩ := hrel
     go_wp2_with fail
     go_loopg [14] 1 (fun kq v_ w' => kq = 1 ∧ v_ = .int .i64 0 ∧ Zb (Below w.heap.size w w'))
     case atStart => exact ⟨rfl, rfl, HB⟩
     case round =>
      clear HB
      obtain ⟨rfl, rfl, HB⟩ := hrel
      go_wp2_with fail
      go_ret
      exact ⟨rfl, HB.out⟩
theorem info163 : (Try.prog.info? 163).map (fun i => (i.zero, i.size, i.bytes)) = some (some (.slice none 0 0), 1, 24) := by kernel_rfl
set_option maxHeartbeats 4000000 in
set_option maxRecDepth 100000 in
theorem flat102_calls (w : World) : Calls Try.prog 102 #[.slice none 0 0] w fun e w' => e = .returned (.bool true) ∧ Below w.heap.size w w' := by
 have hmk : ∀ W : World, (Instr.makeSlice 93 (.int .i64 0) (.int .i64 0)).run Try.prog W = .ok (.slice (some ⟨W.heap.size, 0, none⟩) 0 0) (W.alloc (.cells (madeCells #[.slice none 0 0] 0) 163)) := fun W => run_make_row' (P := Try.prog) 93 163 (.slice none 0 0) 24 Try.underlying93 info163 rfl .i64 .i64 0 (by decide) (by decide) W
 go_enter Try.func102, Try.ntmps102
 go_wp2_with fail
 go_loopg [3] 1 (fun kq v_ w' => kq = 1 ∧ v_ = .int .i64 0 ∧ Zb (Below w.heap.size w w'))
 case atStart => exact ⟨rfl, rfl, ⟨Below.refl _ _⟩⟩
 case round =>
  obtain ⟨rfl, rfl, HB⟩ := hrel
  go_wp2_with fail
  go_loopg [6] 1 (fun kq v_ w' => kq = 1 ∧ v_ = .int .i64 0 ∧ Zb (Below w.heap.size w w'))
  case atStart => exact ⟨rfl, rfl, ⟨Zc HB.out _⟩⟩
  case round =>
   clear HB
   obtain ⟨rfl, rfl, HB⟩ := hrel
   go_wp2_with fail
   go_loopg [9] 1 (fun kq v_ w' => kq = 1 ∧ v_ = .int .i64 0 ∧ Zb (Below w.heap.size w w'))
   case atStart => exact ⟨rfl, rfl, HB⟩
   case round =>
    clear HB
    obtain ⟨rfl, rfl, HB⟩ := hrel
    go_wp2_with fail
    go_loopg [11] 1 (fun kq v_ w' => kq = 1 ∧ v_ = .int .i64 0 ∧ Zb (Below w.heap.size w w'))
    case atStart => exact ⟨rfl, rfl, HB⟩
    case round =>
     clear HB
     obtain ⟨rfl, rfl, HB⟩ := hrel
     go_wp2_with fail
     go_loopg [14] 1 (fun kq v_ w' => kq = 1 ∧ v_ = .int .i64 0 ∧ Zb (Below w.heap.size w w'))
     case atStart => exact ⟨rfl, rfl, HB⟩
     case round =>
      clear HB
      obtain ⟨rfl, rfl, HB⟩ := hrel
      go_wp2_with fail
      go_ret
      exact ⟨rfl, HB.out⟩
theorem info166 : (Try.prog.info? 166).map (fun i => (i.zero, i.size, i.bytes)) = some (some (.slice none 0 0), 1, 24) := by kernel_rfl
set_option maxHeartbeats 4000000 in
set_option maxRecDepth 100000 in
theorem flat104_calls (w : World) : Calls Try.prog 104 #[.slice none 0 0] w fun e w' => e = .returned (.bool true) ∧ Below w.heap.size w w' := by
 have hmk : ∀ W : World, (Instr.makeSlice 94 (.int .i64 0) (.int .i64 0)).run Try.prog W = .ok (.slice (some ⟨W.heap.size, 0, none⟩) 0 0) (W.alloc (.cells (madeCells #[.slice none 0 0] 0) 166)) := fun W => run_make_row' (P := Try.prog) 94 166 (.slice none 0 0) 24 Try.underlying94 info166 rfl .i64 .i64 0 (by decide) (by decide) W
 go_enter Try.func104, Try.ntmps104
 go_wp2_with fail
 go_loopg [3] 1 (fun kq v_ w' => kq = 1 ∧ v_ = .int .i64 0 ∧ Zb (Below w.heap.size w w'))
 case atStart => exact ⟨rfl, rfl, ⟨Below.refl _ _⟩⟩
 case round =>
  obtain ⟨rfl, rfl, HB⟩ := hrel
  go_wp2_with fail
  go_loopg [6] 1 (fun kq v_ w' => kq = 1 ∧ v_ = .int .i64 0 ∧ Zb (Below w.heap.size w w'))
  case atStart => exact ⟨rfl, rfl, ⟨Zc HB.out _⟩⟩
  case round =>
   clear HB
   obtain ⟨rfl, rfl, HB⟩ := hrel
   go_wp2_with fail
   go_loopg [9] 1 (fun kq v_ w' => kq = 1 ∧ v_ = .int .i64 0 ∧ Zb (Below w.heap.size w w'))
   case atStart => exact ⟨rfl, rfl, HB⟩
   case round =>
    clear HB
    obtain ⟨rfl, rfl, HB⟩ := hrel
    go_wp2_with fail
    go_loopg [11] 1 (fun kq v_ w' => kq = 1 ∧ v_ = .int .i64 0 ∧ Zb (Below w.heap.size w w'))
    case atStart => exact ⟨rfl, rfl, HB⟩
    case round =>
     clear HB
     obtain ⟨rfl, rfl, HB⟩ := hrel
     go_wp2_with fail
     go_loopg [14] 1 (fun kq v_ w' => kq = 1 ∧ v_ = .int .i64 0 ∧ Zb (Below w.heap.size w w'))
     case atStart => exact ⟨rfl, rfl, HB⟩
     case round =>
      clear HB
      obtain ⟨rfl, rfl, HB⟩ := hrel
      go_wp2_with fail
      go_ret
      exact ⟨rfl, HB.out⟩
theorem info170 : (Try.prog.info? 170).map (fun i => (i.zero, i.size, i.bytes)) = some (some (.slice none 0 0), 1, 24) := by kernel_rfl
set_option maxHeartbeats 4000000 in
set_option maxRecDepth 100000 in
theorem flat105_calls (w : World) : Calls Try.prog 105 #[.slice none 0 0] w fun e w' => e = .returned (.bool true) ∧ Below w.heap.size w w' := by
 have hmk : ∀ W : World, (Instr.makeSlice 95 (.int .i64 0) (.int .i64 0)).run Try.prog W = .ok (.slice (some ⟨W.heap.size, 0, none⟩) 0 0) (W.alloc (.cells (madeCells #[.slice none 0 0] 0) 170)) := fun W => run_make_row' (P := Try.prog) 95 170 (.slice none 0 0) 24 Try.underlying95 info170 rfl .i64 .i64 0 (by decide) (by decide) W
 go_enter Try.func105, Try.ntmps105
 go_wp2_with fail
 go_loopg [3] 1 (fun kq v_ w' => kq = 1 ∧ v_ = .int .i64 0 ∧ Zb (Below w.heap.size w w'))
 case atStart => exact ⟨rfl, rfl, ⟨Below.refl _ _⟩⟩
 case round =>
  obtain ⟨rfl, rfl, HB⟩ := hrel
  go_wp2_with fail
  go_loopg [6] 1 (fun kq v_ w' => kq = 1 ∧ v_ = .int .i64 0 ∧ Zb (Below w.heap.size w w'))
  case atStart => exact ⟨rfl, rfl, ⟨Zc HB.out _⟩⟩
  case round =>
   clear HB
   obtain ⟨rfl, rfl, HB⟩ := hrel
   go_wp2_with fail
   go_loopg [9] 1 (fun kq v_ w' => kq = 1 ∧ v_ = .int .i64 0 ∧ Zb (Below w.heap.size w w'))
   case atStart => exact ⟨rfl, rfl, HB⟩
   case round =>
    clear HB
    obtain ⟨rfl, rfl, HB⟩ := hrel
    go_wp2_with fail
    go_loopg [11] 1 (fun kq v_ w' => kq = 1 ∧ v_ = .int .i64 0 ∧ Zb (Below w.heap.size w w'))
    case atStart => exact ⟨rfl, rfl, HB⟩
    case round =>
     clear HB
     obtain ⟨rfl, rfl, HB⟩ := hrel
     go_wp2_with fail
     go_loopg [14] 1 (fun kq v_ w' => kq = 1 ∧ v_ = .int .i64 0 ∧ Zb (Below w.heap.size w w'))
     case atStart => exact ⟨rfl, rfl, HB⟩
     case round =>
      clear HB
      obtain ⟨rfl, rfl, HB⟩ := hrel
      go_wp2_with fail
      go_ret
      exact ⟨rfl, HB.out⟩
theorem info175 : (Try.prog.info? 175).map (fun i => (i.zero, i.size, i.bytes)) = some (some (.slice none 0 0), 1, 24) := by kernel_rfl
set_option maxHeartbeats 4000000 in
set_option maxRecDepth 100000 in
theorem flat106_calls (w : World) : Calls Try.prog 106 #[.slice none 0 0] w fun e w' => e = .returned (.bool true) ∧ Below w.heap.size w w' := by
 have hmk : ∀ W : World, (Instr.makeSlice 96 (.int .i64 0) (.int .i64 0)).run Try.prog W = .ok (.slice (some ⟨W.heap.size, 0, none⟩) 0 0) (W.alloc (.cells (madeCells #[.slice none 0 0] 0) 175)) := fun W => run_make_row' (P := Try.prog) 96 175 (.slice none 0 0) 24 Try.underlying96 info175 rfl .i64 .i64 0 (by decide) (by decide) W
 go_enter Try.func106, Try.ntmps106
 go_wp2_with fail
 go_loopg [3] 1 (fun kq v_ w' => kq = 1 ∧ v_ = .int .i64 0 ∧ Zb (Below w.heap.size w w'))
 case atStart => exact ⟨rfl, rfl, ⟨Below.refl _ _⟩⟩
 case round =>
  obtain ⟨rfl, rfl, HB⟩ := hrel
  go_wp2_with fail
  go_loopg [6] 1 (fun kq v_ w' => kq = 1 ∧ v_ = .int .i64 0 ∧ Zb (Below w.heap.size w w'))
  case atStart => exact ⟨rfl, rfl, ⟨Zc HB.out _⟩⟩
  case round =>
   clear HB
   obtain ⟨rfl, rfl, HB⟩ := hrel
   go_wp2_with fail
   go_loopg [9] 1 (fun kq v_ w' => kq = 1 ∧ v_ = .int .i64 0 ∧ Zb (Below w.heap.size w w'))
   case atStart => exact ⟨rfl, rfl, HB⟩
   case round =>
    clear HB
    obtain ⟨rfl, rfl, HB⟩ := hrel
    go_wp2_with fail
    go_loopg [11] 1 (fun kq v_ w' => kq = 1 ∧ v_ = .int .i64 0 ∧ Zb (Below w.heap.size w w'))
    case atStart => exact ⟨rfl, rfl, HB⟩
    case round =>
     clear HB
     obtain ⟨rfl, rfl, HB⟩ := hrel
     go_wp2_with fail
     go_loopg [14] 1 (fun kq v_ w' => kq = 1 ∧ v_ = .int .i64 0 ∧ Zb (Below w.heap.size w w'))
     case atStart => exact ⟨rfl, rfl, HB⟩
     case round =>
      clear HB
      obtain ⟨rfl, rfl, HB⟩ := hrel
      go_wp2_with fail
      go_ret
      exact ⟨rfl, HB.out⟩
theorem info180 : (Try.prog.info? 180).map (fun i => (i.zero, i.size, i.bytes)) = some (some (.slice none 0 0), 1, 24) := by kernel_rfl
set_option maxHeartbeats 4000000 in
set_option maxRecDepth 100000 in
theorem flat107_calls (w : World) : Calls Try.prog 107 #[.slice none 0 0] w fun e w' => e = .returned (.bool true) ∧ Below w.heap.size w w' := by
 have hmk : ∀ W : World, (Instr.makeSlice 97 (.int .i64 0) (.int .i64 0)).run Try.prog W = .ok (.slice (some ⟨W.heap.size, 0, none⟩) 0 0) (W.alloc (.cells (madeCells #[.slice none 0 0] 0) 180)) := fun W => run_make_row' (P := Try.prog) 97 180 (.slice none 0 0) 24 Try.underlying97 info180 rfl .i64 .i64 0 (by decide) (by decide) W
 go_enter Try.func107, Try.ntmps107
 go_wp2_with fail
 go_loopg [3] 1 (fun kq v_ w' => kq = 1 ∧ v_ = .int .i64 0 ∧ Zb (Below w.heap.size w w'))
 case atStart => exact ⟨rfl, rfl, ⟨Below.refl _ _⟩⟩
 case round =>
  obtain ⟨rfl, rfl, HB⟩ := hrel
  go_wp2_with fail
  go_loopg [6] 1 (fun kq v_ w' => kq = 1 ∧ v_ = .int .i64 0 ∧ Zb (Below w.heap.size w w'))
  case atStart => exact ⟨rfl, rfl, ⟨Zc HB.out _⟩⟩
  case round =>
   clear HB
   obtain ⟨rfl, rfl, HB⟩ := hrel
   go_wp2_with fail
   go_loopg [9] 1 (fun kq v_ w' => kq = 1 ∧ v_ = .int .i64 0 ∧ Zb (Below w.heap.size w w'))
   case atStart => exact ⟨rfl, rfl, HB⟩
   case round =>
    clear HB
    obtain ⟨rfl, rfl, HB⟩ := hrel
    go_wp2_with fail
    go_loopg [11] 1 (fun kq v_ w' => kq = 1 ∧ v_ = .int .i64 0 ∧ Zb (Below w.heap.size w w'))
    case atStart => exact ⟨rfl, rfl, HB⟩
    case round =>
     clear HB
     obtain ⟨rfl, rfl, HB⟩ := hrel
     go_wp2_with fail
     go_loopg [14] 1 (fun kq v_ w' => kq = 1 ∧ v_ = .int .i64 0 ∧ Zb (Below w.heap.size w w'))
     case atStart => exact ⟨rfl, rfl, HB⟩
     case round =>
      clear HB
      obtain ⟨rfl, rfl, HB⟩ := hrel
      go_wp2_with fail
      go_ret
      exact ⟨rfl, HB.out⟩
theorem info185 : (Try.prog.info? 185).map (fun i => (i.zero, i.size, i.bytes)) = some (some (.slice none 0 0), 1, 24) := by kernel_rfl
set_option maxHeartbeats 4000000 in
set_option maxRecDepth 100000 in
theorem flat108_calls (w : World) : Calls Try.prog 108 #[.slice none 0 0] w fun e w' => e = .returned (.bool true) ∧ Below w.heap.size w w' := by
 have hmk : ∀ W : World, (Instr.makeSlice 98 (.int .i64 0) (.int .i64 0)).run Try.prog W = .ok (.slice (some ⟨W.heap.size, 0, none⟩) 0 0) (W.alloc (.cells (madeCells #[.slice none 0 0] 0) 185)) := fun W => run_make_row' (P := Try.prog) 98 185 (.slice none 0 0) 24 Try.underlying98 info185 rfl .i64 .i64 0 (by decide) (by decide) W
 go_enter Try.func108, Try.ntmps108
 go_wp2_with fail
 go_loopg [3] 1 (fun kq v_ w' => kq = 1 ∧ v_ = .int .i64 0 ∧ Zb (Below w.heap.size w w'))
 case atStart => exact ⟨rfl, rfl, ⟨Below.refl _ _⟩⟩
 case round =>
  obtain ⟨rfl, rfl, HB⟩ := hrel
  go_wp2_with fail
  go_loopg [6] 1 (fun kq v_ w' => kq = 1 ∧ v_ = .int .i64 0 ∧ Zb (Below w.heap.size w w'))
  case atStart => exact ⟨rfl, rfl, ⟨Zc HB.out _⟩⟩
  case round =>
   clear HB
   obtain ⟨rfl, rfl, HB⟩ := hrel
   go_wp2_with fail
   go_loopg [9] 1 (fun kq v_ w' => kq = 1 ∧ v_ = .int .i64 0 ∧ Zb (Below w.heap.size w w'))
   case atStart => exact ⟨rfl, rfl, HB⟩
   case round =>
    clear HB
    obtain ⟨rfl, rfl, HB⟩ := hrel
    go_wp2_with fail
    go_loopg [11] 1 (fun kq v_ w' => kq = 1 ∧ v_ = .int .i64 0 ∧ Zb (Below w.heap.size w w'))
    case atStart => exact ⟨rfl, rfl, HB⟩
    case round =>
     clear HB
     obtain ⟨rfl, rfl, HB⟩ := hrel
     go_wp2_with fail
     go_loopg [14] 1 (fun kq v_ w' => kq = 1 ∧ v_ = .int .i64 0 ∧ Zb (Below w.heap.size w w'))
     case atStart => exact ⟨rfl, rfl, HB⟩
     case round =>
      clear HB
      obtain ⟨rfl, rfl, HB⟩ := hrel
      go_wp2_with fail
      go_ret
      exact ⟨rfl, HB.out⟩
theorem info190 : (Try.prog.info? 190).map (fun i => (i.zero, i.size, i.bytes)) = some (some (.slice none 0 0), 1, 24) := by kernel_rfl
set_option maxHeartbeats 4000000 in
set_option maxRecDepth 100000 in
theorem flat109_calls (w : World) : Calls Try.prog 109 #[.slice none 0 0] w fun e w' => e = .returned (.bool true) ∧ Below w.heap.size w w' := by
 have hmk : ∀ W : World, (Instr.makeSlice 99 (.int .i64 0) (.int .i64 0)).run Try.prog W = .ok (.slice (some ⟨W.heap.size, 0, none⟩) 0 0) (W.alloc (.cells (madeCells #[.slice none 0 0] 0) 190)) := fun W => run_make_row' (P := Try.prog) 99 190 (.slice none 0 0) 24 Try.underlying99 info190 rfl .i64 .i64 0 (by decide) (by decide) W
 go_enter Try.func109, Try.ntmps109
 go_wp2_with fail
 go_loopg [3] 1 (fun kq v_ w' => kq = 1 ∧ v_ = .int .i64 0 ∧ Zb (Below w.heap.size w w'))
 case atStart => exact ⟨rfl, rfl, ⟨Below.refl _ _⟩⟩
 case round =>
  obtain ⟨rfl, rfl, HB⟩ := hrel
  go_wp2_with fail
  go_loopg [6] 1 (fun kq v_ w' => kq = 1 ∧ v_ = .int .i64 0 ∧ Zb (Below w.heap.size w w'))
  case atStart => exact ⟨rfl, rfl, ⟨Zc HB.out _⟩⟩
  case round =>
   clear HB
   obtain ⟨rfl, rfl, HB⟩ := hrel
   go_wp2_with fail
   go_loopg [9] 1 (fun kq v_ w' => kq = 1 ∧ v_ = .int .i64 0 ∧ Zb (Below w.heap.size w w'))
   case atStart => exact ⟨rfl, rfl, HB⟩
   case round =>
    clear HB
    obtain ⟨rfl, rfl, HB⟩ := hrel
    go_wp2_with fail
    go_loopg [11] 1 (fun kq v_ w' => kq = 1 ∧ v_ = .int .i64 0 ∧ Zb (Below w.heap.size w w'))
    case atStart => exact ⟨rfl, rfl, HB⟩
    case round =>
     clear HB
     obtain ⟨rfl, rfl, HB⟩ := hrel
     go_wp2_with fail
     go_loopg [14] 1 (fun kq v_ w' => kq = 1 ∧ v_ = .int .i64 0 ∧ Zb (Below w.heap.size w w'))
     case atStart => exact ⟨rfl, rfl, HB⟩
     case round =>
      clear HB
      obtain ⟨rfl, rfl, HB⟩ := hrel
      go_wp2_with fail
      go_ret
      exact ⟨rfl, HB.out⟩
end Go.Proofs.Ytbmddlldadbfnaa.BS
end

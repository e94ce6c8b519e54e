/-
  What functions of this seat compute, part 'IntsHelp': contracts over their readable predicates. Conditions: each theorem's own hypotheses.
-/
import Derived.Test.YtneehnkdgjijiaaBase
import Derived.Test.YtneehnkdgjijiaaOpen
import Derived.Test.YtneehnkdgjijiaaGen
namespace Go.Proofs
open Go Go.Vc Go.RowKit
set_option maxRecDepth 100000
set_option linter.unusedVariables false
--!
/-! ## The helpers on lists of integers -/

theorem cI_one' (x : Int) : ∀ u ∈ cI x, u.oneCell' = true := by
  intro u hu
  simp only [cI, List.mem_cons, List.not_mem_nil, or_false] at hu
  rw [hu]; rfl

theorem toI {s : Sl} {xs : List Int} {w : World} (h : Ints w s xs) (hl : xs.length ≤ 1048576) {K : Value → World → Prop}
    (hk : ∀ (t : Sl) w', t.a = some ⟨w.heap.size, 0, none⟩ → Ints w' t xs → t.cap ≤ maxLen → w.heap.size < w'.heap.size → Own w.heap.size 3 1 w' t (xs.flatMap cI) → Ext w w' → K (.slice t.a t.len t.cap) w') : CallR Try.prog 18 [.slice s.a s.len s.cap] w K := by
  refine fn_laws_toIntS _ _ _ ?_
  unfold g_laws_toIntS
  have hl0 := h.len
  refine ⟨⟨by omega, by omega, by omega, by omega⟩, letW_i fun w1 hw1 => ?_⟩
  have e1 : Ext w w1 := by rw [hw1]; exact (Ext.refl w).alloc _
  have o1 : Own w.heap.size 3 1 w1 ⟨some ⟨w.heap.size, 0, none⟩, xs.length, xs.length⟩ ((List.replicate xs.length (0 : Int)).flatMap cI) := by
    rw [hw1, hl0, Int.toNat_natCast]
    exact Own.made cI_len (0 : Int) w 3 xs.length (by decide) (by unfold maxLen; omega)
  have hs1 : w.heap.size < w1.heap.size := by rw [hw1]; simp
  clear hw1
  refine sLoop_list xs (fun pre _ w' => Ext w w' ∧ w.heap.size < w'.heap.size ∧ Own w.heap.size 3 1 w' ⟨some ⟨w.heap.size, 0, none⟩, xs.length, xs.length⟩ ((pre ++ List.replicate (xs.length - pre.length) (0 : Int)).flatMap cI)) ⟨e1, hs1, by simpa using o1⟩ ?_ ?_
  · rintro K2 pre post c t w2 hx ⟨he, hs, ho⟩ hK _
    have hm := mid_len hx
    obtain ⟨a, ha, c0⟩ := (h.ext he).im hx
    rw [show xs.length - pre.length = (xs.length - (pre ++ [c]).length) + 1 by simp; omega, List.replicate_succ] at ho
    obtain ⟨a', ha', _, p1, q1⟩ := Own.put1 (y := c) cI_len ho rfl (K := fun w' => InR .i64 ((pre.length : Int) + 1) ∧ K2 ((pre.length : Int) + 1, ()) w') (fun w3 o3 g3 =>
      ⟨inR_i64 (by omega) (by omega), hK _ _ ⟨he.own ho g3 (Nat.le_refl _), Nat.lt_of_lt_of_le hs g3.size, by simpa using o3⟩⟩)
    have : a' = ⟨w.heap.size, 0, none⟩ := by simpa using ha'.symm
    subst this
    exact br_dt (by omega) (onSome_i ha ⟨⟨by omega, by omega⟩, _, c0, ⟨by omega, by rw [Int.toNat_natCast]; omega⟩, p1, q1⟩)
  · rintro K2 t w2 ⟨he, hs, ho⟩ _
    refine br_df (by omega) ?_
    have ho' : Own w.heap.size 3 1 w2 ⟨some ⟨w.heap.size, 0, none⟩, xs.length, xs.length⟩ (xs.flatMap cI) := by simpa using ho
    rw [hl0, Int.toNat_natCast]
    exact hk ⟨some ⟨w.heap.size, 0, none⟩, xs.length, xs.length⟩ w2 rfl (ho'.slOf cI_len (by decide)) (by simp only; unfold maxLen; omega) hs ho' he

theorem eqInts_core {s t : Sl} {xs ys : List Int} {w : World} (h : Ints w s xs) (h' : Ints w t ys) (hl : xs.length ≤ maxLen) {Φ : Value → World → Prop} (hΦ : ∀ w', Ext w w' → Φ (.bool (decide (xs = ys))) w') :
    br ((s.len : Int) != (t.len : Int)) (Φ (.bool false) w) (sLoop (σ := Int × Unit) ((0 : Int), ()) w (fun K2 st1 w3 => ∀ H4 : Fr, br (decide (st1.1 < (s.len : Int))) (∀ w5, Below w3.heap.size w3 w5 → onSome s.a (fun a6 => ((0 : Int) ≤ st1.1 ∧ st1.1 < (s.len : Int)) ∧ ∃ n7 : Int, w5.cell? (a6.add (st1.1.toNat * 1)) = some (.int .i64 n7) ∧
      onSome t.a (fun a8 => ((0 : Int) ≤ st1.1 ∧ st1.1 < (t.len : Int)) ∧ ∃ n9 : Int, w5.cell? (a8.add (st1.1.toNat * 1)) = some (.int .i64 n9) ∧ br (n7 != n9) (Φ (.bool false) w5) (InR .i64 (st1.1 + (1 : Int)) ∧ K2 ((st1.1 + (1 : Int)), ()) w5)))) (Φ (.bool true) w3))) := by
  unfold maxLen at hl
  have hl0 := h.len
  have hl1 := h'.len
  have no : xs ≠ ys → ∀ w', Ext w w' → Φ (.bool false) w' := fun hn w' e' => by
    have := hΦ w' e'; rwa [decide_eq_false hn] at this
  refine br_i (fun g => no (fun e => by subst e; simp at g; omega) w (Ext.refl _)) (fun g => ?_)
  have hlen : xs.length = ys.length := by simp at g; omega
  refine sLoop_list xs (fun pre _ w' => Ext w w' ∧ pre = ys.take pre.length) ⟨Ext.refl _, rfl⟩ ?_ ?_
  · rintro K pre post c u w1 hx ⟨he, hp⟩ hK _
    have hm := mid_len hx
    refine br_dt (by omega) (fun w2 (e2 : Ext w1 w2) => ?_)
    have e02 := he.trans e2
    obtain ⟨a, ha1, c0⟩ := (h.ext e02).im hx
    have hlt : pre.length < ys.length := by omega
    have hy : ys = ys.take pre.length ++ ys[pre.length] :: ys.drop (pre.length + 1) := by simp
    have hyl : (ys.take pre.length).length = pre.length := by simp; omega
    obtain ⟨b, hb1, d0⟩ := (h'.ext e02).im hy
    rw [hyl] at d0
    refine onSome_i ha1 ⟨⟨by omega, by omega⟩, _, c0, onSome_i hb1 ⟨⟨by omega, by omega⟩, _, d0, br_i (fun g2 => no ?_ w2 e02) (fun g2 => ⟨inR_i64 (by omega) (by omega), hK _ _ ⟨e02, ?_⟩⟩)⟩⟩
    · intro e
      have hne : c ≠ ys[pre.length] := by simpa using g2
      apply hne
      have h1 : xs[pre.length]? = some c := mid_get hx
      rw [e, List.getElem?_eq_getElem hlt] at h1
      exact (Option.some.inj h1).symm
    · have heq : c = ys[pre.length] := by simpa using g2
      rw [List.length_append, List.length_singleton, ← List.take_append_getElem hlt, ← heq, ← hp]
  · rintro K u w1 ⟨he, hp⟩ _
    refine br_df (by omega) ?_
    have : xs = ys := by rw [hp, hlen, List.take_length]
    have h2 := hΦ w1 he
    rwa [decide_eq_true this] at h2

theorem c_laws_eqIntS {s t : Sl} {xs ys : List Int} {w : World} (h : Ints w s xs) (h' : Ints w t ys) (hl : xs.length ≤ maxLen) :
    CallR Try.prog 21 [.slice s.a s.len s.cap, .slice t.a t.len t.cap] w (fun v w' => v = .bool (decide (xs = ys)) ∧ Ext w w') := by
  refine fn_laws_eqIntS _ _ _ _ ?_
  exact eqInts_core (Φ := fun v w' => v = .bool (decide (xs = ys)) ∧ Ext w w') h h' hl fun w' e' => ⟨rfl, e'⟩

theorem c_laws_equalInts {s t : Sl} {xs ys : List Int} {w : World} (h : Ints w s xs) (h' : Ints w t ys) (hl : xs.length ≤ maxLen) :
    CallR Try.prog 14 [.slice s.a s.len s.cap, .slice t.a t.len t.cap] w (fun v w' => v = .bool (decide (xs = ys)) ∧ Ext w w') := by
  refine fn_laws_equalInts _ _ _ _ ?_
  exact eqInts_core (Φ := fun v w' => v = .bool (decide (xs = ys)) ∧ Ext w w') h h' hl fun w' e' => ⟨rfl, e'⟩

def markI (k : Int) : Nat → List Int
  | 0 => []
  | n + 1 => k :: markI (k + 1) n

theorem markI_len : ∀ (n : Nat) (k : Int), (markI k n).length = n
  | 0, _ => rfl
  | n + 1, k => by simp [markI, markI_len n]

theorem markI_snoc : ∀ (n : Nat) (k : Int), markI k (n + 1) = markI k n ++ [k + n]
  | 0, k => by simp [markI]
  | n + 1, k => by
    rw [markI, markI_snoc n (k + 1), markI]
    simp only [List.cons_append]
    have : k + 1 + (n : Int) = k + ((n + 1 : Nat) : Int) := by omega
    rw [this]

theorem markI_get {n i : Nat} (h : i < n) (k : Int) : (markI k n)[i]? = some (k + i) := by
  induction n generalizing i k with
  | zero => omega
  | succ n ih =>
    cases i with
    | zero => simp [markI]
    | succ i =>
      rw [markI, List.getElem?_cons_succ, ih (by omega)]
      have : k + 1 + (i : Int) = k + ((i + 1 : Nat) : Int) := by omega
      rw [this]

theorem c_laws_markIntS {w : World} {l : Sl} {xs : List Int} {base : Nat} (k : Int) (o : Own base 3 1 w l (xs.flatMap cI)) (h1 : 0 ≤ k) (h2 : k ≤ 1000) (hl : xs.length ≤ 1048576) :
    CallR Try.prog 24 [.slice l.a l.len l.cap, .int .i64 k] w (fun v w' => v = .int .i64 (k + xs.length) ∧ Own base 3 1 w' l ((markI k xs.length).flatMap cI) ∧ w.grownBy w' l.v.ownBlock) := by
  refine fn_laws_markIntS _ _ _ _ ?_
  unfold g_laws_markIntS
  have hll := o.len cI_len (by decide)
  refine sLoop_list xs (fun pre t w' => t.1 = k + pre.length ∧ Own base 3 1 w' l ((markI k pre.length ++ xs.drop pre.length).flatMap cI) ∧ w.grownBy w' l.v.ownBlock) ⟨by simp, by simpa [markI] using o, grown_refl _ _⟩ ?_ ?_
  · rintro K pre post c ⟨t, u⟩ w1 hx ⟨ht, ho, hg⟩ hK _
    have hm := mid_len hx
    simp only at ht
    subst ht
    simp only
    have hd : xs.drop pre.length = c :: post := by rw [hx]; simp
    rw [hd] at ho
    have hml := markI_len pre.length k
    obtain ⟨a, ha, hil, p1, q1⟩ := Own.put1 (y := k + pre.length) cI_len ho rfl (K := fun w' => InR .i64 (k + (pre.length : Int) + 1) ∧ InR .i64 ((pre.length : Int) + 1) ∧ K ((pre.length : Int) + 1, k + pre.length + 1, ()) w') (fun w3 o3 g3 => by
      refine ⟨inR_i64 (by omega) (by omega), inR_i64 (by omega) (by omega), hK _ _ ⟨by simp; omega, ?_, grown_trans hg g3⟩⟩
      have hd' : xs.drop (pre ++ [c]).length = post := by rw [hx]; simp
      rw [hd', List.length_append, List.length_singleton, markI_snoc]
      simpa using o3)
    rw [hml] at p1 q1 hil
    exact br_dt (by omega) (onSome_i ha ⟨⟨by omega, by omega⟩, p1, q1⟩)
  · rintro K ⟨t, u⟩ w1 ⟨ht, ho, hg⟩ _
    simp only at ht
    refine br_df (by omega) ⟨by rw [ht], by simpa using ho, hg⟩

theorem c_laws_heldIntS {w : World} {l : Sl} {n : Nat} (k : Int) (h : Ints w l (markI k n)) (h1 : 0 ≤ k) (h2 : k ≤ 1000) (hl : n ≤ 1048576) :
    CallR Try.prog 25 [.slice l.a l.len l.cap, .int .i64 k] w (fun v w' => v = .int .i64 (k + n) ∧ Ext w w') := by
  refine fn_laws_heldIntS _ _ _ _ ?_
  unfold g_laws_heldIntS
  have hll := h.len
  rw [markI_len] at hll
  refine sLoop_up n (fun i t w' => t.1 = k + i ∧ Ext w w') ⟨by simp, Ext.refl _⟩ ?_ ?_
  · rintro K i ⟨t, u⟩ w1 hi ⟨ht, he⟩ hK _
    simp only at ht
    subst ht
    simp only
    obtain ⟨a, ha, c0⟩ := (h.ext he).cell1 cI_len (markI_get hi k) rfl
    exact br_dt (by omega) (onSome_i ha ⟨⟨by omega, by omega⟩, _, c0, br_f (by simp) ⟨inR_i64 (by omega) (by omega), inR_i64 (by omega) (by omega), hK _ _ ⟨by simp; omega, he⟩⟩⟩)
  · rintro K ⟨t, u⟩ w1 ⟨ht, he⟩ _
    simp only at ht
    exact br_df (by omega) ⟨by rw [ht], he⟩
end Go.Proofs

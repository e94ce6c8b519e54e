/-
  What functions of this seat compute, part 'StrMark': contracts over their readable predicates. Conditions: each theorem's own hypotheses.
-/
import Derived.Test.YtpofoikpmafnbaaDoorBase
import Derived.Test.YtpofoikpmafnbaaDoorOpen
import Derived.Test.YtpofoikpmafnbaaDoorGen
import Derived.Test.YtpofoikpmafnbaaDoorCMark
namespace Go.Proofs
open Go Go.Vc Go.RowKit
set_option maxRecDepth 100000
set_option linter.unusedVariables false
--! C:Mark
/-! ## Marks in lists of texts -/

def markS (k : Int) : Nat → List ByteArray
  | 0 => []
  | n + 1 => mtx k :: markS (k + 1) n

theorem markS_len : ∀ (n : Nat) (k : Int), (markS k n).length = n
  | 0, _ => rfl
  | n + 1, k => by simp [markS, markS_len n]

theorem markS_snoc : ∀ (n : Nat) (k : Int), markS k (n + 1) = markS k n ++ [mtx (k + n)]
  | 0, k => by simp [markS]
  | n + 1, k => by
    rw [markS, markS_snoc n (k + 1), markS]
    simp only [List.cons_append]
    have : k + 1 + (n : Int) = k + ((n + 1 : Nat) : Int) := by omega
    rw [this]

theorem markS_get {n i : Nat} (h : i < n) (k : Int) : (markS k n)[i]? = some (mtx (k + i)) := by
  induction n generalizing i k with
  | zero => omega
  | succ n ih =>
    cases i with
    | zero => simp [markS]
    | succ i =>
      rw [markS, List.getElem?_cons_succ, ih (by omega)]
      have : k + 1 + (i : Int) = k + ((i + 1 : Nat) : Int) := by omega
      rw [this]

theorem c_laws_markStringS {w : World} {l : Sl} {xs : List ByteArray} {base : Nat} (k : Int) (o : Own base 9 1 w l (xs.flatMap cS)) (hb : base ≤ w.heap.size) (h1 : 0 ≤ k) (h2 : k ≤ 900000000) (hl : xs.length ≤ 1048576) :
    CallR Tryd.prog 9 [.slice l.a l.len l.cap, .int .i64 k] w (fun v w' => v = .int .i64 (k + xs.length) ∧ Own base 9 1 w' l ((markS k xs.length).flatMap cS) ∧ w.grownBy w' l.v.ownBlock) := by
  refine fn_laws_markStringS _ _ _ _ ?_
  unfold g_laws_markStringS
  have hll := o.len cS_len (by decide)
  refine sLoop_list xs (fun pre t w' => t.1 = k + pre.length ∧ Own base 9 1 w' l ((markS k pre.length ++ xs.drop pre.length).flatMap cS) ∧ w.grownBy w' l.v.ownBlock) ⟨by simp, by simpa [markS] using o, grown_refl _ _⟩ ?_ ?_
  · rintro K pre post c ⟨t, u⟩ w1 hx ⟨ht, ho, hg⟩ hK _
    have hm := mid_len hx
    simp only at ht
    subst ht
    simp only
    have hd : xs.drop pre.length = c :: post := by rw [hx]; simp
    rw [hd] at ho
    have hml := markS_len pre.length k
    refine br_dt (by omega) ((c_laws_markText _ w1 (by omega)).go fun w2 e2 => ⟨_, rfl, ?_⟩)
    obtain ⟨a, ha, hil, p1, q1⟩ := Own.put1 (y := mtx (k + pre.length)) cS_len (ho.ext e2) rfl (K := fun w' => InR .i64 (k + (pre.length : Int) + 1) ∧ InR .i64 ((pre.length : Int) + 1) ∧ K ((pre.length : Int) + 1, k + pre.length + 1, ()) w') (fun w3 o3 g3 => by
      refine ⟨inR_i64 (by omega) (by omega), inR_i64 (by omega) (by omega), hK _ _ ⟨by simp; omega, ?_, grown_trans (grown_trans hg (grown_ext e2)) g3⟩⟩
      have hd' : xs.drop (pre ++ [c]).length = post := by rw [hx]; simp
      rw [hd', List.length_append, List.length_singleton, markS_snoc]
      simpa using o3)
    rw [hml] at p1 q1 hil
    exact onSome_i ha ⟨⟨by omega, by omega⟩, p1, q1⟩
  · rintro K ⟨t, u⟩ w1 ⟨ht, ho, hg⟩ _
    simp only at ht
    refine br_df (by omega) ⟨by rw [ht], by simpa using ho, hg⟩

theorem c_laws_heldStringS {w : World} {l : Sl} {n : Nat} (k : Int) (h : Strs w l (markS k n)) (h1 : 0 ≤ k) (h2 : k ≤ 900000000) (hl : n ≤ 1048576) :
    CallR Tryd.prog 10 [.slice l.a l.len l.cap, .int .i64 k] w (fun v w' => v = .int .i64 (k + n) ∧ Ext w w') := by
  refine fn_laws_heldStringS _ _ _ _ ?_
  unfold g_laws_heldStringS
  have hll := h.len
  rw [markS_len] at hll
  refine sLoop_up n (fun i t w' => t.1 = k + i ∧ Ext w w') ⟨by simp, Ext.refl _⟩ ?_ ?_
  · rintro K i ⟨t, u⟩ w1 hi ⟨ht, he⟩ hK _
    simp only at ht
    subst ht
    simp only
    obtain ⟨a, ha, c0⟩ := (h.ext he).cell1 cS_len (markS_get hi k) rfl
    refine br_dt (by omega) ⟨fun w' => Ext w1 w', fun _ h => h, fun w2 e2 => onSome_i ha ⟨⟨by omega, by omega⟩, e2, _, fun w' e' => Ext.get e' c0, e2, ?_⟩⟩
    refine (c_laws_markText _ w2 (by omega)).go fun w3 e3 => ⟨_, rfl, Ext.trans e2 e3, br_f (by simp [seqB_eq]) ⟨inR_i64 (by omega) (by omega), inR_i64 (by omega) (by omega), hK _ _ ⟨by simp; omega, he.trans (Ext.trans e2 e3)⟩⟩⟩
  · rintro K ⟨t, u⟩ w1 ⟨ht, he⟩ _
    simp only at ht
    exact br_df (by omega) ⟨by rw [ht], he⟩
end Go.Proofs

/-
  What functions of this seat compute, part 'MarkShape': contracts over their readable predicates. Conditions: each theorem's own hypotheses.
-/
import Derived.Test.YtcgfhchmpoaiiaaBase
import Derived.Test.YtcgfhchmpoaiiaaOpen
import Derived.Test.YtcgfhchmpoaiiaaGen
import Derived.Test.YtcgfhchmpoaiiaaCSmall
import Derived.Test.YtcgfhchmpoaiiaaCOrder
import Derived.Test.YtcgfhchmpoaiiaaCNode
import Derived.Test.YtcgfhchmpoaiiaaCNodeText
import Derived.Test.YtcgfhchmpoaiiaaCNodeValid
import Derived.Test.YtcgfhchmpoaiiaaCNodeSpec
import Derived.Test.YtcgfhchmpoaiiaaCHelpS
import Derived.Test.YtcgfhchmpoaiiaaCNodeHelp
import Derived.Test.YtcgfhchmpoaiiaaCNodeHelp2
import Derived.Test.YtcgfhchmpoaiiaaCNodeTop
import Derived.Test.YtcgfhchmpoaiiaaCMark
import Derived.Test.YtcgfhchmpoaiiaaCStrMark
import Derived.Test.YtcgfhchmpoaiiaaCCells
import Derived.Test.YtcgfhchmpoaiiaaCShape
import Derived.Test.YtcgfhchmpoaiiaaCShape2
import Derived.Test.YtcgfhchmpoaiiaaCShapeOf
namespace Go.Proofs
open Go Go.Vc Go.RowKit
set_option maxRecDepth 100000
set_option linter.unusedVariables false
--! C:Small C:Order C:Node C:NodeText C:NodeValid C:NodeSpec C:HelpS C:NodeHelp C:NodeHelp2 C:NodeTop C:Mark C:StrMark C:Cells C:Shape C:Shape2 C:ShapeOf
/-! ## Marks in shapes -/

def markB (k : Int) : Nat → List Bool
  | 0 => []
  | n + 1 => ((k % 3) == 0) :: markB (k + 1) n
theorem markB_len : ∀ (n : Nat) (k : Int), (markB k n).length = n
  | 0, _ => rfl
  | n + 1, k => by simp [markB, markB_len n]
theorem markB_snoc : ∀ (n : Nat) (k : Int), markB k (n + 1) = markB k n ++ [((k + n) % 3) == 0]
  | 0, k => by simp [markB]
  | n + 1, k => by
    rw [markB, markB_snoc n (k + 1), markB]
    simp only [List.cons_append]
    have : k + 1 + (n : Int) = k + ((n + 1 : Nat) : Int) := by omega
    rw [this]
theorem markB_get {n i : Nat} (h : i < n) (k : Int) : (markB k n)[i]? = some (((k + i) % 3) == 0) := by
  induction n generalizing i k with
  | zero => omega
  | succ n ih =>
    cases i with
    | zero => simp [markB]
    | succ i =>
      rw [markB, List.getElem?_cons_succ, ih (by omega)]
      have : k + 1 + (i : Int) = k + ((i + 1 : Nat) : Int) := by omega
      rw [this]

theorem c_laws_markBoolS {w : World} {l : Sl} {xs : List Bool} {base : Nat} (k : Int) (o : Own base 4 1 w l (xs.flatMap cB)) (h1 : 0 ≤ k) (h2 : k ≤ 900000000) (hl : xs.length ≤ 1048576) :
    CallR Try.prog 52 [.slice l.a l.len l.cap, .int .i64 k] w (fun v w' => v = .int .i64 (k + xs.length) ∧ Own base 4 1 w' l ((markB k xs.length).flatMap cB) ∧ w.grownBy w' l.v.ownBlock) := by
  refine fn_laws_markBoolS _ _ _ _ ?_
  unfold g_laws_markBoolS
  have hll := o.len cB_len (by decide)
  refine sLoop_list xs (fun pre t w' => t.1 = k + pre.length ∧ Own base 4 1 w' l ((markB k pre.length ++ xs.drop pre.length).flatMap cB) ∧ w.grownBy w' l.v.ownBlock) ⟨by simp, by simpa [markB] using o, grown_refl _ _⟩ ?_ ?_
  · rintro K pre post c ⟨t, u⟩ w1 hx ⟨ht, ho, hg⟩ hK _
    have hm := mid_len hx
    simp only at ht
    subst ht
    simp only
    have hd : xs.drop pre.length = c :: post := by rw [hx]; simp
    rw [hd] at ho
    have hml := markB_len pre.length k
    obtain ⟨a, ha, hil, p1, q1⟩ := Own.put1 (y := ((k + (pre.length : Int)) % 3) == 0) cB_len ho rfl (K := fun w' => InR .i64 (k + (pre.length : Int) + 1) ∧ InR .i64 ((pre.length : Int) + 1) ∧ K ((pre.length : Int) + 1, k + pre.length + 1, ()) w') (fun w3 o3 g3 => by
      refine ⟨inR_i64 (by omega) (by omega), inR_i64 (by omega) (by omega), hK _ _ ⟨by simp; omega, ?_, grown_trans hg g3⟩⟩
      have hd' : xs.drop (pre ++ [c]).length = post := by rw [hx]; simp
      rw [hd', List.length_append, List.length_singleton, markB_snoc]
      simpa using o3)
    rw [hml] at p1 q1 hil
    exact br_dt (by omega) ⟨⟨by omega, by omega⟩, onSome_i ha ⟨⟨by omega, by omega⟩, p1, q1⟩⟩
  · rintro K ⟨t, u⟩ w1 ⟨ht, ho, hg⟩ _
    simp only at ht
    refine br_df (by omega) ⟨by rw [ht], by simpa using ho, hg⟩

theorem c_laws_heldBoolS {w : World} {l : Sl} {n : Nat} (k : Int) (h : Bools w l (markB k n)) (h1 : 0 ≤ k) (h2 : k ≤ 900000000) (hl : n ≤ 1048576) :
    CallR Try.prog 55 [.slice l.a l.len l.cap, .int .i64 k] w (fun v w' => v = .int .i64 (k + n) ∧ Ext w w') := by
  refine fn_laws_heldBoolS _ _ _ _ ?_
  unfold g_laws_heldBoolS
  have hll := h.len
  rw [markB_len] at hll
  refine sLoop_up n (fun i t w' => t.1 = k + i ∧ Ext w w') ⟨by simp, Ext.refl _⟩ ?_ ?_
  · rintro K i ⟨t, u⟩ w1 hi ⟨ht, he⟩ hK _
    simp only at ht
    subst ht
    simp only
    obtain ⟨a, ha, c0⟩ := (h.ext he).cell1 cB_len (markB_get hi k) rfl
    refine br_dt (by omega) (onSome_i ha ⟨⟨by omega, by omega⟩, _, c0, ⟨by omega, by omega⟩, br_f (by simp) ⟨inR_i64 (by omega) (by omega), inR_i64 (by omega) (by omega), hK _ _ ⟨by simp; omega, he⟩⟩⟩)
  · rintro K ⟨t, u⟩ w1 ⟨ht, he⟩ _
    simp only at ht
    exact br_df (by omega) ⟨by rw [ht], he⟩

/-! ### Marked shapes -/

mutual
def cm : Sh → Nat
  | .mk _ ns bs ks => ns.length + bs.length + cmL ks
def cmL : List Sh → Nat
  | [] => 0
  | x :: r => 1 + cm x + cmL r
end
def setK (k : Int) : Sh → Sh
  | .mk _ ns bs ks => .mk k ns bs ks
mutual
def mkS : Int → Sh → Sh
  | k, .mk kd ns bs ks => .mk kd (markS k ns.length) (markB (k + ns.length) bs.length) (mkL (k + ns.length + bs.length) ks)
def mkL : Int → List Sh → List Sh
  | _, [] => []
  | k, x :: r => setK k (mkS (k + 1) x) :: mkL (k + 1 + cm x) r
end
theorem cm_eq (x : Sh) : cm x = x.ns.length + x.bs.length + cmL x.ks := by cases x; simp [cm, Sh.ns, Sh.bs, Sh.ks]
theorem mkS_eq (k : Int) (x : Sh) : mkS k x = .mk x.k (markS k x.ns.length) (markB (k + x.ns.length) x.bs.length) (mkL (k + x.ns.length + x.bs.length) x.ks) := by cases x; simp [mkS, Sh.k, Sh.ns, Sh.bs, Sh.ks]
theorem cmL_append : ∀ (a b : List Sh), cmL (a ++ b) = cmL a + cmL b
  | [], b => by simp [cmL]
  | x :: r, b => by simp only [List.cons_append, cmL, cmL_append r b]; omega
theorem mkL_len : ∀ (l : List Sh) (k : Int), (mkL k l).length = l.length
  | [], k => by simp [mkL]
  | x :: r, k => by simp [mkL, mkL_len r]
theorem mkL_append : ∀ (a b : List Sh) (k : Int), mkL k (a ++ b) = mkL k a ++ mkL (k + cmL a) b
  | [], b, k => by simp [mkL, cmL]
  | x :: r, b, k => by
    simp only [List.cons_append, mkL, mkL_append r b, cmL]
    have : k + 1 + (cm x : Int) + (cmL r : Int) = k + ((1 + cm x + cmL r : Nat) : Int) := by omega
    rw [this]
theorem cm_kid {n x : Sh} {pre post : List Sh} (h : n.ks = pre ++ x :: post) : n.ns.length + n.bs.length + cmL pre + 1 + cm x + cmL post = cm n := by
  rw [cm_eq n, h, cmL_append]; simp only [cmL]; omega
end Go.Proofs

/-
  What functions of this seat compute, part 'NodeText': contracts over their readable predicates. Conditions: each theorem's own hypotheses.
-/
import Derived.Test.YtcgfhchmpoaiiaaBase
import Derived.Test.YtcgfhchmpoaiiaaOpen
import Derived.Test.YtcgfhchmpoaiiaaGen
import Derived.Test.YtcgfhchmpoaiiaaCSmall
import Derived.Test.YtcgfhchmpoaiiaaCOrder
import Derived.Test.YtcgfhchmpoaiiaaCNode
namespace Go.Proofs
open Go Go.Vc Go.RowKit
set_option maxRecDepth 100000
set_option linter.unusedVariables false
--! C:Small C:Order C:Node
/-! ## Texts and names of nodes -/

theorem exI {w : World} {p : Addr} {k : IntKind} {n0 : Int} {K : Int → Prop} (h : w.cell? p = some (.int k n0)) : (∃ n : Int, w.cell? p = some (.int k n) ∧ K n) = K n0 := by
  rw [h]; simp
theorem exS {w : World} {p : Addr} {s0 : ByteArray} {K : ByteArray → Prop} (h : w.cell? p = some (.string s0)) : (∃ s : ByteArray, w.cell? p = some (.string s) ∧ K s) = K s0 := by
  rw [h]; simp
theorem exB {w : World} {p : Addr} {b0 : Bool} {K : Bool → Prop} (h : w.cell? p = some (.bool b0)) : (∃ b : Bool, w.cell? p = some (.bool b) ∧ K b) = K b0 := by
  rw [h]; simp
theorem exL {w : World} {p : Addr} {s0 : Sl} {K : Sl → Prop} (h : w.cell? p = some (.slice s0.a s0.len s0.cap)) : (∃ l : Sl, w.cell? p = some (.slice l.a l.len l.cap) ∧ K l) = K s0 := by
  rw [h]
  apply propext
  constructor
  · rintro ⟨⟨a, l, c⟩, he, hk⟩
    simp only [Option.some.injEq, Value.slice.injEq] at he
    obtain ⟨h1, h2, h3⟩ := he
    obtain ⟨a0, l0, c0⟩ := s0
    simp only at h1 h2 h3
    subst h1 h2 h3
    exact hk
  · intro hk; exact ⟨s0, rfl, hk⟩

theorem brT (A B : Prop) : br true A B = A := rfl
theorem brF (A B : Prop) : br false A B = B := rfl

def isCh (c : UInt8) : Bool := decide (32 ≤ c.toNat ∧ c.toNat ≤ 126)
def okTxt (s : ByteArray) : Bool := s.data.toList.all isCh && decide (s.size ≤ 12)
def ascN : List ByteArray → Bool
  | a :: b :: r => sltB a b && ascN (b :: r)
  | _ => true
def okNames (ns : List ByteArray) : Bool := ns.all okTxt && ascN ns

theorem ascN_snoc : ∀ (pre : List ByteArray) (p c : ByteArray), ascN (pre ++ [p, c]) = (ascN (pre ++ [p]) && sltB p c)
  | [], p, c => by simp [ascN]
  | [a], p, c => by simp [ascN]
  | a :: b :: r, p, c => by
    have := ascN_snoc (b :: r) p c
    simp only [List.cons_append, ascN] at this ⊢
    rw [this, Bool.and_assoc]

theorem ascN_mid : ∀ (pre : List ByteArray) (p c : ByteArray) (post : List ByteArray), ascN (pre ++ p :: c :: post) = true → sltB p c = true
  | [], p, c, post, h => by simp [ascN] at h; exact h.1
  | [a], p, c, post, h => by simp [ascN] at h; exact h.2.1
  | a :: b :: r, p, c, post, h => by
    simp only [List.cons_append, ascN, Bool.and_eq_true] at h
    exact ascN_mid (b :: r) p c post h.2

theorem snocCases {α : Type} (l : List α) : l = [] ∨ ∃ r p, l = r ++ [p] := by
  rcases List.eq_nil_or_concat l with h | ⟨r, p, h⟩
  · exact .inl h
  · exact .inr ⟨r, p, by simpa using h⟩

theorem okNames_bad {ns pre post : List ByteArray} {c : ByteArray} (hx : ns = pre ++ c :: post) (h : okTxt c = false) : okNames ns = false := by
  have : ns.all okTxt = false := by rw [hx]; simp [h]
  simp [okNames, this]

theorem okNames_dis {ns pre post : List ByteArray} {p c : ByteArray} (hx : ns = pre ++ p :: c :: post) (h : sltB p c = false) : okNames ns = false := by
  have : ascN ns = false := by
    cases ha : ascN ns with
    | false => rfl
    | true => rw [hx] at ha; rw [ascN_mid _ _ _ _ ha] at h; cases h
  simp [okNames, this]

theorem c_spec_validText (s : ByteArray) (w : World) (hs : s.size ≤ maxLen) : CallR Try.prog 73 [.string s] w (fun v w' => v = .bool (okTxt s) ∧ Ext w w') := by
  refine fn_spec_validText _ _ _ ?_
  unfold g_spec_validText
  unfold maxLen at hs
  have hsz := size_eq s
  refine sLoop_list s.data.toList (fun pre _ w' => Ext w w' ∧ pre.all isCh = true) ⟨Ext.refl _, rfl⟩ ?_ ?_
  · intro K pre post c t w1 hx ⟨he, ha⟩ hK _
    have hl := mid_len hx
    have hb := byteAt_mid hx
    have hc := c.toNat_lt
    refine br_dt (by omega) ⟨⟨by omega, by omega⟩, inR_i64 (by rw [hb]; omega) (by rw [hb]; omega), ?_⟩
    rw [hb]
    refine (c_spec_inRange _ _ _ _).go fun w2 e2 => ⟨_, rfl, br_i (fun g => ⟨?_, he.trans e2⟩) (fun g => ⟨inR_i64 (by omega) (by omega), hK _ _ ⟨he.trans e2, ?_⟩⟩)⟩
    · have h1 := of_decide_eq_false (nott g)
      have : isCh c = false := decide_eq_false (by omega)
      simp [okTxt, hx, this]
    · have h1 := of_decide_eq_true (notf g)
      have : isCh c = true := decide_eq_true (by omega)
      simp [ha, this]
  · intro K t w1 ⟨he, ha⟩ _
    refine br_df (by omega) ⟨?_, he⟩
    simp only [okTxt, ha, Bool.true_and]
    congr 2
    rw [eq_iff_iff]; omega

theorem c_impl_isPlainText (s : ByteArray) (w : World) : CallR Try.prog 74 [.string s] w (fun v w' => v = .bool (okTxt s) ∧ Ext w w') := by
  refine fn_impl_isPlainText _ _ _ ?_
  unfold g_impl_isPlainText
  have hsz := size_eq s
  refine br_d (fun h1 => ⟨?_, Ext.refl _⟩) (fun h1 => ?_)
  · have : ¬ s.size ≤ 12 := by omega
    simp [okTxt, this]
  refine sLoop_list s.data.toList (fun pre _ w' => Ext w w' ∧ pre.all isCh = true) ⟨Ext.refl _, rfl⟩ ?_ ?_
  · intro K pre post c t w1 hx ⟨he, ha⟩ hK _
    have hl := mid_len hx
    have hb := byteAt_mid hx
    have hc := c.toNat_lt
    have bad : isCh c = false → (Value.bool false = .bool (okTxt s) ∧ Ext w w1) := fun hf => ⟨by simp [okTxt, hx, hf], he⟩
    refine br_dt (by omega) ⟨⟨by omega, by omega⟩, ?_⟩
    rw [hb]
    refine br_d (fun g => bad (decide_eq_false (by omega))) (fun g1 => ⟨⟨by omega, by omega⟩, br_d (fun g => bad (decide_eq_false (by omega))) (fun g2 => ⟨inR_i64 (by omega) (by omega), hK _ _ ⟨he, ?_⟩⟩)⟩)
    have : isCh c = true := decide_eq_true (by omega)
    simp [ha, this]
  · intro K t w1 ⟨he, ha⟩ _
    refine br_df (by omega) ⟨?_, he⟩
    have : s.size ≤ 12 := by omega
    simp [okTxt, ha, this]

theorem c_spec_names {w : World} {s : Sl} {ns : List ByteArray} (h : Strs w s ns) (hl : ns.length ≤ maxLen) (hs : ∀ x ∈ ns, x.size ≤ maxLen) :
    CallR Try.prog 59 [.slice s.a s.len s.cap] w (fun v w' => v = .bool (okNames ns) ∧ Ext w w') := by
  refine fn_spec_names _ _ _ ?_
  unfold g_spec_names
  unfold maxLen at hl
  have hl0 := h.len
  refine sLoop_list ns (fun pre _ w' => Ext w w' ∧ pre.all okTxt = true ∧ ascN pre = true) ⟨Ext.refl _, rfl, rfl⟩ ?_ ?_
  · intro K pre post c t w1 hx ⟨he, ha, hasc⟩ hK _
    have hm := mid_len hx
    refine br_dt (by omega) (fun w2 (e2 : Ext w1 w2) => ?_)
    have e02 := he.trans e2
    obtain ⟨a, hsa, c0⟩ := (h.ext e02).sm hx
    have hb0 : ((0 : Int) ≤ pre.length ∧ (pre.length : Int) < (s.len : Int)) := ⟨by omega, by omega⟩
    refine onSome_i hsa ⟨hb0, _, c0, (c_spec_validText c w2 (hs c (by rw [hx]; simp))).go fun w3 e3 => ⟨_, rfl, br_i (fun g => ⟨by rw [okNames_bad hx (nott g)], e02.trans e3⟩) (fun g1 => ?_)⟩⟩
    have e03 := e02.trans e3
    have hall : (pre ++ [c]).all okTxt = true := by simp [ha, notf g1]
    rcases snocCases pre with rfl | ⟨r, p, rfl⟩
    · exact br_df (by simp) ⟨inR_i64 (by simp) (by simp), hK _ _ ⟨e03, hall, rfl⟩⟩
    · have hx' : ns = r ++ p :: (c :: post) := by rw [hx]; simp
      obtain ⟨a', hsa', d0⟩ := (h.ext e03).sm hx'
      rw [hsa] at hsa'
      obtain rfl := Option.some.inj hsa'
      have hpl : ((r ++ [p]).length : Int) - 1 = (r.length : Int) := by simp
      refine br_dt (by simp) (onSome_i hsa ⟨hb0, _, e3.get c0, inR_i64 (by omega) (by omega), onSome_i hsa ?_⟩)
      rw [hpl]
      refine ⟨⟨by omega, by simp at hm; omega⟩, _, d0, ?_⟩
      rw [sle_not]
      refine br_i (fun g => ⟨by rw [okNames_dis hx' (by simpa using g)], e03⟩) (fun g => ⟨inR_i64 (by omega) (by omega), hK _ _ ⟨e03, hall, ?_⟩⟩)
      have g5 : sltB p c = true := by simpa using g
      rw [List.append_assoc]
      show ascN (r ++ [p, c]) = true
      rw [ascN_snoc, hasc, g5]; rfl
  · intro K t w1 ⟨he, ha, hasc⟩ _
    exact br_df (by omega) ⟨by simp [okNames, ha, hasc], he⟩

theorem c_impl_areNames {w : World} {s : Sl} {ns : List ByteArray} (h : Strs w s ns) :
    CallR Try.prog 60 [.slice s.a s.len s.cap] w (fun v w' => v = .bool (decide (ns.length ≤ 6) && okNames ns) ∧ Ext w w') := by
  refine fn_impl_areNames _ _ _ ?_
  unfold g_impl_areNames
  have hl0 := h.len
  refine br_d (fun h1 => ⟨?_, Ext.refl _⟩) (fun h1 => ?_)
  · have : ¬ ns.length ≤ 6 := by omega
    simp [this]
  have h6 : ns.length ≤ 6 := by omega
  refine sLoop_list ns (fun pre _ w' => Ext w w' ∧ pre.all okTxt = true ∧ ascN pre = true) ⟨Ext.refl _, rfl, rfl⟩ ?_ ?_
  · intro K pre post c t w1 hx ⟨he, ha, hasc⟩ hK _
    have hm := mid_len hx
    obtain ⟨a, hsa, c0⟩ := (h.ext he).sm hx
    have hb0 : ((0 : Int) ≤ pre.length ∧ (pre.length : Int) < (s.len : Int)) := ⟨by omega, by omega⟩
    refine br_dt (by omega) (onSome_i hsa ⟨hb0, _, c0, (c_impl_isPlainText c w1).go fun w3 e3 => ⟨_, rfl, br_i (fun g => ⟨by rw [okNames_bad hx (nott g)]; simp, he.trans e3⟩) (fun g1 => ?_)⟩⟩)
    have e03 := he.trans e3
    have hall : (pre ++ [c]).all okTxt = true := by simp [ha, notf g1]
    rcases snocCases pre with rfl | ⟨r, p, rfl⟩
    · exact br_df (by simp) ⟨inR_i64 (by simp) (by simp), hK _ _ ⟨e03, hall, rfl⟩⟩
    · have hx' : ns = r ++ p :: (c :: post) := by rw [hx]; simp
      obtain ⟨a', hsa', d0⟩ := (h.ext e03).sm hx'
      rw [hsa] at hsa'
      obtain rfl := Option.some.inj hsa'
      have hpl : ((r ++ [p]).length : Int) - 1 = (r.length : Int) := by simp
      refine br_dt (by simp) ⟨inR_i64 (by omega) (by omega), onSome_i hsa ?_⟩
      rw [hpl]
      refine ⟨⟨by omega, by simp at hm; omega⟩, _, d0, br_i (fun g => ⟨by rw [okNames_dis hx' (nott g)]; simp, e03⟩) (fun g => ⟨inR_i64 (by omega) (by omega), hK _ _ ⟨e03, hall, ?_⟩⟩)⟩
      have g5 : sltB p c = true := notf g
      rw [List.append_assoc]
      show ascN (r ++ [p, c]) = true
      rw [ascN_snoc, hasc, g5]; rfl
  · intro K t w1 ⟨he, ha, hasc⟩ _
    exact br_df (by omega) ⟨by simp [okNames, ha, hasc, h6], he⟩
end Go.Proofs

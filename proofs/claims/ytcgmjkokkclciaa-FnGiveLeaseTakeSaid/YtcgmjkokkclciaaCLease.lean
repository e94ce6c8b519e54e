/-
  What functions of this seat compute, part 'Lease': contracts over their readable predicates. Conditions: each theorem's own hypotheses.
-/
import Derived.Test.YtcgmjkokkclciaaBase
import Derived.Test.YtcgmjkokkclciaaOpen
import Derived.Test.YtcgmjkokkclciaaGen
import Derived.Test.YtcgmjkokkclciaaCSmall
import Derived.Test.YtcgmjkokkclciaaCOrder
namespace Go.Proofs
open Go Go.Vc Go.RowKit
set_option maxRecDepth 100000
set_option linter.unusedVariables false
--! C:Small C:Order
/-! ## Leases -/

abbrev Lz := ByteArray × Int × Int
def cL (l : Lz) : List Value := [.string l.1, .int .i64 l.2.1, .int .i64 l.2.2]
theorem cL_len (x : Lz) : (cL x).length = 3 := rfl
abbrev Leases := SlOf cL

theorem lz_mid {w : World} {s : Sl} {xs pre post : List Lz} {x : Lz} (h : Leases w s xs) (hx : xs = pre ++ x :: post) : ∃ a, s.a = some a ∧
    w.cell? ((a.add ((pre.length : Int).toNat * 3)).add 0) = some (.string x.1) ∧ w.cell? ((a.add ((pre.length : Int).toNat * 3)).add 1) = some (.int .i64 x.2.1) ∧ w.cell? ((a.add ((pre.length : Int).toNat * 3)).add 2) = some (.int .i64 x.2.2) := by
  obtain ⟨a, ha, h0⟩ := h.cell cL_len (mid_get hx) (j := 0) rfl
  obtain ⟨b, hb, h1⟩ := h.cell cL_len (mid_get hx) (j := 1) rfl
  obtain ⟨c, hc, h2⟩ := h.cell cL_len (mid_get hx) (j := 2) rfl
  rw [ha] at hb hc
  obtain rfl := Option.some.inj hb
  obtain rfl := Option.some.inj hc
  exact ⟨a, ha, h0, h1, h2⟩

def okL (l : Lz) : Bool := vName l.1 && decide (1 ≤ l.2.1 ∧ l.2.1 ≤ 5) && decide (1 ≤ l.2.2 ∧ l.2.2 ≤ 999)
def ascL : List Lz → Bool
  | a :: b :: r => sltB a.1 b.1 && ascL (b :: r)
  | _ => true
def vLs (xs : List Lz) : Bool := xs.all okL && ascL xs && decide (xs.length ≤ 10)

theorem ascL_snoc : ∀ (pre : List Lz) (p c : Lz), ascL (pre ++ [p, c]) = (ascL (pre ++ [p]) && sltB p.1 c.1)
  | [], p, c => by simp [ascL]
  | [a], p, c => by simp [ascL]
  | a :: b :: r, p, c => by
    have := ascL_snoc (b :: r) p c
    simp only [List.cons_append, ascL] at this ⊢
    rw [this, Bool.and_assoc]

theorem ascL_mid : ∀ (pre : List Lz) (p c : Lz) (post : List Lz), ascL (pre ++ p :: c :: post) = true → sltB p.1 c.1 = true
  | [], p, c, post, h => by simp [ascL] at h; exact h.1
  | [a], p, c, post, h => by simp [ascL] at h; exact h.2.1
  | a :: b :: r, p, c, post, h => by
    simp only [List.cons_append, ascL, Bool.and_eq_true] at h
    exact ascL_mid (b :: r) p c post h.2

theorem snoc_cases {α : Type} (l : List α) : l = [] ∨ ∃ r p, l = r ++ [p] := by
  rcases List.eq_nil_or_concat l with h | ⟨r, p, h⟩
  · exact .inl h
  · exact .inr ⟨r, p, by simpa using h⟩

theorem vLs_not_ok {xs pre post : List Lz} {c : Lz} (hx : xs = pre ++ c :: post) (h : okL c = false) : vLs xs = false := by
  have : xs.all okL = false := by rw [hx]; simp [h]
  simp [vLs, this]

theorem vLs_not_asc {xs pre post : List Lz} {p c : Lz} (hx : xs = pre ++ p :: c :: post) (h : sltB p.1 c.1 = false) : vLs xs = false := by
  have : ascL xs = false := by
    cases ha : ascL xs with
    | false => rfl
    | true => rw [hx] at ha; rw [ascL_mid _ _ _ _ ha] at h; cases h
  simp [vLs, this]

theorem c_spec_validLeases {w : World} {s : Sl} {xs : List Lz} (h : Leases w s xs) (hl : xs.length ≤ maxLen) (hs : ∀ x ∈ xs, x.1.size ≤ maxLen) :
    CallR Try.prog 40 [.slice s.a s.len s.cap] w (fun v w' => v = .bool (vLs xs) ∧ Ext w w') := by
  refine fn_spec_validLeases _ _ _ ?_
  unfold g_spec_validLeases
  unfold maxLen at hl
  have hl0 := h.len
  refine sLoop_list xs (fun pre _ w' => Ext w w' ∧ pre.all okL = true ∧ ascL pre = true) ⟨Ext.refl _, rfl, rfl⟩ ?_ ?_
  · intro K pre post c t w1 hx ⟨he, ha, hasc⟩ hK _
    have hm := mid_len hx
    refine br_dt (by omega) (fun w2 (e2 : Ext w1 w2) => ?_)
    have e02 := he.trans e2
    obtain ⟨a, hsa, c0, c1, c2⟩ := lz_mid (h.ext e02) hx
    have hb0 : ((0 : Int) ≤ pre.length ∧ (pre.length : Int) < (s.len : Int)) := ⟨by omega, by omega⟩
    refine onSome_i hsa ⟨hb0, _, c0, (c_spec_validName c.1 w2 (hs c (by rw [hx]; simp))).go fun w3 e3 => ⟨_, rfl, ?_⟩⟩
    have e03 := e02.trans e3
    refine br_i (fun g1 => ⟨by rw [vLs_not_ok hx]; simp at g1; simp [okL, g1], e03⟩) (fun g1 => ?_)
    refine onSome_i hsa ⟨hb0, _, e3.get c1, (c_spec_inRange _ _ _ _).go fun w4 e4 => ⟨_, rfl, ?_⟩⟩
    have e04 := e03.trans e4
    refine br_i (fun g2 => ⟨by rw [vLs_not_ok hx]; simp only [Bool.not_eq_true', decide_eq_false_iff_not] at g2; simp [okL, g2], e04⟩) (fun g2 => ?_)
    refine onSome_i hsa ⟨hb0, _, (e3.trans e4).get c2, (c_spec_inRange _ _ _ _).go fun w5 e5 => ⟨_, rfl, ?_⟩⟩
    have e05 := e04.trans e5
    refine br_i (fun g3 => ⟨by rw [vLs_not_ok hx]; simp only [Bool.not_eq_true', decide_eq_false_iff_not] at g3; simp [okL, g3], e05⟩) (fun g3 => ?_)
    have hok : okL c = true := by
      simp only [Bool.not_eq_false', decide_eq_true_eq] at g1 g2 g3
      simp [okL, g1, g2, g3]
    have hall : (pre ++ [c]).all okL = true := by simp [ha, hok]
    rcases snoc_cases pre with rfl | ⟨r, p, rfl⟩
    · exact br_df (by simp) ⟨inR_i64 (by simp) (by simp), hK _ _ ⟨e05, hall, rfl⟩⟩
    · have hx' : xs = r ++ p :: (c :: post) := by rw [hx]; simp
      obtain ⟨a', hsa', d0, _, _⟩ := lz_mid (h.ext e05) hx'
      rw [hsa] at hsa'
      obtain rfl := Option.some.inj hsa'
      have hpl : ((r ++ [p]).length : Int) - 1 = (r.length : Int) := by simp
      refine br_dt (by simp) (onSome_i hsa ⟨hb0, _, (e3.trans (e4.trans e5)).get c0, inR_i64 (by omega) (by omega), onSome_i hsa ?_⟩)
      rw [hpl]
      refine ⟨⟨by omega, by simp at hm; omega⟩, _, d0, ?_⟩
      rw [sle_not]
      refine br_i (fun g4 => ⟨by rw [vLs_not_asc hx' (by simpa using g4)], e05⟩) (fun g4 => ⟨inR_i64 (by omega) (by omega), hK _ _ ⟨e05, hall, ?_⟩⟩)
      have g5 : sltB p.1 c.1 = true := by simpa using g4
      rw [List.append_assoc]
      show ascL (r ++ [p, c]) = true
      rw [ascL_snoc, hasc, g5]; rfl
  · intro K t w1 ⟨he, ha, hasc⟩ _
    refine br_df (by omega) ⟨?_, he⟩
    simp only [vLs, ha, hasc, Bool.true_and]
    congr 2
    rw [eq_iff_iff]; omega

theorem c_impl_isOwner (n : Int) (w : World) : CallR Try.prog 43 [.int .i64 n] w (fun v w' => v = .bool (decide (1 ≤ n ∧ n ≤ 5)) ∧ Ext w w') := by
  refine fn_impl_isOwner _ _ _ ?_
  unfold g_impl_isOwner
  exact br_d (fun h => ⟨by have : 1 ≤ n := h; simp [this], Ext.refl _⟩) (fun h => ⟨by have : ¬ 1 ≤ n := h; simp [this], Ext.refl _⟩)
theorem c_impl_isTime (n : Int) (w : World) : CallR Try.prog 49 [.int .i64 n] w (fun v w' => v = .bool (decide (0 ≤ n ∧ n ≤ 999)) ∧ Ext w w') := by
  refine fn_impl_isTime _ _ _ ?_
  unfold g_impl_isTime
  exact br_d (fun h => ⟨by have : 0 ≤ n := h; simp [this], Ext.refl _⟩) (fun h => ⟨by have : ¬ 0 ≤ n := h; simp [this], Ext.refl _⟩)

theorem c_impl_ValidLeases {w : World} {s : Sl} {xs : List Lz} (h : Leases w s xs) : CallR Try.prog 21 [.slice s.a s.len s.cap] w (fun v w' => v = .bool (vLs xs) ∧ Ext w w') := by
  refine fn_impl_ValidLeases _ _ _ ?_
  unfold g_impl_ValidLeases
  have hl0 := h.len
  refine br_d (fun h1 => ⟨?_, Ext.refl _⟩) (fun h1 => ?_)
  · have : ¬ xs.length ≤ 10 := by omega
    simp [vLs, this]
  refine sLoop_list xs (fun pre _ w' => Ext w w' ∧ pre.all okL = true ∧ ascL pre = true) ⟨Ext.refl _, rfl, rfl⟩ ?_ ?_
  · intro K pre post c t w1 hx ⟨he, ha, hasc⟩ hK _
    have hm := mid_len hx
    have hb0 : ((0 : Int) ≤ pre.length ∧ (pre.length : Int) < (s.len : Int)) := ⟨by omega, by omega⟩
    obtain ⟨a, hsa, c0, c1, c2⟩ := lz_mid (h.ext he) hx
    refine br_dt (by omega) (onSome_i hsa ⟨hb0, _, c0, _, c1, _, c2, local3 fun w2 r2 e2 => ?_⟩)
    refine fun w3 (e3 : Ext w2 w3) => ?_
    have r3 := Row.ext r2 e3
    have e03 := (he.trans e2).trans e3
    refine ⟨_, r3.cell rfl, (c_impl_isName c.1 w3).go fun w4 e4 => ⟨_, rfl, ?_⟩⟩
    have e04 := e03.trans e4
    have r4 := Row.ext r3 e4
    refine br_i (fun g1 => ⟨by rw [vLs_not_ok hx]; simp at g1; simp [okL, g1], e04⟩) (fun g1 => ?_)
    have bad : ∀ w', Ext w w' → ¬ ((1 ≤ c.2.1 ∧ c.2.1 ≤ 5) ∧ 1 ≤ c.2.2 ∧ c.2.2 ≤ 999) → (Value.bool false = .bool (vLs xs) ∧ Ext w w') := fun w' e' hn => by
      refine ⟨?_, e'⟩
      rw [vLs_not_ok hx]
      simp only [okL, Bool.and_eq_false_iff, decide_eq_false_iff_not]
      by_cases hq : (1 ≤ c.2.1 ∧ c.2.1 ≤ 5)
      · exact .inr fun h' => hn ⟨hq, h'⟩
      · exact .inl (.inr hq)
    have good : ∀ w', Ext w w' → (1 ≤ c.2.1 ∧ c.2.1 ≤ 5) → 1 ≤ c.2.2 → c.2.2 ≤ 999 → ascL (pre ++ [c]) = true → (InR .i64 ((pre.length : Int) + 1) ∧ K ((pre.length : Int) + 1, ()) w') := fun w' e' q1 q2 q3 q4 =>
      ⟨inR_i64 (by omega) (by omega), hK _ _ ⟨e', by simp at g1; simp [ha, okL, g1, q1, q2, q3], q4⟩⟩
    rcases snoc_cases pre with rfl | ⟨r, p, rfl⟩
    · refine br_df (by simp) ⟨_, r4.cell rfl, (c_impl_isOwner _ _).go fun w5 e5 => ⟨_, rfl, ?_⟩⟩
      have e05 := e04.trans e5
      have r5 := Row.ext r4 e5
      refine br_i (fun g2 => bad _ e05 fun q => by simp [q.1] at g2) (fun g2 => ⟨_, r5.cell rfl, br_d (fun g3 => bad _ e05 fun q => by omega) (fun g3 => ⟨_, r5.cell rfl, br_d (fun g4 => bad _ e05 fun q => by omega) (fun g4 => ?_)⟩)⟩)
      simp only [Bool.not_eq_false', decide_eq_true_eq] at g2
      exact good _ e05 g2 (by omega) (by omega) rfl
    · have hx' : xs = r ++ p :: (c :: post) := by rw [hx]; simp
      have hpl : ((r ++ [p]).length : Int) - 1 = (r.length : Int) := by simp
      obtain ⟨a', hsa', d0, _, _⟩ := lz_mid (h.ext e04) hx'
      rw [hsa] at hsa'
      obtain rfl := Option.some.inj hsa'
      refine br_dt (by simp) ⟨inR_i64 (by omega) (by omega), onSome_i hsa ?_⟩
      rw [hpl]
      refine ⟨⟨by omega, by simp at hm; omega⟩, _, d0, _, r4.cell rfl, ?_⟩
      refine br_i (fun g5 => ⟨by rw [vLs_not_asc hx' (by simpa using g5)], e04⟩) (fun g5 => ?_)
      have g6 : sltB p.1 c.1 = true := by simpa using g5
      have hasc' : ascL ((r ++ [p]) ++ [c]) = true := by
        rw [List.append_assoc]
        show ascL (r ++ [p, c]) = true
        rw [ascL_snoc, hasc, g6]; rfl
      refine ⟨_, r4.cell rfl, (c_impl_isOwner _ _).go fun w5 e5 => ⟨_, rfl, ?_⟩⟩
      have e05 := e04.trans e5
      have r5 := Row.ext r4 e5
      refine br_i (fun g2 => bad _ e05 fun q => by simp [q.1] at g2) (fun g2 => ⟨_, r5.cell rfl, br_d (fun g3 => bad _ e05 fun q => by omega) (fun g3 => ⟨_, r5.cell rfl, br_d (fun g4 => bad _ e05 fun q => by omega) (fun g4 => ?_)⟩)⟩)
      simp only [Bool.not_eq_false', decide_eq_true_eq] at g2
      exact good _ e05 g2 (by omega) (by omega) hasc'
  · intro K t w1 ⟨he, ha, hasc⟩ _
    refine br_df (by omega) ⟨?_, he⟩
    have : xs.length ≤ 10 := by omega
    simp [vLs, ha, hasc, this]

theorem c_spec_ValidLeases {w : World} {s : Sl} {b : Bool} (h : CallR Try.prog 40 [.slice s.a s.len s.cap] w (fun v w' => v = .bool b ∧ Ext w w')) :
    CallR Try.prog 19 [.slice s.a s.len s.cap] w (fun v w' => v = .bool b ∧ Ext w w') := by
  refine fn_spec_ValidLeases _ _ _ ?_
  unfold g_spec_ValidLeases
  exact h.go fun w1 e1 => ⟨_, rfl, rfl, e1⟩
end Go.Proofs

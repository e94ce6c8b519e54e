/-
  What functions of this seat compute, part 'Calls': contracts over their readable predicates. Conditions: each theorem's own hypotheses.
-/
import Derived.Test.YtneehnkdgjijiaaBase
import Derived.Test.YtneehnkdgjijiaaOpen
import Derived.Test.YtneehnkdgjijiaaGen
import Derived.Test.YtneehnkdgjijiaaCSmall
import Derived.Test.YtneehnkdgjijiaaCOrder
namespace Go.Proofs
open Go Go.Vc Go.RowKit
set_option maxRecDepth 100000
set_option linter.unusedVariables false
--! C:Small C:Order
/-! ## Calls: lists that are valid -/

abbrev Cz := Int × Int × Bool × Int
def cC (c : Cz) : List Value := [.int .i64 c.1, .int .i64 c.2.1, .bool c.2.2.1, .int .i64 c.2.2.2]
theorem cC_len (x : Cz) : (cC x).length = 4 := rfl
abbrev Calls4 := SlOf cC

theorem cC_one (x : Cz) : ∀ u ∈ cC x, u.oneCell' = true := by
  intro u hu
  simp only [cC, List.mem_cons, List.not_mem_nil, or_false] at hu
  rcases hu with rfl | rfl | rfl | rfl <;> rfl

theorem cz_at {w : World} {s : Sl} {xs : List Cz} {i : Nat} {x : Cz} (h : Calls4 w s xs) (hx : xs[i]? = some x) : ∃ a, s.a = some a ∧
    w.cell? ((a.add ((i : Int).toNat * 4)).add 0) = some (.int .i64 x.1) ∧ w.cell? ((a.add ((i : Int).toNat * 4)).add 1) = some (.int .i64 x.2.1) ∧ w.cell? ((a.add ((i : Int).toNat * 4)).add 2) = some (.bool x.2.2.1) ∧ w.cell? ((a.add ((i : Int).toNat * 4)).add 3) = some (.int .i64 x.2.2.2) := by
  obtain ⟨a, ha, h0⟩ := h.cell cC_len hx (j := 0) rfl
  obtain ⟨b, hb, h1⟩ := h.cell cC_len hx (j := 1) rfl
  obtain ⟨c, hc, h2⟩ := h.cell cC_len hx (j := 2) rfl
  obtain ⟨d, hd, h3⟩ := h.cell cC_len hx (j := 3) rfl
  rw [ha] at hb hc hd
  obtain rfl := Option.some.inj hb
  obtain rfl := Option.some.inj hc
  obtain rfl := Option.some.inj hd
  exact ⟨a, ha, h0, h1, h2, h3⟩

theorem cz_mid {w : World} {s : Sl} {xs pre post : List Cz} {x : Cz} (h : Calls4 w s xs) (hx : xs = pre ++ x :: post) : ∃ a, s.a = some a ∧
    w.cell? ((a.add ((pre.length : Int).toNat * 4)).add 0) = some (.int .i64 x.1) ∧ w.cell? ((a.add ((pre.length : Int).toNat * 4)).add 1) = some (.int .i64 x.2.1) ∧ w.cell? ((a.add ((pre.length : Int).toNat * 4)).add 2) = some (.bool x.2.2.1) ∧ w.cell? ((a.add ((pre.length : Int).toNat * 4)).add 3) = some (.int .i64 x.2.2.2) :=
  cz_at h (mid_get hx)

def okC (c : Cz) : Bool := decide ((0 ≤ c.1 ∧ c.1 ≤ 999) ∧ (c.1 ≤ c.2.1 ∧ c.2.1 ≤ 999) ∧ 0 ≤ c.2.2.2 ∧ c.2.2.2 ≤ 999999)
def vCs (xs : List Cz) : Bool := xs.all okC && decide (xs.length ≤ 6)

theorem vCs_not_ok {xs pre post : List Cz} {c : Cz} (hx : xs = pre ++ c :: post) (h : okC c = false) : vCs xs = false := by
  have : xs.all okC = false := by rw [hx]; simp [h]
  simp [vCs, this]

theorem vCs_parts {xs : List Cz} (h : vCs xs = true) : xs.all okC = true ∧ xs.length ≤ 6 := by
  simp only [vCs, Bool.and_eq_true, decide_eq_true_eq] at h
  exact h

theorem c_spec_validCalls {w : World} {s : Sl} {xs : List Cz} (h : Calls4 w s xs) (hl : xs.length ≤ maxLen) :
    CallR Try.prog 30 [.slice s.a s.len s.cap] w (fun v w' => v = .bool (vCs xs) ∧ Ext w w') := by
  refine fn_spec_validCalls _ _ _ ?_
  unfold g_spec_validCalls
  unfold maxLen at hl
  have hl0 := h.len
  refine sLoop_list xs (fun pre _ w' => Ext w w' ∧ pre.all okC = true) ⟨Ext.refl _, rfl⟩ ?_ ?_
  · intro K pre post c t w1 hx ⟨he, ha⟩ hK _
    have hm := mid_len hx
    refine br_dt (by omega) (fun w2 (e2 : Ext w1 w2) => ?_)
    have e02 := he.trans e2
    obtain ⟨a, hsa, c0, c1, c2, c3⟩ := cz_mid (h.ext e02) hx
    have hb0 : ((0 : Int) ≤ pre.length ∧ (pre.length : Int) < (s.len : Int)) := ⟨by omega, by omega⟩
    have bad : ∀ w', Ext w w' → ¬ ((0 ≤ c.1 ∧ c.1 ≤ 999) ∧ (c.1 ≤ c.2.1 ∧ c.2.1 ≤ 999) ∧ 0 ≤ c.2.2.2 ∧ c.2.2.2 ≤ 999999) → (Value.bool false = .bool (vCs xs) ∧ Ext w w') := fun w' e' hn => by
      rw [vCs_not_ok hx (decide_eq_false hn)]; exact ⟨rfl, e'⟩
    refine onSome_i hsa ⟨hb0, _, c0, (c_spec_inRange _ _ _ _).go fun w3 e3 => ⟨_, rfl, br_i (fun g => bad _ (e02.trans e3) (fun q => of_decide_eq_false (nott g) q.1)) (fun g1 => ?_)⟩⟩
    refine onSome_i hsa ⟨hb0, _, e3.get c1, onSome_i hsa ⟨hb0, _, e3.get c0, (c_spec_inRange _ _ _ _).go fun w4 e4 => ⟨_, rfl, br_i (fun g => bad _ ((e02.trans e3).trans e4) (fun q => of_decide_eq_false (nott g) q.2.1)) (fun g2 => ?_)⟩⟩⟩
    refine onSome_i hsa ⟨hb0, _, (e3.trans e4).get c3, (c_spec_inRange _ _ _ _).go fun w5 e5 => ⟨_, rfl, br_i (fun g => bad _ (((e02.trans e3).trans e4).trans e5) (fun q => of_decide_eq_false (nott g) q.2.2)) (fun g3 => ?_)⟩⟩
    refine ⟨inR_i64 (by omega) (by omega), hK _ _ ⟨((e02.trans e3).trans e4).trans e5, ?_⟩⟩
    have : okC c = true := decide_eq_true ⟨of_decide_eq_true (notf g1), of_decide_eq_true (notf g2), of_decide_eq_true (notf g3)⟩
    simp [ha, this]
  · intro K t w1 ⟨he, ha⟩ _
    refine br_df (by omega) ⟨?_, he⟩
    simp only [vCs, ha, Bool.true_and]
    congr 2
    rw [eq_iff_iff]; omega

theorem c_impl_areCalls {w : World} {s : Sl} {xs : List Cz} (h : Calls4 w s xs) :
    CallR Try.prog 28 [.slice s.a s.len s.cap] w (fun v w' => v = .bool (vCs xs) ∧ Ext w w') := by
  refine fn_impl_areCalls _ _ _ ?_
  unfold g_impl_areCalls
  have hl0 := h.len
  refine br_d (fun h1 => ⟨?_, Ext.refl _⟩) (fun h1 => ?_)
  · have : ¬ xs.length ≤ 6 := by omega
    simp [vCs, this]
  refine sLoop_list xs (fun pre _ w' => Ext w w' ∧ pre.all okC = true) ⟨Ext.refl _, rfl⟩ ?_ ?_
  · intro K pre post c t w1 hx ⟨he, ha⟩ hK _
    have hm := mid_len hx
    have hb0 : ((0 : Int) ≤ pre.length ∧ (pre.length : Int) < (s.len : Int)) := ⟨by omega, by omega⟩
    obtain ⟨a, hsa, c0, c1, c2, c3⟩ := cz_mid (h.ext he) hx
    refine br_dt (by omega) (onSome_i hsa ⟨hb0, _, c0, _, c1, _, c2, _, c3, local4 fun w2 r2 e2 => ?_⟩)
    have e02 := he.trans e2
    have bad : ¬ ((0 ≤ c.1 ∧ c.1 ≤ 999) ∧ (c.1 ≤ c.2.1 ∧ c.2.1 ≤ 999) ∧ 0 ≤ c.2.2.2 ∧ c.2.2.2 ≤ 999999) → (Value.bool false = .bool (vCs xs) ∧ Ext w w2) := fun hn => by
      rw [vCs_not_ok hx (decide_eq_false hn)]; exact ⟨rfl, e02⟩
    refine ⟨_, r2.cell rfl, br_d (fun g => bad (by omega)) (fun g1 => ⟨_, r2.cell rfl, br_d (fun g => bad (by omega)) (fun g2 => ⟨_, r2.cell rfl, _, r2.cell rfl, br_d (fun g => bad (by omega)) (fun g3 => ⟨_, r2.cell rfl, br_d (fun g => bad (by omega)) (fun g4 =>
      ⟨_, r2.cell rfl, br_d (fun g => bad (by omega)) (fun g5 => ⟨_, r2.cell rfl, br_d (fun g => bad (by omega)) (fun g6 => ⟨inR_i64 (by omega) (by omega), hK _ _ ⟨e02, ?_⟩⟩)⟩)⟩)⟩)⟩)⟩)⟩
    have : okC c = true := decide_eq_true (by omega)
    simp [ha, this]
  · intro K t w1 ⟨he, ha⟩ _
    refine br_df (by omega) ⟨?_, he⟩
    have : xs.length ≤ 6 := by omega
    simp [vCs, ha, this]

/-! ## Orders -/

def frm (xs : List Cz) (k : Nat) : Int := match xs[k]? with | some c => c.1 | none => 0
def til (xs : List Cz) (k : Nat) : Int := match xs[k]? with | some c => c.2.1 | none => 0

theorem frm_get {xs : List Cz} {k : Nat} {c : Cz} (h : xs[k]? = some c) : frm xs k = c.1 := by simp [frm, h]
theorem til_get {xs : List Cz} {k : Nat} {c : Cz} (h : xs[k]? = some c) : til xs k = c.2.1 := by simp [til, h]

/-- The values read and written one after the other. -/
def vals (xs : List Cz) : Int → List Nat → Bool
  | _, [] => true
  | v, k :: r => match xs[k]? with
    | some c => if c.2.2.1 = true then vals xs c.2.2.2 r else decide (c.2.2.2 = v) && vals xs v r
    | none => false

/-- The value behind a list of calls. -/
def valOf (xs : List Cz) : Int → List Nat → Int
  | v, [] => v
  | v, k :: r => match xs[k]? with
    | some c => if c.2.2.1 = true then valOf xs c.2.2.2 r else valOf xs v r
    | none => v

theorem vals_append (xs : List Cz) : ∀ (a b : List Nat) (v : Int), vals xs v (a ++ b) = (vals xs v a && vals xs (valOf xs v a) b)
  | [], b, v => by simp [vals, valOf]
  | k :: r, b, v => by
    simp only [List.cons_append, vals, valOf]
    cases xs[k]? with
    | none => rfl
    | some c =>
      simp only
      by_cases h : c.2.2.1 = true
      · rw [if_pos h, if_pos h, if_pos h, vals_append xs r b]
      · rw [if_neg h, if_neg h, if_neg h, vals_append xs r b, Bool.and_assoc]

/-- An order that is possible. -/
structure Good (xs : List Cz) (ord : List Nat) : Prop where
  len : ord.length = xs.length
  nodup : ord.Nodup
  lt : ∀ k ∈ ord, k < xs.length
  ok : ord.Pairwise fun a b => ¬ til xs b < frm xs a
  val : vals xs 0 ord = true

theorem mem_of_full {n : Nat} {ord : List Nat} (hl : ord.length = n) (hn : ord.Nodup) (hlt : ∀ k ∈ ord, k < n) {j : Nat} (hj : j < n) : j ∈ ord := by
  by_cases h : j ∈ ord
  · exact h
  · exfalso
    have h1 : (j :: ord).Nodup := List.nodup_cons.2 ⟨h, hn⟩
    have h2 : (j :: ord) ⊆ List.range n := by
      intro k hk
      rcases List.mem_cons.1 hk with rfl | hk
      · exact List.mem_range.2 hj
      · exact List.mem_range.2 (hlt k hk)
    have := h1.length_le_of_subset h2
    simp at this
    omega
end Go.Proofs

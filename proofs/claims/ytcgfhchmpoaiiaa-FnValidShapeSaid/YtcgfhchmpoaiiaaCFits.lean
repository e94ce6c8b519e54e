/-
  What functions of this seat compute, part 'Fits': contracts over their readable predicates. Conditions: each theorem's own hypotheses.
-/
import Derived.Test.YtcgfhchmpoaiiaaBase
import Derived.Test.YtcgfhchmpoaiiaaOpen
import Derived.Test.YtcgfhchmpoaiiaaGen
import Derived.Test.YtcgfhchmpoaiiaaCSmall
import Derived.Test.YtcgfhchmpoaiiaaCOrder
import Derived.Test.YtcgfhchmpoaiiaaCNode
import Derived.Test.YtcgfhchmpoaiiaaCNodeText
import Derived.Test.YtcgfhchmpoaiiaaCNodeValid
import Derived.Test.YtcgfhchmpoaiiaaCNodeSpec
import Derived.Test.YtcgfhchmpoaiiaaCHelpS
import Derived.Test.YtcgfhchmpoaiiaaCNodeHelp
import Derived.Test.YtcgfhchmpoaiiaaCNodeHelp2
import Derived.Test.YtcgfhchmpoaiiaaCNodeTop
import Derived.Test.YtcgfhchmpoaiiaaCCells
import Derived.Test.YtcgfhchmpoaiiaaCShape
import Derived.Test.YtcgfhchmpoaiiaaCShape2
import Derived.Test.YtcgfhchmpoaiiaaCShapeOf
import Derived.Test.YtcgfhchmpoaiiaaCShapeOf2
import Derived.Test.YtcgfhchmpoaiiaaCShapeOf3
import Derived.Test.YtcgfhchmpoaiiaaCShapeOf4
namespace Go.Proofs
open Go Go.Vc Go.RowKit
set_option maxRecDepth 100000
set_option linter.unusedVariables false
--! C:Small C:Order C:Node C:NodeText C:NodeValid C:NodeSpec C:HelpS C:NodeHelp C:NodeHelp2 C:NodeTop C:Cells C:Shape C:Shape2 C:ShapeOf C:ShapeOf2 C:ShapeOf3 C:ShapeOf4
/-! ## Nodes that fit shapes -/

def look (nm : ByteArray) : List ByteArray → List Nd → Option Nd
  | y :: r, k :: s => if y = nm then some k else look nm r s
  | _, _ => none

theorem look_hit {nm : ByteArray} : ∀ {ns : List ByteArray} {ks : List Nd} {i : Nat} {y : Nd}, (∀ j : Nat, j < i → ns[j]? ≠ some nm) → ns[i]? = some nm → ks[i]? = some y → look nm ns ks = some y
  | [], _, i, y, _, h, _ => by simp at h
  | a :: r, [], i, y, _, _, h => by simp at h
  | a :: r, k :: s, 0, y, _, h1, h2 => by
    simp at h1 h2
    simp [look, h1, h2]
  | a :: r, k :: s, i + 1, y, h, h1, h2 => by
    have h0 := h 0 (by omega)
    simp at h0
    simp only [look, if_neg h0]
    exact look_hit (i := i) (fun j hj => by have := h (j + 1) (by omega); simpa using this) (by simpa using h1) (by simpa using h2)

theorem look_none {nm : ByteArray} : ∀ {ns : List ByteArray} {ks : List Nd}, (∀ j : Nat, ns[j]? ≠ some nm) → look nm ns ks = none
  | [], _, _ => by simp [look]
  | a :: r, [], _ => by simp [look]
  | a :: r, k :: s, h => by
    have h0 := h 0
    simp at h0
    simp only [look, if_neg h0]
    exact look_none fun j => by have := h (j + 1); simpa using this

theorem ascN_lt : ∀ {xs : List ByteArray} {i j : Nat} {a b : ByteArray}, ascN xs = true → i < j → xs[i]? = some a → xs[j]? = some b → sltB a b = true
  | [], _, _, _, _, _, _, h, _ => by simp at h
  | [x], i, j, a, b, _, hij, hi, hj => by
    have h1 := (List.getElem?_eq_some_iff.1 hj).1
    simp at h1
    omega
  | x :: y :: r, i, 0, a, b, _, hij, _, _ => by omega
  | x :: y :: r, 0, 1, a, b, h, _, hi, hj => by
    simp only [ascN, Bool.and_eq_true] at h
    simp at hi hj
    subst hi hj
    exact h.1
  | x :: y :: r, 0, j + 2, a, b, h, _, hi, hj => by
    simp only [ascN, Bool.and_eq_true] at h
    simp at hi
    subst hi
    exact slt_trans h.1 (ascN_lt (i := 0) (j := j + 1) h.2 (by omega) rfl (by simpa using hj))
  | x :: y :: r, i + 1, j + 1, a, b, h, hij, hi, hj => by
    simp only [ascN, Bool.and_eq_true] at h
    exact ascN_lt (i := i) (j := j) h.2 (by omega) (by simpa using hi) (by simpa using hj)

theorem asc_only {xs : List ByteArray} {i j : Nat} {a : ByteArray} (h : ascN xs = true) (hi : xs[i]? = some a) (hj : xs[j]? = some a) : i = j := by
  rcases Nat.lt_trichotomy i j with g | g | g
  · have := ascN_lt h g hi hj; rw [slt_irrefl] at this; cases this
  · exact g
  · have := ascN_lt h g hj hi; rw [slt_irrefl] at this; cases this

def fit1 (rec : Sh → Nd → Bool) (n : Nd) (nm : ByteArray) (b : Bool) (x : Sh) : Bool :=
  match look nm n.ns n.ks with
  | none => !b
  | some y => rec x y
def fitAt (rec : Sh → Nd → Bool) (n : Nd) (x : Sh) (j : Nat) : Bool :=
  match x.ns[j]?, x.bs[j]?, x.ks[j]? with
  | some nm, some b, some y => fit1 rec n nm b y
  | _, _, _ => true
def fitUp (rec : Sh → Nd → Bool) (n : Nd) (x : Sh) : Nat → Bool
  | 0 => true
  | j + 1 => fitUp rec n x j && fitAt rec n x j
def fit : Nat → Sh → Nd → Bool
  | 0, _, _ => true
  | d + 1, x, n => (decide (x.k = 0) || decide (n.k = x.k)) && fitUp (fit d) n x x.ns.length

theorem fitUp_false {rec : Sh → Nd → Bool} {n : Nd} {x : Sh} : ∀ {m j : Nat}, j < m → fitAt rec n x j = false → fitUp rec n x m = false
  | m + 1, j, h, hf => by
    simp only [fitUp]
    by_cases e : j = m
    · subst e; rw [hf, Bool.and_false]
    · rw [fitUp_false (m := m) (j := j) (by omega) hf, Bool.false_and]

theorem vSh_out {d : Nat} {x : Sh} (h : vSh (d + 1) x = true) : (0 ≤ x.k ∧ x.k ≤ 4) ∧ okNames x.ns = true ∧ x.ns.length ≤ 6 ∧ x.bs.length = x.ns.length ∧ x.ks.length = x.ns.length ∧ (x.k = 4 ∨ x.ns.length = 0) ∧ ∀ y ∈ x.ks, vSh d y = true := by
  simp only [vSh, partS, Bool.and_eq_true, Bool.or_eq_true, decide_eq_true_eq, List.all_eq_true] at h
  obtain ⟨⟨⟨⟨⟨⟨h1, h2⟩, h3⟩, h4⟩, h5⟩, h6⟩, h7⟩ := h
  exact ⟨h1, h2, h3, h4, h5, h6, h7⟩

theorem okNames_asc {ns : List ByteArray} (h : okNames ns = true) : ascN ns = true := by
  simp only [okNames, Bool.and_eq_true] at h; exact h.2

theorem map_asc {n : Nd} (h : parts n = true) (hk : n.k = 4) : ascN n.ns = true := by
  simp only [parts, partsC, Bool.and_eq_true, Bool.or_eq_true, decide_eq_true_eq] at h
  obtain ⟨_, h4⟩ := h
  rw [if_neg (by omega), if_neg (by omega), if_neg (by omega), if_neg (by omega), if_pos hk] at h4
  simp only [Bool.and_eq_true, decide_eq_true_eq] at h4
  exact okNames_asc h4.1.2

/-! ### Where a name is -/

theorem fdiv2 (n : Nat) : Int.fdiv (n : Int) (2 ^ (min (1 : Int).toNat (IntKind.bits .u64))) = ((n / 2 : Nat) : Int) := by
  show Int.fdiv (n : Int) 2 = _
  rw [Int.fdiv_eq_ediv_of_nonneg _ (by omega)]
  rfl

theorem inR_u64 {n : Int} (h1 : 0 ≤ n) (h2 : n ≤ 9223372036854775807) : InR .u64 n := by
  unfold InR
  simp [IntKind.wrap, IntKind.signed, IntKind.bits]
  omega

theorem str_at {w : World} {s : Sl} {xs : List ByteArray} {i : Nat} {x : ByteArray} (h : Strs w s xs) (hx : xs[i]? = some x) : ∃ a, s.a = some a ∧ w.cell? (a.add ((i : Int).toNat * 1)) = some (.string x) := h.cell1 cS_len hx rfl
theorem bool_at {w : World} {s : Sl} {xs : List Bool} {i : Nat} {x : Bool} (h : Bools w s xs) (hx : xs[i]? = some x) : ∃ a, s.a = some a ∧ w.cell? (a.add ((i : Int).toNat * 1)) = some (.bool x) := h.cell1 cB_len hx rfl

theorem c_cmp_isNaN (x : ByteArray) (w : World) : CallR Try.prog 89 [.string x] w (fun v w' => v = .bool false ∧ Ext w w') := by
  refine fn_cmp_isNaN _ _ _ ?_
  unfold g_cmp_isNaN
  exact ⟨by simp [seqB_eq], Ext.refl _⟩
theorem c_slices_isNaN (x : ByteArray) (w : World) : CallR Try.prog 85 [.string x] w (fun v w' => v = .bool false ∧ Ext w w') := by
  refine fn_slices_isNaN _ _ _ ?_
  unfold g_slices_isNaN
  exact ⟨by simp [seqB_eq], Ext.refl _⟩
theorem c_cmp_Less (x y : ByteArray) (w : World) : CallR Try.prog 84 [.string x, .string y] w (fun v w' => v = .bool (sltB x y) ∧ Ext w w') := by
  refine fn_cmp_Less _ _ _ _ ?_
  unfold g_cmp_Less
  exact (c_cmp_isNaN x w).go fun w1 e1 => ⟨_, rfl, br_f rfl ⟨rfl, e1⟩⟩

theorem c_slices_BinarySearch {w : World} {s : Sl} {xs : List ByteArray} (name : ByteArray) (h : Strs w s xs) (hl : xs.length ≤ 1000000000) (hasc : ascN xs = true) :
    CallR Try.prog 78 [.slice s.a s.len s.cap, .string name] w (fun v w' => (∃ (i : Nat) (b : Bool), v = .tuple #[.int .i64 i, .bool b] ∧ (b = true → xs[i]? = some name) ∧ (b = false → ∀ j : Nat, xs[j]? ≠ some name)) ∧ Ext w w') := by
  refine fn_slices_BinarySearch _ _ _ _ ?_
  unfold g_slices_BinarySearch
  have hl0 := h.len
  refine sLoop.intro (fun st w' => ∃ i j : Nat, st = ((i : Int), (j : Int), ()) ∧ i ≤ j ∧ j ≤ xs.length ∧ (∀ k l, k < i → xs[k]? = some l → sltB l name = true) ∧ (∀ k l, j ≤ k → xs[k]? = some l → sltB l name = false) ∧ Ext w w')
    (fun st _ => (st.2.1 - st.1).toNat) ⟨0, xs.length, by rw [hl0]; rfl, Nat.zero_le _, Nat.le_refl _, fun k l hk => by omega, fun k l hk hx => by
      have := (List.getElem?_eq_some_iff.1 hx).1; omega, Ext.refl _⟩ ?_
  rintro _ w1 K ⟨i, j, rfl, hij, hjl, hlo, hhi, he⟩ hK _
  simp only
  refine br_d (fun g1 => ?_) (fun g1 => ?_)
  · have hij' : i < j := by omega
    rw [show ((i : Int) + (j : Int)) = ((i + j : Nat) : Int) by simp, fdiv2]
    have hm1 : (i + j) / 2 < j := by omega
    have hm2 : i ≤ (i + j) / 2 := by omega
    generalize (i + j) / 2 = m at *
    obtain ⟨x, hx⟩ : ∃ x, xs[m]? = some x := ⟨xs[m]'(by omega), List.getElem?_eq_getElem (by omega)⟩
    obtain ⟨a, hsa, c0⟩ := str_at (h.ext he) hx
    refine ⟨inR_i64 (by omega) (by omega), inR_u64 (by omega) (by omega), by omega, inR_i64 (by omega) (by omega), onSome_i hsa ⟨⟨by omega, by omega⟩, _, c0, ?_⟩⟩
    refine (c_cmp_Less x name w1).go fun w2 e2 => ⟨_, rfl, br_i (fun hlt => ⟨inR_i64 (by omega) (by omega), ?_⟩) (fun hge => ?_)⟩
    · refine hK _ _ ⟨m + 1, j, by simp, by omega, hjl, fun k l hk hx' => ?_, hhi, he.trans e2⟩ (by simp; omega)
      by_cases hkm : k = m
      · subst hkm; rw [hx] at hx'; obtain rfl := Option.some.inj hx'; exact hlt
      · exact slt_trans (ascN_lt hasc (show k < m by omega) hx' hx) hlt
    · refine hK _ _ ⟨i, m, rfl, hm2, by omega, hlo, fun k l hk hx' => ?_, he.trans e2⟩ (by simp; omega)
      by_cases hkm : k = m
      · subst hkm; rw [hx] at hx'; obtain rfl := Option.some.inj hx'; exact hge
      · cases hb : sltB l name with
        | false => rfl
        | true =>
          have := slt_trans (ascN_lt hasc (show m < k by omega) hx hx') hb
          rw [hge] at this; cases this
  · have hij' : i = j := by omega
    subst hij'
    have none_of : (∀ x, xs[i]? = some x → x ≠ name) → ∀ j : Nat, xs[j]? ≠ some name := fun hne j hj => by
      rcases Nat.lt_trichotomy j i with g | g | g
      · have := hlo j name g hj; rw [slt_irrefl] at this; cases this
      · subst g; exact hne _ hj rfl
      · have hlt : i < xs.length := by have := (List.getElem?_eq_some_iff.1 hj).1; omega
        have h1 := ascN_lt hasc g (List.getElem?_eq_getElem hlt) hj
        have h2 := hhi i xs[i] (Nat.le_refl _) (List.getElem?_eq_getElem hlt)
        rw [h1] at h2; cases h2
    refine br_d (fun g2 => ?_) (fun g2 => ⟨⟨i, false, rfl, fun h => by (cases h), fun _ => none_of fun x hx => ?_⟩, he⟩)
    · obtain ⟨x, hx⟩ : ∃ x, xs[i]? = some x := ⟨xs[i]'(by omega), List.getElem?_eq_getElem (by omega)⟩
      obtain ⟨a, hsa, c0⟩ := str_at (h.ext he) hx
      refine onSome_i hsa ⟨⟨by omega, by omega⟩, _, c0, ?_⟩
      rw [seqB_eq]
      refine br_d (fun g3 => ⟨⟨i, true, rfl, fun _ => by rw [hx, g3], fun h => by cases h⟩, he⟩) (fun g3 => ?_)
      refine onSome_i hsa ⟨⟨by omega, by omega⟩, _, c0, (c_slices_isNaN _ _).go fun w2 e2 => ⟨_, rfl, br_f rfl ⟨⟨i, false, rfl, fun h => by (cases h), fun _ => none_of fun x' hx' => ?_⟩, he.trans e2⟩⟩⟩
      rw [hx] at hx'
      rw [← Option.some.inj hx']; exact g3
    · have := (List.getElem?_eq_some_iff.1 hx).1
      omega

theorem c_impl_nameIn {S : Nat → Prop} {w : World} {c : NdC} {n : Nd} (nm : ByteArray) (h : NdAt S w c n) (hp : parts n = true) (hk : n.k = 4) :
    CallR Try.prog 66 [c.v, .string nm] w (fun v w' => (∃ (e : NdC) (b : Bool), v = .tuple #[e.v, .bool b] ∧ (b = true → ∃ y, look nm n.ns n.ks = some y ∧ NdAt S w' e y ∧ y ∈ n.ks) ∧ (b = false → look nm n.ns n.ks = none)) ∧ Ext w w') := by
  refine fn_impl_nameIn _ _ _ _ _ _ _ _ ?_
  unfold g_impl_nameIn
  obtain ⟨_, _, _, hn, _, hnl, hkl, _⟩ := h.out
  obtain ⟨l1, l2, l3, l4⟩ := h.klen
  have hkk := map_names hp hk
  have hasc := map_asc hp hk
  have h6 := (parts_names hp).2.2
  refine ndStart fun w1 e1 r1 => letW_i fun w2 hw2 => ?_
  have e2 : Ext w1 w2 := by rw [hw2]; exact (Ext.refl w1).alloc _
  have ro : Row w2 w1.heap.size (cN zeroN) 40 := by rw [hw2]; exact Row.new w1 (cN zeroN) _
  clear hw2
  have r2 := r1.ext e2
  have e02 := e1.trans e2
  have z1 := e1.size
  obtain ⟨k0, k1, k2, k3, k4⟩ := Row.nd r2
  rw [exL k3]
  refine (c_slices_BinarySearch nm (hn.ext e02) (by omega) hasc).mono ?_
  rintro _ w3 ⟨⟨i, b, rfl, hb1, hb0⟩, e3⟩
  refine ⟨_, _, rfl, br_i (fun g => ?_) (fun g => ?_)⟩
  · have g' : b = false := nott g
    refine Row.set5 (ro.ext e3) fun w4 r4 c4 => ?_
    obtain ⟨m0, m1, m2, m3, m4⟩ := Row.nd (c := zeroN) r4
    simp only [exI m0, exI m1, exS m2, exL m3, exL m4]
    exact ⟨⟨zeroN, false, by simp [zeroN], fun h => by (cases h), fun _ => look_none (hb0 g')⟩, (e02.trans e3).chg c4 z1⟩
  · have g' : b = true := notf g
    have hx := hb1 g'
    have hil := (List.getElem?_eq_some_iff.1 hx).1
    obtain ⟨y, hy⟩ : ∃ y, n.ks[i]? = some y := ⟨n.ks[i]'(by omega), List.getElem?_eq_getElem (by omega)⟩
    have e03 := e02.trans e3
    obtain ⟨_, dd, a, hsa, hd, g0, g1, g2, g3, g4⟩ := h.kid hy
    rw [exL (e3.get k4)]
    refine onSome_i hsa ⟨⟨by omega, by omega⟩, ?_⟩
    simp only [exI (e03.get g0), exI (e03.get g1), exS (e03.get g2), exL (e03.get g3), exL (e03.get g4)]
    refine Row.set5 (ro.ext e3) fun w4 r4 c4 => ?_
    obtain ⟨m0, m1, m2, m3, m4⟩ := Row.nd (c := dd) r4
    simp only [exI m0, exI m1, exS m2, exL m3, exL m4]
    have e04 := (e02.trans e3).chg c4 z1
    exact ⟨⟨dd, true, rfl, fun _ => ⟨y, look_hit (fun j hj hx' => by have := asc_only hasc hx hx'; omega) hx hy, hd.ext e04, List.mem_of_getElem? hy⟩, fun h => by cases h⟩, e04⟩

theorem c_place4 {S : Nat → Prop} {w : World} {c : NdC} {n : Nd} (nm : ByteArray) (h : NdAt S w c n) (hk : n.k = 4) (hkk : n.ks.length = n.ns.length) :
    CallR Try.prog 69 [c.v, .string nm] w (fun v w' => ((∃ i : Nat, v = .int .i64 i ∧ n.ns[i]? = some nm ∧ ∀ j : Nat, j < i → n.ns[j]? ≠ some nm) ∨ (v = .int .i64 (-1) ∧ ∀ j : Nat, n.ns[j]? ≠ some nm)) ∧ Ext w w') := by
  refine fn_spec_place _ _ _ _ _ _ _ _ ?_
  unfold g_spec_place
  obtain ⟨hkc, _, _, hn, _, hnl, hkl, _⟩ := h.out
  obtain ⟨l1, l2, l3, l4⟩ := h.klen
  unfold maxLen at hkl
  refine ndStart fun w1 e1 r1 => ?_
  refine sLoop_up n.ks.length (fun i t w' => Ext w1 w' ∧ ∀ j : Nat, j < i → n.ns[j]? ≠ some nm) ⟨Ext.refl _, fun j h => by omega⟩ ?_ ?_
  · rintro K i u w2 hi ⟨he, hno⟩ hK _
    obtain ⟨k0, k1, k2, k3, k4⟩ := Row.nd (r1.ext he)
    simp only [exI k0, exL k3, exL k4]
    obtain ⟨x, hx⟩ : ∃ x, n.ns[i]? = some x := ⟨n.ns[i]'(by omega), List.getElem?_eq_getElem (by omega)⟩
    obtain ⟨a, hsa, c0⟩ := str_at (hn.ext (e1.trans he)) hx
    refine br_dt (by omega) (br_t (by rw [hkc, hk]; rfl) (onSome_i hsa ⟨⟨by omega, by omega⟩, _, c0, ?_⟩))
    rw [seqB_eq]
    refine br_d (fun g => ⟨.inl ⟨i, rfl, by rw [hx, g], hno⟩, e1.trans he⟩) (fun g => br_f (by rw [hkc, hk]; rfl) ⟨inR_i64 (by omega) (by omega), hK _ _ ⟨he, fun j hj hx' => ?_⟩⟩)
    by_cases e : j = i
    · subst e; rw [hx] at hx'; exact g (Option.some.inj hx')
    · exact hno j (by omega) hx'
  · rintro K u w2 ⟨he, hno⟩ _
    obtain ⟨k0, k1, k2, k3, k4⟩ := Row.nd (r1.ext he)
    simp only [exL k4]
    refine br_df (by omega) ⟨.inr ⟨by simp, fun j hj => ?_⟩, e1.trans he⟩
    have := (List.getElem?_eq_some_iff.1 hj).1
    exact hno j (by omega) hj
end Go.Proofs

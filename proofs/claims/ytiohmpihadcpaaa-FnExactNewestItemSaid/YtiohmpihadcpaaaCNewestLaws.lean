/-
  What functions of this seat compute, part 'NewestLaws': contracts over their readable predicates. Conditions: each theorem's own hypotheses.
-/
import Derived.Test.YtiohmpihadcpaaaBase
import Derived.Test.YtiohmpihadcpaaaOpen
import Derived.Test.YtiohmpihadcpaaaGen
import Derived.Test.YtiohmpihadcpaaaCSmall
import Derived.Test.YtiohmpihadcpaaaCOrder
import Derived.Test.YtiohmpihadcpaaaCNode
import Derived.Test.YtiohmpihadcpaaaCNodeText
import Derived.Test.YtiohmpihadcpaaaCNodeValid
import Derived.Test.YtiohmpihadcpaaaCNodeSpec
import Derived.Test.YtiohmpihadcpaaaCHelpS
import Derived.Test.YtiohmpihadcpaaaCNodeHelp
import Derived.Test.YtiohmpihadcpaaaCNodeHelp2
import Derived.Test.YtiohmpihadcpaaaCNodeTop
import Derived.Test.YtiohmpihadcpaaaCCells
import Derived.Test.YtiohmpihadcpaaaCItem
import Derived.Test.YtiohmpihadcpaaaCItem2
import Derived.Test.YtiohmpihadcpaaaCStoreLaws
namespace Go.Proofs
open Go Go.Vc Go.RowKit
set_option maxRecDepth 100000
set_option linter.unusedVariables false
--! C:Small C:Order C:Node C:NodeText C:NodeValid C:NodeSpec C:HelpS C:NodeHelp C:NodeHelp2 C:NodeTop C:Cells C:Item C:Item2 C:StoreLaws
/-! ## The newest document -/

def pickN : Bool → Nat → Nat → Nat
  | true, a, _ => a
  | false, _, b => b
def pickS : Bool → ByteArray → ByteArray
  | true, s => s
  | false, _ => ⟨#[]⟩
def verAt (xs : List It) (n : Nat) : Int := match xs[n]? with | some x => x.2.1 | none => 0
def nameAt (xs : List It) (n : Nat) : ByteArray := match xs[n]? with | some x => x.1 | none => ⟨#[]⟩
def bestGo (xs : List It) : Nat → Nat
  | 0 => 0
  | n + 1 => pickN (decide (verAt xs n > verAt xs (bestGo xs n))) n (bestGo xs n)
def nwB (xs : List It) (c : Int) : Bool := vSt xs c && decide (xs.length ≠ 0)
def nwS (xs : List It) (c : Int) : ByteArray := pickS (nwB xs c) (nameAt xs (bestGo xs xs.length))

theorem bestGo_lt {xs : List It} (h : 0 < xs.length) : ∀ n, n ≤ xs.length → bestGo xs n < xs.length
  | 0, _ => h
  | n + 1, hn => by
    have := bestGo_lt h n (by omega)
    simp only [bestGo]
    cases decide (verAt xs n > verAt xs (bestGo xs n)) <;> simp only [pickN] <;> omega
theorem bestGo_one (xs : List It) : bestGo xs 1 = 0 := by
  simp [bestGo, pickN]

theorem get_at {xs : List It} {i : Nat} (h : i < xs.length) : ∃ x, xs[i]? = some x ∧ verAt xs i = x.2.1 ∧ nameAt xs i = x.1 := by
  refine ⟨xs[i], List.getElem?_eq_getElem h, ?_, ?_⟩
  · simp [verAt, List.getElem?_eq_getElem h]
  · simp [nameAt, List.getElem?_eq_getElem h]

theorem sLoop_from {τ : Type} {t0 : τ} {w0 : World} {round : (Int × τ → World → Prop) → Int × τ → World → Prop} (m n : Nat) (hmn : m ≤ n) (J : Nat → τ → World → Prop) (h0 : J m t0 w0)
    (step : ∀ (K : Int × τ → World → Prop) (k : Nat) (t : τ) (w : World), m ≤ k → k < n → J k t w → (∀ t' w', J (k + 1) t' w' → K ((k : Int) + 1, t') w') → round K ((k : Int), t) w)
    (done : ∀ (K : Int × τ → World → Prop) (t : τ) (w : World), J n t w → round K ((n : Int), t) w) : sLoop ((m : Int), t0) w0 round := by
  refine sLoop.intro (fun s w => ∃ k, s.1 = (k : Nat) ∧ m ≤ k ∧ k ≤ n ∧ J k s.2 w) (fun s _ => n - s.1.toNat) ⟨m, rfl, Nat.le_refl _, hmn, h0⟩ ?_
  rintro ⟨i, t⟩ w K ⟨k, hk, hge, hle, hJ⟩ hK
  simp only at hk hJ
  subst hk
  by_cases hlt : k < n
  · exact step K k t w hge hlt hJ fun t' w' hJ' => hK _ _ ⟨k + 1, rfl, by omega, hlt, hJ'⟩ (by simp; omega)
  · have hk : k = n := by omega
    subst hk
    exact done K t w hJ

theorem c_spec_NewestItem {S : Nat → Prop} {w : World} {l : Sl} {xs : List It} {c : Int} (h : ItsAt S w l xs) :
    CallR Try.prog 12 [svE l c] w (fun v w' => v = .tuple #[.string (nwS xs c), .bool (nwB xs c)] ∧ Ext w w') := by
  refine fn_spec_NewestItem _ _ _ _ ?_
  unfold g_spec_NewestItem
  have hk := h.slen
  have hl := h.len
  unfold maxLen at hl
  refine stBox fun w1 e1 r1 => ?_
  obtain ⟨q0, q1⟩ := Row.st r1
  simp only [add_nought, exL q0, exI q1]
  refine (c_spec_validStore (h.ext e1)).go fun w2 e2 => ⟨_, rfl, br_i (fun f1 => ⟨?_, e1.trans e2⟩) (fun f1 => ?_)⟩
  · have f1' : vSt xs c = false := by simpa using f1
    simp [nwS, nwB, f1', pickS]
  have f1' : vSt xs c = true := by simpa using f1
  simp only [exL (e2.get q0)]
  refine br_i (fun f2 => ⟨?_, e1.trans e2⟩) (fun f2 => ?_)
  · have f2' : xs.length = 0 := by simp at f2; omega
    simp [nwS, nwB, f2', pickS]
  have f2' : 0 < xs.length := by simp at f2; omega
  have hB : nwB xs c = true := by simp only [nwB, f1', Bool.true_and]; exact decide_eq_true (by omega)
  have r2 := r1.ext e2
  refine sLoop_from 1 xs.length f2' (fun k t w' => Ext w2 w' ∧ t.1 = (bestGo xs k : Int)) ⟨Ext.refl _, by rw [bestGo_one]; rfl⟩ ?_ ?_
  · rintro K k ⟨t, u⟩ w3 h1k hkn ⟨he, ht⟩ hK _
    simp only at ht
    subst ht
    dsimp only
    obtain ⟨q0, q1⟩ := Row.st (r2.ext he)
    simp only [exL q0]
    refine br_dt (by omega) fun w4 (e4 : Ext w3 w4) => ?_
    simp only [exL (e4.get q0)]
    have e04 := (e1.trans e2).trans (he.trans e4)
    have hbl := bestGo_lt f2' k (by omega)
    obtain ⟨x, hx, vx, nx⟩ := get_at hkn
    obtain ⟨y, hy, vy, ny⟩ := get_at hbl
    obtain ⟨d, a, hsa, hn, g0, g1, g2, g3, g4, g5, g6⟩ := (h.ext e04).at_ hx
    obtain ⟨d', a', hsa', hn', p0, p1, p2, p3, p4, p5, p6⟩ := (h.ext e04).at_ hy
    refine onSome_i hsa ⟨⟨by omega, by omega⟩, ?_⟩
    simp only [exI g1]
    refine onSome_i hsa' ⟨⟨by omega, by omega⟩, ?_⟩
    simp only [exI p1]
    rw [← vx, ← vy]
    refine br_i (fun g => ⟨inR_i64 (by omega) (by omega), hK _ _ ⟨he.trans e4, ?_⟩⟩) (fun g => ⟨inR_i64 (by omega) (by omega), hK _ _ ⟨he.trans e4, ?_⟩⟩)
    · simp only [bestGo, g, pickN]
    · simp only [bestGo, g, pickN]
  · rintro K ⟨t, u⟩ w3 ⟨he, ht⟩ _
    simp only at ht
    subst ht
    dsimp only
    obtain ⟨q0, q1⟩ := Row.st (r2.ext he)
    simp only [exL q0]
    have hbl := bestGo_lt f2' xs.length (Nat.le_refl _)
    have e03 := (e1.trans e2).trans he
    obtain ⟨y, hy, vy, ny⟩ := get_at hbl
    obtain ⟨d', a', hsa', hn', p0, p1, p2, p3, p4, p5, p6⟩ := (h.ext e03).at_ hy
    refine br_df (by omega) (onSome_i hsa' ⟨⟨by omega, by omega⟩, ?_⟩)
    simp only [exS p0]
    exact ⟨by simp [nwS, hB, pickS, ny], e03⟩

theorem c_impl_NewestItem {S : Nat → Prop} {w : World} {l : Sl} {xs : List It} {c : Int} (h : ItsAt S w l xs) :
    CallR Try.prog 13 [svE l c] w (fun v w' => v = .tuple #[.string (nwS xs c), .bool (nwB xs c)] ∧ Ext w w') := by
  refine fn_impl_NewestItem _ _ _ _ ?_
  unfold g_impl_NewestItem
  have hk := h.slen
  have hl := h.len
  unfold maxLen at hl
  refine stBox fun w1 e1 r1 => ?_
  obtain ⟨q0, q1⟩ := Row.st r1
  simp only [add_nought, exL q0, exI q1]
  refine (c_impl_ValidStore (h.ext e1)).go fun w2 e2 => ⟨_, rfl, br_i (fun f1 => ⟨?_, e1.trans e2⟩) (fun f1 => ?_)⟩
  · have f1' : vSt xs c = false := by simpa using f1
    simp [nwS, nwB, f1', pickS]
  have f1' : vSt xs c = true := by simpa using f1
  simp only [exL (e2.get q0)]
  refine br_i (fun f2 => ⟨?_, e1.trans e2⟩) (fun f2 => ?_)
  · have f2' : xs.length = 0 := by simp at f2; omega
    simp [nwS, nwB, f2', pickS]
  have f2' : 0 < xs.length := by simp at f2; omega
  have hB : nwB xs c = true := by simp only [nwB, f1', Bool.true_and]; exact decide_eq_true (by omega)
  have r2 := r1.ext e2
  refine sLoop_up xs.length (fun k t w' => Ext w2 w' ∧ t.1 = (bestGo xs k : Int)) ⟨Ext.refl _, rfl⟩ ?_ ?_
  · rintro K k ⟨t, u⟩ w3 hkn ⟨he, ht⟩ hK _
    simp only at ht
    subst ht
    dsimp only
    have e03 := (e1.trans e2).trans he
    have hbl := bestGo_lt f2' k (by omega)
    obtain ⟨x, hx, vx, nx⟩ := get_at hkn
    obtain ⟨y, hy, vy, ny⟩ := get_at hbl
    obtain ⟨d, a, hsa, hn, g0, g1, g2, g3, g4, g5, g6⟩ := (h.ext e03).at_ hx
    refine br_dt (by omega) (onSome_i hsa ⟨⟨by omega, by omega⟩, ?_⟩)
    simp only [exS g0, exI g1, exI g2, exI g3, exS g4, exL g5, exL g6]
    refine local7c fun w4 r4 e4 => fun w5 (e5 : Ext w4 w5) => ?_
    have r5 : Row w5 w3.heap.size (cIt (x.1, x.2.1, d)) 52 := Row.ext r4 e5
    obtain ⟨k0, k1, _⟩ := Row.it r5
    have e35 := e4.trans e5
    obtain ⟨q0, q1⟩ := Row.st ((r2.ext he).ext e35)
    simp only [exI k1, exL q0]
    obtain ⟨d', a', hsa', hn', p0, p1, p2, p3, p4, p5, p6⟩ := (h.ext (e03.trans e35)).at_ hy
    refine onSome_i hsa' ⟨⟨by omega, by omega⟩, ?_⟩
    simp only [exI p1]
    rw [← vx, ← vy]
    refine br_i (fun g => ⟨inR_i64 (by omega) (by omega), hK _ _ ⟨he.trans e35, ?_⟩⟩) (fun g => ⟨inR_i64 (by omega) (by omega), hK _ _ ⟨he.trans e35, ?_⟩⟩)
    · simp only [bestGo, g, pickN]
    · simp only [bestGo, g, pickN]
  · rintro K ⟨t, u⟩ w3 ⟨he, ht⟩ _
    simp only at ht
    subst ht
    dsimp only
    obtain ⟨q0, q1⟩ := Row.st (r2.ext he)
    simp only [exL q0]
    have hbl := bestGo_lt f2' xs.length (Nat.le_refl _)
    have e03 := (e1.trans e2).trans he
    obtain ⟨y, hy, vy, ny⟩ := get_at hbl
    obtain ⟨d', a', hsa', hn', p0, p1, p2, p3, p4, p5, p6⟩ := (h.ext e03).at_ hy
    refine br_df (by omega) (onSome_i hsa' ⟨⟨by omega, by omega⟩, ?_⟩)
    simp only [exS p0]
    exact ⟨by simp [nwS, hB, pickS, ny], e03⟩

theorem c_laws_FnExactNewestItem {w : World} {l : Sl} {c : Int} {xs : List It} (h : ItsAt (fun _ => True) w l xs) (_ : l.cap ≤ maxLen) :
    CallR Try.prog 4 [svE l c] w (fun v w' => v = .bool true ∧ Ext w w') := by
  refine fn_laws_FnExactNewestItem _ _ _ _ ?_
  unfold g_laws_FnExactNewestItem
  refine stBox fun w1 e1 r1 => ?_
  obtain ⟨k0, k1⟩ := Row.st r1
  simp only [add_nought, exL k0, exI k1]
  refine (c_laws_szStore _ (h.ext e1) (by omega) (by omega)).mono ?_
  rintro _ w2 ⟨hv, e2⟩
  rcases hv with rfl | ⟨rfl, hpos⟩
  · exact ⟨_, rfl, br_dt (by omega) ⟨by simp, e1.trans e2⟩⟩
  have hz : xs.length + mzIs xs ≤ 1048576 := by omega
  refine ⟨_, rfl, br_df (by omega) ?_⟩
  simp only [exL (e2.get k0), exI (e2.get k1)]
  have e02 := e1.trans e2
  refine c_laws_toStore (h.ext e02) hz fun t3 w3 h3 e3 => ⟨t3, c, rfl, ?_⟩
  have e03 := e02.trans e3
  refine (c_spec_NewestItem h3).go fun w4 e4 => ⟨_, _, rfl, ?_⟩
  have e04 := e03.trans e4
  have e14 := (e2.trans e3).trans e4
  simp only [exL (e14.get k0), exI (e14.get k1)]
  refine c_laws_toStore (h.ext e04) hz fun t5 w5 h5 e5 => ⟨t5, c, rfl, ?_⟩
  have e05 := e04.trans e5
  refine stLocal fun w6 r6 e6 => ?_
  obtain ⟨m0, m1⟩ := Row.st r6
  simp only [exL m0, exI m1]
  have e06 := e05.trans e6
  refine (c_impl_NewestItem (h5.ext e6)).go fun w7 e7 => ⟨_, _, rfl, br_f (by simp [seqB_eq]) (br_f (by simp) ?_)⟩
  have e07 := e06.trans e7
  refine ⟨fun w' => Ext w7 w', fun w' he => he, fun w8 (e8 : Ext w7 w8) => ⟨e8, ?_⟩⟩
  have e78 := e7.trans e8
  refine ⟨t5, fun w' (he : Ext w7 w') => (e7.trans he).get m0, c, fun w' (he : Ext w7 w') => (e7.trans he).get m1, ?_⟩
  have e48 := (e5.trans e6).trans e78
  have e18 := e14.trans e48
  simp only [exL (e18.get k0), exI (e18.get k1)]
  refine ⟨e8, ?_⟩
  have e08 := e04.trans e48
  refine c_laws_toStore (h.ext e08) hz fun t9 w9 h9 e9 => ⟨t9, c, rfl, e8.trans e9, ?_⟩
  exact (c_laws_eqStore (((h5.ext e6).ext e78).ext e9) h9).go fun w10 e10 => ⟨_, rfl, br_f (by simp) ⟨by simp, (e08.trans e9).trans e10⟩⟩
end Go.Proofs

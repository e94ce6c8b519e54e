/-
  What functions of this seat compute, part 'NodeValid': contracts over their readable predicates. Conditions: each theorem's own hypotheses.
-/
import Derived.Test.YtcgfhchmpoaiiaaBase
import Derived.Test.YtcgfhchmpoaiiaaOpen
import Derived.Test.YtcgfhchmpoaiiaaGen
import Derived.Test.YtcgfhchmpoaiiaaCSmall
import Derived.Test.YtcgfhchmpoaiiaaCOrder
import Derived.Test.YtcgfhchmpoaiiaaCNode
import Derived.Test.YtcgfhchmpoaiiaaCNodeText
namespace Go.Proofs
open Go Go.Vc Go.RowKit
set_option maxRecDepth 100000
set_option linter.unusedVariables false
--! C:Small C:Order C:Node C:NodeText
/-! ## Nodes that are valid -/

def partsC (k m : Int) (t : ByteArray) (ns : List ByteArray) (nk : Nat) : Bool :=
  (decide (k = 1) || decide (m = 0)) && (decide (k = 2) || decide (t.size = 0)) && (decide (k = 4) || decide (ns.length = 0)) &&
  (if k = 0 then decide (nk = 0) else if k = 1 then decide (-999999 ≤ m ∧ m ≤ 999999) && decide (nk = 0) else if k = 2 then okTxt t && decide (nk = 0) else if k = 3 then decide (nk ≤ 6) else if k = 4 then decide (ns.length ≤ 6) && okNames ns && decide (nk = ns.length) else false)
def parts (n : Nd) : Bool := partsC n.k n.m n.t n.ns n.ks.length

def shp : Nat → Nd → Bool
  | 0, _ => false
  | d + 1, n => parts n && n.ks.all (shp d)

def vNd (n : Nd) : Bool := shp 5 n && decide (cnt n ≤ 40)

theorem br_guard {a b : Bool} {F X : Prop} (hF : a = true → b = true → F) (hX : (a && b) = false → X) : br a (br b F X) X := by
  cases a with
  | false => exact hX rfl
  | true =>
    cases b with
    | false => exact hX rfl
    | true => exact hF rfl rfl

theorem beqI (a b : Int) : (a == b) = decide (a = b) := by rw [Bool.eq_iff_iff]; simp

theorem nodeRow {w w1 : World} {c : NdC} {T : TypeId} (hw : w1 = w.alloc (.cells (cN c).toArray T)) : Row w1 w.heap.size (cN c) T := by rw [hw]; exact Row.new w (cN c) T

set_option maxHeartbeats 4000000 in
theorem c_impl_hasValidParts {S : Nat → Prop} {w : World} {c : NdC} {n : Nd} (h : NdAt S w c n) : CallR Try.prog 77 [c.v] w (fun v w' => v = .bool (parts n) ∧ Ext w w') := by
  refine fn_impl_hasValidParts _ _ _ _ _ _ _ ?_
  unfold g_impl_hasValidParts
  obtain ⟨hk, hm, ht, hn, _⟩ := h.out
  obtain ⟨hl1, hl2, _, _⟩ := h.klen
  refine letW_i fun w1 hw1 => ?_
  have e1 : Ext w w1 := by rw [hw1]; exact (Ext.refl w).alloc _
  have r1 : Row w1 w.heap.size (cN c) 40 := nodeRow hw1
  clear hw1
  have h0 : w1.cell? ((⟨w.heap.size, 0, none⟩ : Addr).add 0) = some (.int .i64 c.k) := r1.cell rfl
  have h1 : w1.cell? ((⟨w.heap.size, 0, none⟩ : Addr).add 1) = some (.int .i64 c.m) := r1.cell rfl
  have h2 : w1.cell? ((⟨w.heap.size, 0, none⟩ : Addr).add 2) = some (.string c.t) := r1.cell rfl
  have h3 : w1.cell? ((⟨w.heap.size, 0, none⟩ : Addr).add 3) = some (.slice c.sn.a c.sn.len c.sn.cap) := r1.cell rfl
  have h4 : w1.cell? ((⟨w.heap.size, 0, none⟩ : Addr).add 4) = some (.slice c.sk.a c.sk.len c.sk.cap) := r1.cell rfl
  simp only [exI h0, exI h1, exS h2, exL h3, exL h4, seqB_nil]
  have hp : parts n = partsC c.k c.m c.t n.ns c.sk.len := by rw [parts, hk, hm, ht, hl1]
  rw [hp]
  have hn1 := hn.ext e1
  simp only [bne, beqI]
  have bad : partsC c.k c.m c.t n.ns c.sk.len = false → ((Value.bool false = .bool (partsC c.k c.m c.t n.ns c.sk.len)) ∧ Ext w w1) := fun hf => ⟨by rw [hf], e1⟩
  refine br_guard (fun a b => bad ?_) (fun g1 => br_guard (fun a b => bad ?_) (fun g2 => br_guard (fun a b => bad ?_) (fun g3 => ?_)))
  · have a' := of_decide_eq_false (nott a)
    have b' := of_decide_eq_false (nott b)
    simp [partsC, a', b']
  · have a' := of_decide_eq_false (nott a)
    have b' := of_decide_eq_false (nott b)
    simp [partsC, a', b']
  · have a' := of_decide_eq_false (nott a)
    have b' := of_decide_eq_true b
    have b'' : n.ns ≠ [] := fun e => by
      have h8 := congrArg List.length e
      simp only [List.length_nil] at h8
      have h9 : (c.sn.len : Int) > 0 := b'
      omega
    simp [partsC, a', b'']
  have p1 : (decide (c.k = 1) || decide (c.m = 0)) = true := by
    cases h5 : decide (c.k = 1) <;> cases h6 : decide (c.m = 0) <;> simp_all
  have p2 : (decide (c.k = 2) || decide (c.t.size = 0)) = true := by
    cases h5 : decide (c.k = 2) <;> cases h6 : decide (c.t.size = 0) <;> simp_all
  have p3 : (decide (c.k = 4) || decide (n.ns.length = 0)) = true := by
    have h7 : decide ((c.sn.len : Int) > 0) = !(decide (n.ns.length = 0)) := by
      rw [Bool.eq_iff_iff]; simp only [decide_eq_true_eq, Bool.not_eq_true', decide_eq_false_iff_not]; omega
    rw [h7] at g3
    cases h5 : decide (c.k = 4) <;> cases h6 : decide (n.ns.length = 0) <;> simp_all
  have hred : partsC c.k c.m c.t n.ns c.sk.len = (if c.k = 0 then decide (c.sk.len = 0) else if c.k = 1 then decide (-999999 ≤ c.m ∧ c.m ≤ 999999) && decide (c.sk.len = 0) else if c.k = 2 then okTxt c.t && decide (c.sk.len = 0) else if c.k = 3 then decide (c.sk.len ≤ 6) else if c.k = 4 then decide (n.ns.length ≤ 6) && okNames n.ns && decide (c.sk.len = n.ns.length) else false) := by
    rw [partsC, p1, p2, p3]; rfl
  rw [hred]
  have dn : decide ((c.sk.len : Int) = 0) = decide (c.sk.len = 0) := by congr 1; rw [eq_iff_iff]; omega
  refine br_d (fun a0 => ⟨by rw [if_pos a0, dn], e1⟩) (fun a0 => ?_)
  rw [if_neg a0]
  refine br_d (fun a1 => ?_) (fun a1 => ?_)
  · rw [if_pos a1]
    refine br_d (fun b1 => br_d (fun b2 => ⟨?_, e1⟩) (fun b2 => ⟨?_, e1⟩)) (fun b1 => ⟨?_, e1⟩)
    · have : -999999 ≤ c.m ∧ c.m ≤ 999999 := by omega
      rw [dn, decide_eq_true this]; rfl
    · have : ¬ (-999999 ≤ c.m ∧ c.m ≤ 999999) := by omega
      rw [decide_eq_false this]; rfl
    · have : ¬ (-999999 ≤ c.m ∧ c.m ≤ 999999) := by omega
      rw [decide_eq_false this]; rfl
  rw [if_neg a1]
  refine br_d (fun a2 => ?_) (fun a2 => ?_)
  · rw [if_pos a2]
    refine (c_impl_isPlainText c.t w1).go fun w2 e2 => ⟨_, rfl, br_i (fun g => ?_) (fun g => ⟨by rw [g]; rfl, e1.trans e2⟩)⟩
    rw [exL (e2.get h4), g]
    exact ⟨by rw [dn]; rfl, e1.trans e2⟩
  rw [if_neg a2]
  refine br_d (fun a3 => ?_) (fun a3 => ?_)
  · rw [if_pos a3]
    refine ⟨?_, e1⟩
    congr 2
    rw [eq_iff_iff]; omega
  rw [if_neg a3]
  refine br_d (fun a4 => ?_) (fun a4 => ⟨by rw [if_neg a4], e1⟩)
  rw [if_pos a4]
  refine (c_impl_areNames hn1).go fun w2 e2 => ⟨_, rfl, br_i (fun g => ?_) (fun g => ⟨by rw [g]; rfl, e1.trans e2⟩)⟩
  rw [exL (e2.get h4), exL (e2.get h3), g]
  refine ⟨?_, e1.trans e2⟩
  congr 2
  rw [eq_iff_iff]; omega

theorem sepEq (a b : Nat) : (decide ((a : Int) = 0)) = decide (a = 0) := by congr 1; rw [eq_iff_iff]; omega

theorem parts_len {n : Nd} (h : parts n = true) : n.ks.length ≤ 6 := by
  simp only [parts, partsC, Bool.and_eq_true] at h
  have h2 := h.2
  split at h2
  · have := of_decide_eq_true h2; omega
  split at h2
  · simp only [Bool.and_eq_true, decide_eq_true_eq] at h2; omega
  split at h2
  · simp only [Bool.and_eq_true, decide_eq_true_eq] at h2; omega
  split at h2
  · have := of_decide_eq_true h2; omega
  split at h2
  · simp only [Bool.and_eq_true, decide_eq_true_eq] at h2; omega
  · cases h2

theorem cntL_le (B : Nat) : ∀ l : List Nd, (∀ x ∈ l, cnt x ≤ B) → cntL l ≤ l.length * B
  | [], _ => by simp [cntL]
  | x :: r, hx => by
    have h1 := hx x (by simp)
    have h2 := cntL_le B r fun y hy => hx y (by simp [hy])
    simp only [cntL, List.length_cons, Nat.add_mul, Nat.one_mul]
    omega

theorem shp_size : ∀ (d : Nat) (n : Nd), shp d n = true → cnt n ≤ 7 ^ d
  | 0, n, h => by cases h
  | d + 1, n, h => by
    simp only [shp, Bool.and_eq_true, List.all_eq_true] at h
    have h6 := parts_len h.1
    have h1 := cntL_le (7 ^ d) n.ks fun x hx => shp_size d x (h.2 x hx)
    have h2 : n.ks.length * 7 ^ d ≤ 6 * 7 ^ d := Nat.mul_le_mul_right _ h6
    have h3 : 0 < 7 ^ d := Nat.pow_pos (by decide)
    rw [cnt_eq, Nat.pow_succ]
    omega

theorem shp_5 {d : Nat} {n : Nd} (hd : d ≤ 5) (h : shp d n = true) : cnt n ≤ 16807 :=
  Nat.le_trans (shp_size d n h) (Nat.le_trans (Nat.pow_le_pow_right (by decide) hd) (by decide))

/-- The five cells of a copy. -/
theorem Row.nd {w : World} {b : Nat} {c : NdC} {T : TypeId} (r : Row w b (cN c) T) :
    w.cell? ((⟨b, 0, none⟩ : Addr).add 0) = some (.int .i64 c.k) ∧ w.cell? ((⟨b, 0, none⟩ : Addr).add 1) = some (.int .i64 c.m) ∧ w.cell? ((⟨b, 0, none⟩ : Addr).add 2) = some (.string c.t) ∧
    w.cell? ((⟨b, 0, none⟩ : Addr).add 3) = some (.slice c.sn.a c.sn.len c.sn.cap) ∧ w.cell? ((⟨b, 0, none⟩ : Addr).add 4) = some (.slice c.sk.a c.sk.len c.sk.cap) :=
  ⟨r.cell rfl, r.cell rfl, r.cell rfl, r.cell rfl, r.cell rfl⟩

set_option maxHeartbeats 1000000 in
theorem c_impl_measureNode {S : Nat → Prop} : ∀ (d : Nat) (w : World) (c : NdC) (n : Nd), d ≤ 5 → NdAt S w c n →
    CallR Try.prog 65 [c.v, .int .i64 (6 - (d : Int))] w (fun v w' => v = (if shp d n = true then .tuple #[.int .i64 (cnt n), .int .i64 (dpt n), .bool true] else .tuple #[.int .i64 0, .int .i64 0, .bool false]) ∧ Ext w w') := by
  intro d
  induction d with
  | zero =>
    intro w c n _ h
    refine fn_impl_measureNode _ _ _ _ _ _ _ _ ?_
    unfold g_impl_measureNode
    refine letW_i fun w1 hw1 => ?_
    have e1 : Ext w w1 := by rw [hw1]; exact (Ext.refl w).alloc _
    exact br_dt (by omega) ⟨rfl, e1⟩
  | succ d ih =>
    intro w c n hd h
    refine fn_impl_measureNode _ _ _ _ _ _ _ _ ?_
    unfold g_impl_measureNode
    refine letW_i fun w1 hw1 => ?_
    have e1 : Ext w w1 := by rw [hw1]; exact (Ext.refl w).alloc _
    have r1 : Row w1 w.heap.size (cN c) 40 := nodeRow hw1
    clear hw1
    have h0 : w1.cell? ((⟨w.heap.size, 0, none⟩ : Addr).add 0) = some (.int .i64 c.k) := r1.cell rfl
    have h1 : w1.cell? ((⟨w.heap.size, 0, none⟩ : Addr).add 1) = some (.int .i64 c.m) := r1.cell rfl
    have h2 : w1.cell? ((⟨w.heap.size, 0, none⟩ : Addr).add 2) = some (.string c.t) := r1.cell rfl
    have h3 : w1.cell? ((⟨w.heap.size, 0, none⟩ : Addr).add 3) = some (.slice c.sn.a c.sn.len c.sn.cap) := r1.cell rfl
    have h4 : w1.cell? ((⟨w.heap.size, 0, none⟩ : Addr).add 4) = some (.slice c.sk.a c.sk.len c.sk.cap) := r1.cell rfl
    refine br_df (by omega) ?_
    simp only [exI h0, exI h1, exS h2, exL h3, exL h4, seqB_nil]
    refine (c_impl_hasValidParts (h.ext e1)).go fun w2 e2 => ⟨_, rfl, br_i (fun g => ?_) (fun g => ?_)⟩
    · have g' : parts n = false := nott (by simpa using g)
      exact ⟨by simp [shp, g'], e1.trans e2⟩
    have g' : parts n = true := by simpa using g
    rw [exL (e2.get h4)]
    have h6 := parts_len g'
    have hk := h.klen
    refine sLoop_list n.ks (fun pre t w' => Ext w w' ∧ t = ((1 + cntL pre : Int), (dptL pre + 1 : Int), ()) ∧ pre.all (shp d) = true) ⟨e1.trans e2, rfl, rfl⟩ ?_ ?_
    · intro K pre post x t w3 hx ⟨he, ht, ha⟩ hK _
      subst ht
      have hl := mid_len hx
      refine br_dt (by simp only; omega) ?_
      obtain ⟨_, dd, a, hsa, hd', g0, g1, g2, g3, g4⟩ := (h.ext he).kid (i := pre.length) (mid_get hx)
      rw [hsa]
      refine ⟨⟨by simp only; omega, by simp only; omega⟩, ?_⟩
      simp only [exI g0, exI g1, exS g2, exL g3, exL g4]
      refine local5 fun w4 r4 e4 => ?_
      obtain ⟨k0, k1, k2, k3, k4⟩ := Row.nd (c := dd) r4
      simp only [exI k0, exI k1, exS k2, exL k3, exL k4]
      have hlev : (6 - ((d + 1 : Nat) : Int)) + 1 = 6 - (d : Int) := by omega
      rw [hlev]
      refine ⟨inR_i64 (by omega) (by omega), (ih w4 dd x (by omega) (hd'.ext e4)).mono fun v w5 ⟨hv, e5⟩ => ?_⟩
      have e35 := (he.trans e4).trans e5
      by_cases hs : shp d x = true
      · rw [if_pos hs] at hv
        have c1 := shp_5 (by omega) hs
        have c2 := cntL_le 16807 pre fun y hy => shp_5 (d := d) (by omega) (List.all_eq_true.1 ha y hy)
        have c3 : pre.length * 16807 ≤ 6 * 16807 := Nat.mul_le_mul_right _ (by omega)
        have c4 := dpt_le_cnt _ x (Nat.le_refl _)
        refine ⟨_, _, _, hv, br_i (fun g => by simp at g) (fun _ => ⟨inR_i64 (by omega) (by omega), inR_i64 (by omega) (by omega), inR_i64 (by omega) (by omega), hK _ _ ⟨e35, ?_, by simp [ha, hs]⟩⟩)⟩
        rw [cntL_append, dptL_snoc]
        simp only [cntL, Prod.mk.injEq, and_true]
        omega
      · rw [if_neg hs] at hv
        refine ⟨_, _, _, hv, br_i (fun _ => ⟨?_, e35⟩) (fun g => by simp at g)⟩
        have : shp (d + 1) n = false := by
          cases hh : shp (d + 1) n with
          | false => rfl
          | true =>
            simp only [shp, Bool.and_eq_true, List.all_eq_true] at hh
            exact absurd (hh.2 x (by rw [hx]; simp)) hs
        rw [this]; rfl
    · intro K t w3 ⟨he, ht, ha⟩ _
      subst ht
      refine br_df (by simp only; omega) ⟨?_, he⟩
      have : shp (d + 1) n = true := by simp only [shp, g', Bool.true_and]; exact ha
      rw [if_pos this, cnt_eq, dpt_eq]
      simp

theorem c_impl_measure1 {S : Nat → Prop} {w : World} {c : NdC} {n : Nd} (h : NdAt S w c n) :
    CallR Try.prog 65 [c.v, .int .i64 1] w (fun v w' => v = (if shp 5 n = true then .tuple #[.int .i64 (cnt n), .int .i64 (dpt n), .bool true] else .tuple #[.int .i64 0, .int .i64 0, .bool false]) ∧ Ext w w') := c_impl_measureNode 5 w c n (by omega) h

/-- The start of a function that takes a node. -/
theorem ndStart {w : World} {c : NdC} {T : TypeId} {K : World → Prop} (hk : ∀ w1, Ext w w1 → Row w1 w.heap.size (cN c) T → K w1) :
    letW (w.alloc (.cells #[.int .i64 c.k, .int .i64 c.m, .string c.t, .slice c.sn.a c.sn.len c.sn.cap, .slice c.sk.a c.sk.len c.sk.cap] T)) K :=
  letW_i fun w1 hw1 => hk w1 (by rw [hw1]; exact (Ext.refl w).alloc _) (nodeRow hw1)

theorem c_impl_ValidNode {S : Nat → Prop} {w : World} {c : NdC} {n : Nd} (h : NdAt S w c n) : CallR Try.prog 41 [c.v] w (fun v w' => v = .bool (vNd n) ∧ Ext w w') := by
  refine fn_impl_ValidNode _ _ _ _ _ _ _ ?_
  unfold g_impl_ValidNode
  refine ndStart fun w1 e1 r1 => ?_
  obtain ⟨k0, k1, k2, k3, k4⟩ := Row.nd r1
  simp only [exI k0, exI k1, exS k2, exL k3, exL k4]
  refine (c_impl_measure1 (h.ext e1)).mono fun v w2 ⟨hv, e2⟩ => ?_
  by_cases hs : shp 5 n = true
  · rw [if_pos hs] at hv
    refine ⟨_, _, _, hv, ?_⟩
    rw [brT]
    refine ⟨?_, e1.trans e2⟩
    simp only [vNd, hs, Bool.true_and]
    congr 2
    rw [eq_iff_iff]; omega
  · rw [if_neg hs] at hv
    refine ⟨_, _, _, hv, ?_⟩
    rw [brF]
    exact ⟨by simp [vNd, hs], e1.trans e2⟩



end Go.Proofs

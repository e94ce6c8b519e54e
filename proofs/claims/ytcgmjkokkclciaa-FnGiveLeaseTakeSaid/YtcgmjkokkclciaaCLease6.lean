/-
  What functions of this seat compute, part 'Lease6': contracts over their readable predicates. Conditions: each theorem's own hypotheses.
-/
import Derived.Test.YtcgmjkokkclciaaBase
import Derived.Test.YtcgmjkokkclciaaOpen
import Derived.Test.YtcgmjkokkclciaaGen
import Derived.Test.YtcgmjkokkclciaaCLease
import Derived.Test.YtcgmjkokkclciaaCLease3
import Derived.Test.YtcgmjkokkclciaaCLease4
import Derived.Test.YtcgmjkokkclciaaCMark
namespace Go.Proofs
open Go Go.Vc Go.RowKit
set_option maxRecDepth 100000
set_option linter.unusedVariables false
--! C:Lease C:Lease3 C:Lease4 C:Mark
/-! ## Leases: compared, marked, held -/

theorem c_laws_equalLeases {s t : Sl} {xs ys : List Lz} {w : World} (h : Leases w s xs) (h' : Leases w t ys) (hl : xs.length ≤ maxLen) :
    CallR Try.prog 31 [.slice s.a s.len s.cap, .slice t.a t.len t.cap] w (fun v w' => v = .bool (decide (xs = ys)) ∧ Ext w w') := by
  refine fn_laws_equalLeases _ _ _ _ ?_
  unfold g_laws_equalLeases
  unfold maxLen at hl
  have hl0 := h.len
  have hl1 := h'.len
  refine br_i (fun g => ⟨?_, Ext.refl _⟩) (fun g => ?_)
  · have : xs ≠ ys := fun e => by subst e; simp at g; omega
    simp [this]
  have hlen : xs.length = ys.length := by simp at g; omega
  refine sLoop_list xs (fun pre _ w' => Ext w w' ∧ pre = ys.take pre.length) ⟨Ext.refl _, rfl⟩ ?_ ?_
  · rintro K pre post c u w1 hx ⟨he, hp⟩ hK _
    have hm := mid_len hx
    refine br_dt (by omega) (fun w2 (e2 : Ext w1 w2) => ?_)
    have e02 := he.trans e2
    obtain ⟨a, ha1, c0, c1, c2⟩ := lz_mid (h.ext e02) hx
    have hlt : pre.length < ys.length := by omega
    have hy : ys = ys.take pre.length ++ ys[pre.length] :: ys.drop (pre.length + 1) := by simp
    have hyl : (ys.take pre.length).length = pre.length := by simp; omega
    obtain ⟨b, hb1, d0, d1, d2⟩ := lz_mid (h'.ext e02) hy
    rw [hyl] at d0 d1 d2
    have heq : (seqB c.1 ys[pre.length].1 && (c.2.1 == ys[pre.length].2.1 && (c.2.2 == ys[pre.length].2.2 && true))) = decide (c = ys[pre.length]) := by
      generalize ys[pre.length] = y
      obtain ⟨c0, c1, c2⟩ := c
      obtain ⟨y0, y1, y2⟩ := y
      rw [seqB_eq, Bool.eq_iff_iff]
      simp
    refine onSome_i ha1 ⟨⟨by omega, by omega⟩, _, c0, _, c1, _, c2, onSome_i hb1 ⟨⟨by omega, by omega⟩, _, d0, _, d1, _, d2, ?_⟩⟩
    rw [heq]
    refine br_i (fun g2 => ⟨?_, e02⟩) (fun g2 => ⟨inR_i64 (by omega) (by omega), hK _ _ ⟨e02, ?_⟩⟩)
    · have hne := of_decide_eq_false (nott g2)
      have : xs ≠ ys := fun e => by
        apply hne
        have h1 : xs[pre.length]? = some c := mid_get hx
        rw [e, List.getElem?_eq_getElem hlt] at h1
        exact (Option.some.inj h1).symm
      simp [this]
    · have heq := of_decide_eq_true (notf g2)
      rw [List.length_append, List.length_singleton, ← List.take_append_getElem hlt, ← heq, ← hp]
  · rintro K u w1 ⟨he, hp⟩ _
    refine br_df (by omega) ⟨?_, he⟩
    have : xs = ys := by rw [hp, hlen, List.take_length]
    simp [this]

def markL (k : Int) : Nat → List Lz
  | 0 => []
  | n + 1 => (mtx k, k + 1, k + 2) :: markL (k + 3) n

theorem markL_len : ∀ (n : Nat) (k : Int), (markL k n).length = n
  | 0, _ => rfl
  | n + 1, k => by simp [markL, markL_len n]

theorem markL_snoc : ∀ (n : Nat) (k : Int), markL k (n + 1) = markL k n ++ [(mtx (k + 3 * n), k + 3 * n + 1, k + 3 * n + 2)]
  | 0, k => by simp [markL]
  | n + 1, k => by
    rw [markL, markL_snoc n (k + 3), markL]
    simp only [List.cons_append]
    have : k + 3 + 3 * (n : Int) = k + 3 * ((n + 1 : Nat) : Int) := by omega
    rw [this]

theorem markL_get {n i : Nat} (h : i < n) (k : Int) : (markL k n)[i]? = some (mtx (k + 3 * i), k + 3 * i + 1, k + 3 * i + 2) := by
  induction n generalizing i k with
  | zero => omega
  | succ n ih =>
    cases i with
    | zero => simp [markL]
    | succ i =>
      rw [markL, List.getElem?_cons_succ, ih (by omega)]
      have : k + 3 + 3 * (i : Int) = k + 3 * ((i + 1 : Nat) : Int) := by omega
      rw [this]

theorem c_laws_markLeaseS {w : World} {l : Sl} {xs : List Lz} {base : Nat} (k : Int) (o : Own base 40 3 w l (xs.flatMap cL)) (h1 : 0 ≤ k) (h2 : k ≤ 1000) (hl : xs.length ≤ 1048576) (hb : base ≤ w.heap.size) :
    CallR Try.prog 28 [.slice l.a l.len l.cap, .int .i64 k] w (fun v w' => v = .int .i64 (k + 3 * xs.length) ∧ Own base 40 3 w' l ((markL k xs.length).flatMap cL) ∧ w.grownBy w' l.v.ownBlock) := by
  refine fn_laws_markLeaseS _ _ _ _ ?_
  unfold g_laws_markLeaseS
  have hll := o.len cL_len (by decide)
  have g0 : w.grownBy w l.v.ownBlock := ⟨rfl, rfl, rfl, Nat.le_refl _, fun _ _ _ => rfl⟩
  refine sLoop_list xs (fun pre t w' => t.1 = k + 3 * pre.length ∧ Own base 40 3 w' l ((markL k pre.length ++ xs.drop pre.length).flatMap cL) ∧ w.grownBy w' l.v.ownBlock) ⟨by simp, by simpa [markL] using o, g0⟩ ?_ ?_
  · rintro K pre post c ⟨t, u⟩ w1 hx ⟨ht, ho, hg⟩ hK _
    have hm := mid_len hx
    simp only at ht
    subst ht
    simp only
    refine br_dt (by omega) ((c_laws_markText _ _ (by omega)).go fun w2 e2 => ⟨_, rfl, ?_⟩)
    have hd : xs.drop pre.length = c :: post := by rw [hx]; simp
    rw [hd] at ho
    have hml := markL_len pre.length k
    obtain ⟨a, ha, hil, hput⟩ := Own.put3 (y := (mtx (k + 3 * pre.length), k + 3 * pre.length + 1, k + 3 * pre.length + 2)) cL_len (ho.ext e2) rfl (K := fun w' => K ((pre.length : Int) + 1, k + 3 * pre.length + 3, ()) w') (fun w3 o3 g3 => by
      refine hK _ _ ⟨by simp; omega, ?_, ?_⟩
      · have hd' : xs.drop (pre ++ [c]).length = post := by rw [hx]; simp
        rw [hd', List.length_append, List.length_singleton, markL_snoc]
        simpa using o3
      · exact ⟨g3.os.trans (e2.os.trans hg.os), g3.tape.trans (e2.tape.trans hg.tape), g3.output.trans (e2.output.trans hg.output), Nat.le_trans hg.size (Nat.le_trans e2.size g3.size), fun i hi hn =>
          (g3.block i (Nat.lt_of_lt_of_le hi (Nat.le_trans hg.size e2.size)) hn).trans ((e2.block i (Nat.lt_of_lt_of_le hi hg.size)).trans (hg.block i hi hn))⟩)
    rw [hml] at hput hil
    obtain ⟨p1, q1⟩ := hput
    simp only [add_nought]
    refine onSome_i ha ⟨⟨by omega, by omega⟩, p1, ?_⟩
    unfold letW at q1 ⊢
    obtain ⟨p2, p3, q3⟩ := q1
    refine ⟨inR_i64 (by omega) (by omega), onSome_i ha ⟨⟨by omega, by omega⟩, p2, inR_i64 (by omega) (by omega), onSome_i ha ⟨⟨by omega, by omega⟩, ?_⟩⟩⟩
    rw [show (k + 3 * (pre.length : Int) + 1 + 1) = k + 3 * (pre.length : Int) + 2 by omega]
    refine ⟨p3, inR_i64 (by omega) (by omega), inR_i64 (by omega) (by omega), ?_⟩
    rw [show (k + 3 * (pre.length : Int) + 2 + 1) = k + 3 * (pre.length : Int) + 3 by omega]
    exact q3
  · rintro K ⟨t, u⟩ w1 ⟨ht, ho, hg⟩ _
    simp only at ht
    refine br_df (by omega) ⟨by rw [ht], by simpa using ho, hg⟩

theorem c_laws_heldLeaseS {w : World} {l : Sl} {n : Nat} (k : Int) (h : Leases w l (markL k n)) (h1 : 0 ≤ k) (h2 : k ≤ 1000) (hl : n ≤ 1048576) :
    CallR Try.prog 29 [.slice l.a l.len l.cap, .int .i64 k] w (fun v w' => v = .int .i64 (k + 3 * n) ∧ Ext w w') := by
  refine fn_laws_heldLeaseS _ _ _ _ ?_
  unfold g_laws_heldLeaseS
  have hll := h.len
  rw [markL_len] at hll
  refine sLoop_up n (fun i t w' => t.1 = k + 3 * i ∧ Ext w w') ⟨by simp, Ext.refl _⟩ ?_ ?_
  · rintro K i ⟨t, u⟩ w1 hi ⟨ht, he⟩ hK _
    simp only at ht
    subst ht
    simp only
    refine br_dt (by omega) ⟨fun w' => Ext w1 w', fun _ h => h, fun w2 e2 => ?_⟩
    have hg := markL_get hi k
    obtain ⟨a, ha, c0, c1, c2⟩ := lz_at (h.ext he) hg
    refine onSome_i ha ⟨⟨by omega, by omega⟩, e2, _, fun w3 e3 => Ext.get e3 c0, e2, (c_laws_markText _ _ (by omega)).go fun w4 e4 => ⟨_, rfl, Ext.trans e2 e4, ?_⟩⟩
    have e14 : Ext w1 w4 := Ext.trans e2 e4
    have hs : seqB (mtx (k + 3 * (i : Int))) (mtx (k + 3 * (i : Int))) = true := seqB_iff.2 rfl
    refine br_f (by simp only [hs]; rfl) ⟨inR_i64 (by omega) (by omega), onSome_i ha ⟨⟨by omega, by omega⟩, _, e14.get c1, br_f (by simp) ⟨inR_i64 (by omega) (by omega), onSome_i ha ⟨⟨by omega, by omega⟩, _, e14.get c2, br_f (by simp; omega) ⟨inR_i64 (by omega) (by omega), inR_i64 (by omega) (by omega), hK _ _ ⟨by simp; omega, he.trans e14⟩⟩⟩⟩⟩⟩
  · rintro K ⟨t, u⟩ w1 ⟨ht, he⟩ _
    simp only at ht
    exact br_df (by omega) ⟨by rw [ht], he⟩
end Go.Proofs

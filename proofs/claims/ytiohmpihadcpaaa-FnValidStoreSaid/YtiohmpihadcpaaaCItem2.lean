/-
  What functions of this seat compute, part 'Item2': contracts over their readable predicates. Conditions: each theorem's own hypotheses.
-/
import Derived.Test.YtiohmpihadcpaaaBase
import Derived.Test.YtiohmpihadcpaaaOpen
import Derived.Test.YtiohmpihadcpaaaGen
import Derived.Test.YtiohmpihadcpaaaCSmall
import Derived.Test.YtiohmpihadcpaaaCOrder
import Derived.Test.YtiohmpihadcpaaaCNode
import Derived.Test.YtiohmpihadcpaaaCNodeText
import Derived.Test.YtiohmpihadcpaaaCNodeValid
import Derived.Test.YtiohmpihadcpaaaCNodeSpec
import Derived.Test.YtiohmpihadcpaaaCHelpS
import Derived.Test.YtiohmpihadcpaaaCNodeHelp
import Derived.Test.YtiohmpihadcpaaaCNodeHelp2
import Derived.Test.YtiohmpihadcpaaaCNodeTop
import Derived.Test.YtiohmpihadcpaaaCCells
import Derived.Test.YtiohmpihadcpaaaCItem
namespace Go.Proofs
open Go Go.Vc Go.RowKit
set_option maxRecDepth 100000
set_option linter.unusedVariables false
--! C:Small C:Order C:Node C:NodeText C:NodeValid C:NodeSpec C:HelpS C:NodeHelp C:NodeHelp2 C:NodeTop C:Cells C:Item
/-! ## Documents copied -/

set_option maxHeartbeats 1000000 in
theorem c_laws_toItem {S : Nat → Prop} {w : World} {c : NdC} {x : It} (h : NdAt S w c x.2.2) (hz : mz x.2.2 ≤ 1048576) :
    CallR Try.prog 42 [ivE x.1 x.2.1 c] w (fun v w' => ∃ d : NdC, v = ivE x.1 x.2.1 d ∧ NdAt (fun k => w.heap.size ≤ k) w' d x.2.2 ∧ Ext w w') := by
  refine fn_laws_toItem _ _ _ _ _ _ _ _ _ ?_
  unfold g_laws_toItem
  refine itBox fun w1 e1 r1 => letW_i fun w2 hw2 => letW_i fun w3 hw3 => ?_
  have e2 : Ext w1 w2 := by rw [hw2]; exact (Ext.refl w1).alloc _
  have e3 : Ext w2 w3 := by rw [hw3]; exact (Ext.refl w2).alloc _
  have rb2 : Row w2 w1.heap.size (cIt zeroIt) 52 := by rw [hw2]; exact Row.new w1 (cIt zeroIt) _
  have rc : Row w3 w2.heap.size (cIt zeroIt) 52 := by rw [hw3]; exact Row.new w2 (cIt zeroIt) _
  have s1 := r1.lt
  have s2 := rb2.lt
  have s3 := rc.lt
  clear hw2 hw3
  have e23 := e2.trans e3
  have e03 := e1.trans e23
  have r3 := r1.ext e23
  obtain ⟨k0, k1, k2, k3, k4, k5, k6, n1, n2, n3, n4⟩ := Row.it r3
  simp only [add_nought, exS k0]
  obtain ⟨p0, q0⟩ := Row.setMid (A := []) (p := (⟨w2.heap.size, 0, none⟩ : Addr)) rc rfl (.string x.1)
  refine ⟨p0, letW_i fun w4 h4 => ?_⟩
  rw [← h4] at q0
  have c4 : Chg w2.heap.size w3 w4 := by rw [h4]; exact (Chg.refl _ _).set rfl _
  have r4 := r3.chg c4 (by omega)
  obtain ⟨k0, k1, k2, k3, k4, k5, k6, n1, n2, n3, n4⟩ := Row.it r4
  simp only [exI k1]
  obtain ⟨p1, q1⟩ := Row.setMid (A := [.string x.1]) (p := (⟨w2.heap.size, 0, none⟩ : Addr).add 1) q0 rfl (.int .i64 x.2.1)
  refine ⟨p1, letW_i fun w5 h5 => ?_⟩
  rw [← h5] at q1
  have c5 : Chg w2.heap.size w3 w5 := by rw [h5]; exact c4.set (by rw [add_block]) _
  have r5 := r3.chg c5 (by omega)
  obtain ⟨k0, k1, k2, k3, k4, k5, k6, n1, n2, n3, n4⟩ := Row.it r5
  simp only [exI k2, exI n1, exS n2, exL n3, exL n4]
  have e05 : Ext w w5 := e03.chg c5 (by have := e1.size; omega)
  refine (c_laws_toNode _ w5 c x.2.2 (Nat.le_refl _) hz (h.ext e05)).mono ?_
  rintro _ w6 ⟨d, rfl, hd, e6⟩
  refine ⟨_, _, _, _, _, rfl, ?_⟩
  have q1' := Row.ext q1 e6
  obtain ⟨p2, q2⟩ := Row.setMid (A := [.string x.1, .int .i64 x.2.1]) (p := (⟨w2.heap.size, 0, none⟩ : Addr).add 2) q1' rfl (.int .i64 d.k)
  refine ⟨p2, letW_i fun w7 h7 => ?_⟩
  rw [← h7] at q2
  have c7 : Chg w2.heap.size w6 w7 := by rw [h7]; exact (Chg.refl _ _).set (by rw [add_block]) _
  obtain ⟨p3, q3⟩ := Row.setMid (A := [.string x.1, .int .i64 x.2.1, .int .i64 d.k]) (p := ((⟨w2.heap.size, 0, none⟩ : Addr).add 2).add 1) q2 (by rw [add_add']; rfl) (.int .i64 d.m)
  refine ⟨p3, letW_i fun w8 h8 => ?_⟩
  rw [← h8] at q3
  have c8 : Chg w2.heap.size w6 w8 := by rw [h8]; exact c7.set (by simp only [add_block]) _
  obtain ⟨p4, q4⟩ := Row.setMid (A := [.string x.1, .int .i64 x.2.1, .int .i64 d.k, .int .i64 d.m]) (p := ((⟨w2.heap.size, 0, none⟩ : Addr).add 2).add 2) q3 (by rw [add_add']; rfl) (.string d.t)
  refine ⟨p4, letW_i fun w9 h9 => ?_⟩
  rw [← h9] at q4
  have c9 : Chg w2.heap.size w6 w9 := by rw [h9]; exact c8.set (by simp only [add_block]) _
  obtain ⟨p5, q5⟩ := Row.setMid (A := [.string x.1, .int .i64 x.2.1, .int .i64 d.k, .int .i64 d.m, .string d.t]) (p := ((⟨w2.heap.size, 0, none⟩ : Addr).add 2).add 3) q4 (by rw [add_add']; rfl) (.slice d.sn.a d.sn.len d.sn.cap)
  refine ⟨p5, letW_i fun w10 h10 => ?_⟩
  rw [← h10] at q5
  have c10 : Chg w2.heap.size w6 w10 := by rw [h10]; exact c9.set (by simp only [add_block]) _
  obtain ⟨p6, q6⟩ := Row.setMid (A := [.string x.1, .int .i64 x.2.1, .int .i64 d.k, .int .i64 d.m, .string d.t, .slice d.sn.a d.sn.len d.sn.cap]) (p := ((⟨w2.heap.size, 0, none⟩ : Addr).add 2).add 4) q5 (by rw [add_add']; rfl) (.slice d.sk.a d.sk.len d.sk.cap)
  refine ⟨p6, letW_i fun w11 h11 => ?_⟩
  rw [← h11] at q6
  have c11 : Chg w2.heap.size w6 w11 := by rw [h11]; exact c10.set (by simp only [add_block]) _
  clear h4 h5 h7 h8 h9 h10 h11
  have q6' : Row w11 w2.heap.size (cIt (x.1, x.2.1, d)) 52 := q6
  obtain ⟨m0, m1, m2, m3, m4, m5, m6, _, _, _, _⟩ := Row.it q6'
  simp only [exS m0, exI m1, exI m2, exI m3, exS m4, exL m5, exL m6]
  have rb3 := ((rb2.ext e3).chg c5 (by omega)).ext e6
  have rb11 : Row w11 w1.heap.size (cIt zeroIt) 52 := rb3.chg c11 (by omega)
  refine row_set7c rb11 fun w12 r12 c12 => ?_
  have r12' : Row w12 w1.heap.size (cIt (x.1, x.2.1, d)) 52 := r12
  obtain ⟨o0, o1, o2, o3, o4, o5, o6, _, _, _, _⟩ := Row.it r12'
  simp only [exS o0, exI o1, exI o2, exI o3, exS o4, exL o5, exL o6]
  have z1 := e1.size
  have z5 := e05.size
  have z35 := c5.size
  refine ⟨d, by simp, ?_, ?_⟩
  · refine ((hd.mono (S' := fun k => w5.heap.size ≤ k) (fun k hk _ => hk)).chg c11 (by omega)).chg c12 (by omega) |>.mono fun k hk _ => ?_
    omega
  · exact ((e05.trans e6).chg c11 (by omega)).chg c12 (by omega)

set_option maxHeartbeats 1000000 in
theorem c_laws_toItemS {S : Nat → Prop} {w : World} {l : Sl} {xs : List It} (h : ItsAt S w l xs) (hz : xs.length + mzIs xs ≤ 1048576) {K : Value → World → Prop}
    (hk : ∀ (t : Sl) w', ItsAt (fun k => w.heap.size ≤ k) w' t xs → t.a = some ⟨w.heap.size, 0, none⟩ → Ext w w' → K (.slice t.a t.len t.cap) w') : CallR Try.prog 22 [.slice l.a l.len l.cap] w K := by
  refine fn_laws_toItemS _ _ _ ?_
  unfold g_laws_toItemS
  have hsl := h.slen
  refine ⟨⟨by omega, by omega, by omega, by omega⟩, letW_i fun w1 hw1 => ?_⟩
  have e1 : Ext w w1 := by rw [hw1]; exact (Ext.refl w).alloc _
  have r1 : Row w1 w.heap.size ((List.replicate xs.length zeroIt).flatMap cIt) 52 := by
    have hm := madeCells_agg (cIt zeroIt) (by simp [cIt]) xs.length
    have hf : (List.replicate xs.length (cIt zeroIt)).flatten = (List.replicate xs.length zeroIt).flatMap cIt := by simp [List.flatMap_replicate]
    rw [hw1, hsl.1, Int.toNat_natCast]
    rw [hf] at hm
    have hm' : madeCells #[.string (⟨#[]⟩ : ByteArray), .int .i64 0, .int .i64 0, .int .i64 0, .string (⟨#[]⟩ : ByteArray), .slice none 0 0, .slice none 0 0] (xs.length * 7) = ((List.replicate xs.length zeroIt).flatMap cIt).toArray := hm
    rw [hm']
    exact Row.new w _ _
  have hs1 : w.heap.size < w1.heap.size := by rw [hw1]; simp
  clear hw1
  refine sLoop_list xs (fun pre _ w' => ∃ ds : List ItC, ds.length = pre.length ∧ Ext w w' ∧ w.heap.size < w'.heap.size ∧ Row w' w.heap.size ((ds ++ List.replicate (xs.length - ds.length) zeroIt).flatMap cIt) 52 ∧
    (∀ (i : Nat) d x, ds[i]? = some d → pre[i]? = some x → NdAt (fun k => w.heap.size < k) w' d.2.2 x.2.2 ∧ d.1 = x.1 ∧ d.2.1 = x.2.1)) ⟨[], rfl, e1, hs1, by simpa using r1, fun i d x hd => by simp at hd⟩ ?_ ?_
  · rintro K pre post x t w3 hx ⟨ds, hdl, he, hs, hr, hds⟩ hK _
    have hl := mid_len hx
    obtain ⟨c, a, ha, hn, g0, g1, g2, g3, g4, g5, g6⟩ := (h.ext he).at_ (mid_get hx)
    have hxz := mzI_le (xs := xs) (x := x) (by rw [hx]; simp)
    unfold mzI at hxz
    refine br_dt (by first | omega | (simp only; omega)) (onSome_i ha ⟨⟨by first | omega | (simp only; omega), by first | omega | (simp only; omega)⟩, ?_⟩)
    simp only [add_nought, exS g0, exI g1, exI g2, exI g3, exS g4, exL g5, exL g6]
    refine (c_laws_toItem hn (by omega)).mono ?_
    rintro _ w4 ⟨d, rfl, hd4, e4⟩
    refine ⟨_, _, _, _, _, _, _, rfl, ⟨by omega, by omega⟩, ?_⟩
    have hr4 := hr.ext e4
    rw [show xs.length - ds.length = (xs.length - (ds ++ [(x.1, x.2.1, d)]).length) + 1 by simp; omega, List.replicate_succ] at hr4
    have hr5 : Row w4 w.heap.size (ds.flatMap cIt ++ .string ⟨#[]⟩ :: .int .i64 0 :: .int .i64 0 :: .int .i64 0 :: .string ⟨#[]⟩ :: .slice none 0 0 :: .slice none 0 0 :: (List.replicate (xs.length - (ds ++ [(x.1, x.2.1, d)]).length) zeroIt).flatMap cIt) 52 := by
      simpa [cIt, cN, zeroIt, zeroN] using hr4
    rw [← hdl]
    refine row_put7c hr5 (by rw [flatMap_len cIt_len]) fun w5 r5 c5 => ⟨inR_i64 (by omega) (by omega), ?_⟩
    rw [hdl]
    refine hK _ _ ⟨ds ++ [(x.1, x.2.1, d)], by simp [hdl], (he.trans e4).chg c5 (Nat.le_refl _), ?_, by simpa [cIt, cN] using r5, ?_⟩
    · have := c5.size; have := e4.size; omega
    · intro i d1 x1 hi1 hi2
      by_cases hlt : i < ds.length
      · rw [List.getElem?_append_left hlt] at hi1
        rw [List.getElem?_append_left (by omega)] at hi2
        exact ⟨((hds i d1 x1 hi1 hi2).1.ext e4).chg c5 (Nat.lt_irrefl _), (hds i d1 x1 hi1 hi2).2⟩
      · have hi : i = ds.length := by
          have := (List.getElem?_eq_some_iff.1 hi1).1
          simp at this; omega
        subst hi
        rw [List.getElem?_append_right (Nat.le_refl _)] at hi1
        rw [hdl, List.getElem?_append_right (Nat.le_refl _)] at hi2
        simp at hi1 hi2
        subst hi1 hi2
        exact ⟨(hd4.mono (S' := fun k => w.heap.size < k) fun k hk _ => Nat.lt_of_lt_of_le hs hk).chg c5 (Nat.lt_irrefl _), rfl, rfl⟩
  · rintro K t w3 ⟨ds, hdl, he, hs, hr, hds⟩ _
    have h0 : xs.length - ds.length = 0 := by omega
    rw [h0] at hr
    simp only [List.replicate_zero, List.append_nil] at hr
    refine br_df (by first | omega | (simp only; omega)) (hk ⟨some ⟨w.heap.size, 0, none⟩, (l.len : Int).toNat, (l.len : Int).toNat⟩ w3 ⟨⟨ds, ?_, hdl, fun i d x hd hx => ⟨(hds i d x hd hx).1.mono fun k hk _ => Nat.le_of_lt hk, (hds i d x hd hx).2⟩⟩, h.len, h.sz⟩ rfl he)
    have := hr.slOf (cap := xs.length) (by omega)
    rw [hdl] at this
    rw [hsl.1, Int.toNat_natCast]; exact this

theorem ItsAt.keep {S : Nat → Prop} {w w' : World} {l : Sl} {xs : List It} (h : ItsAt S w l xs) (hk : ∀ k, S k → k < w.heap.size → w'.heap[k]? = w.heap[k]?) (hl : xs ≠ [] → ∀ a, l.a = some a → a.block < w.heap.size → w'.heap[a.block]? = w.heap[a.block]?) : ItsAt S w' l xs := by
  obtain ⟨⟨cs, h1, h2, h3⟩, h4, h5⟩ := h
  exact ⟨⟨cs, slKeep h1 cIt_len (by decide) fun hne => hl fun e => hne (List.eq_nil_of_length_eq_zero (by rw [h2, e]; rfl)), h2, fun i d x hd hx => ⟨(h3 i d x hd hx).1.keep hk, (h3 i d x hd hx).2⟩⟩, h4, h5⟩

theorem c_laws_toStore {S : Nat → Prop} {w : World} {l : Sl} {c : Int} {xs : List It} (h : ItsAt S w l xs) (hz : xs.length + mzIs xs ≤ 1048576) {K : Value → World → Prop}
    (hk : ∀ (t : Sl) w', ItsAt (fun _ => True) w' t xs → Ext w w' → K (svE t c) w') : CallR Try.prog 9 [svE l c] w K := by
  refine fn_laws_toStore _ _ _ _ ?_
  unfold g_laws_toStore
  refine stBox fun w1 e1 r1 => letW_i fun w2 hw2 => letW_i fun w3 hw3 => ?_
  have e2 : Ext w1 w2 := by rw [hw2]; exact (Ext.refl w1).alloc _
  have e3 : Ext w2 w3 := by rw [hw3]; exact (Ext.refl w2).alloc _
  have rb2 : Row w2 w1.heap.size [.slice none 0 0, .int .i64 0] 29 := by rw [hw2]; exact Row.new w1 [.slice none 0 0, .int .i64 0] _
  have rc : Row w3 w2.heap.size [.slice none 0 0, .int .i64 0] 29 := by rw [hw3]; exact Row.new w2 [.slice none 0 0, .int .i64 0] _
  have s1 := r1.lt
  have s2 := rb2.lt
  have s3 := rc.lt
  clear hw2 hw3
  have e23 := e2.trans e3
  have e03 := e1.trans e23
  have r3 := r1.ext e23
  obtain ⟨k0, k1⟩ := Row.st r3
  simp only [add_nought, exL k0]
  refine c_laws_toItemS (h.ext e03) hz fun t w4 h4 ht4 e4 => ⟨t, rfl, ?_⟩
  obtain ⟨p0, q0⟩ := Row.setMid (A := []) (p := (⟨w2.heap.size, 0, none⟩ : Addr)) (rc.ext e4) rfl (.slice t.a t.len t.cap)
  refine ⟨p0, letW_i fun w5 h5 => ?_⟩
  rw [← h5] at q0
  have c5 : Chg w2.heap.size w4 w5 := by rw [h5]; exact (Chg.refl _ _).set rfl _
  obtain ⟨_, k1⟩ := Row.st ((r3.ext e4).chg c5 (by omega))
  simp only [exI k1]
  obtain ⟨p1, q1⟩ := Row.setMid (A := [.slice t.a t.len t.cap]) (p := (⟨w2.heap.size, 0, none⟩ : Addr).add 1) q0 rfl (.int .i64 c)
  refine ⟨p1, letW_i fun w6 h6 => ?_⟩
  rw [← h6] at q1
  have c6 : Chg w2.heap.size w4 w6 := by rw [h6]; exact c5.set (by rw [add_block]) _
  clear h5 h6
  have q1' : Row w6 w2.heap.size (cSt t c) 29 := q1
  obtain ⟨m0, m1⟩ := Row.st q1'
  simp only [exL m0, exI m1]
  have rb6 := (((rb2.ext e3).ext e4).chg c6 (by omega))
  refine stSet rb6 fun w7 r7 c7 => ?_
  obtain ⟨o0, o1⟩ := Row.st r7
  simp only [exL o0, exI o1]
  have z1 := e1.size
  have z4 := e4.size
  refine hk t w7 ?_ (((e03.trans e4).chg c6 (by omega)).chg c7 (by omega))
  have hne : ∀ k, w3.heap.size ≤ k → k < w4.heap.size → w7.heap[k]? = w4.heap[k]? := fun k hk1 hk2 =>
    (c7.block k (by have := c6.size; omega) (by intro e; injection e; omega)).trans (c6.block k hk2 (by intro e; injection e; omega))
  have h7 : ItsAt (fun k => w3.heap.size ≤ k) w7 t xs := h4.keep (fun k hk1 hk2 => hne k hk1 hk2) (fun _ a ha hlt => by
    rw [ht4] at ha
    obtain rfl := Option.some.inj ha
    exact hne _ (Nat.le_refl _) hlt)
  obtain ⟨⟨cs, j1, j2, j3⟩, j4, j5⟩ := h7
  exact ⟨⟨cs, j1, j2, fun i d x hd hx => ⟨(j3 i d x hd hx).1.mono fun _ _ _ => trivial, (j3 i d x hd hx).2⟩⟩, j4, j5⟩
end Go.Proofs

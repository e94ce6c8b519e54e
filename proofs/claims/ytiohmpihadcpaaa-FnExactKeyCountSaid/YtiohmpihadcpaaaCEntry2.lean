/-
  What functions of this seat compute, part 'Entry2': contracts over their readable predicates. Conditions: each theorem's own hypotheses.
-/
import Derived.Test.YtiohmpihadcpaaaBase
import Derived.Test.YtiohmpihadcpaaaOpen
import Derived.Test.YtiohmpihadcpaaaGen
import Derived.Test.YtiohmpihadcpaaaCSmall
import Derived.Test.YtiohmpihadcpaaaCOrder
import Derived.Test.YtiohmpihadcpaaaCNode
import Derived.Test.YtiohmpihadcpaaaCNodeText
import Derived.Test.YtiohmpihadcpaaaCNodeValid
import Derived.Test.YtiohmpihadcpaaaCNodeSpec
import Derived.Test.YtiohmpihadcpaaaCHelpS
import Derived.Test.YtiohmpihadcpaaaCNodeHelp
import Derived.Test.YtiohmpihadcpaaaCNodeHelp2
import Derived.Test.YtiohmpihadcpaaaCNodeTop
import Derived.Test.YtiohmpihadcpaaaCNodeCmp
import Derived.Test.YtiohmpihadcpaaaCCells
import Derived.Test.YtiohmpihadcpaaaCEntry
namespace Go.Proofs
open Go Go.Vc Go.RowKit
set_option maxRecDepth 100000
set_option linter.unusedVariables false
--! C:Small C:Order C:Node C:NodeText C:NodeValid C:NodeSpec C:HelpS C:NodeHelp C:NodeHelp2 C:NodeTop C:NodeCmp C:Cells C:Entry
/-! ## Entries copied; keys counted -/

def zeroE : NdC × ByteArray := (zeroN, ⟨#[]⟩)

set_option maxHeartbeats 1000000 in
theorem c_laws_toEntry {S : Nat → Prop} {w : World} {c : NdC} {x : En} (h : NdAt S w c x.1) (hz : mz x.1 ≤ 1048576) :
    CallR Try.prog 32 [evE c x.2] w (fun v w' => ∃ d : NdC, v = evE d x.2 ∧ NdAt (fun k => w.heap.size ≤ k) w' d x.1 ∧ Ext w w') := by
  refine fn_laws_toEntry _ _ _ _ _ _ _ _ ?_
  unfold g_laws_toEntry
  refine enBox fun w1 e1 r1 => letW_i fun w2 hw2 => letW_i fun w3 hw3 => ?_
  have e2 : Ext w1 w2 := by rw [hw2]; exact (Ext.refl w1).alloc _
  have e3 : Ext w2 w3 := by rw [hw3]; exact (Ext.refl w2).alloc _
  have rb2 : Row w2 w1.heap.size (cE zeroE) 68 := by rw [hw2]; exact Row.new w1 (cE zeroE) _
  have rc : Row w3 w2.heap.size (cE zeroE) 68 := by rw [hw3]; exact Row.new w2 (cE zeroE) _
  have s1 := r1.lt
  have s2 := rb2.lt
  have s3 := rc.lt
  clear hw2 hw3
  have e23 := e2.trans e3
  have e03 := e1.trans e23
  obtain ⟨k0, k1, k2, k3, k4, k5⟩ := Row.en (r1.ext e23)
  simp only [add_nought, exI k0, exI k1, exS k2, exL k3, exL k4]
  refine (c_laws_toNode _ w3 c x.1 (Nat.le_refl _) hz (h.ext e03)).mono ?_
  rintro _ w4 ⟨d, rfl, hd, e4⟩
  refine ⟨_, _, _, _, _, rfl, ?_⟩
  have rc4 := rc.ext e4
  have rb4 := (rb2.ext e3).ext e4
  -- the key
  obtain ⟨p0, q0⟩ := Row.setMid (A := []) (p := (⟨w2.heap.size, 0, none⟩ : Addr)) rc4 rfl (.int .i64 d.k)
  refine ⟨p0, letW_i fun w5 h5 => ?_⟩
  rw [← h5] at q0
  have c5 : Chg w2.heap.size w4 w5 := by rw [h5]; exact (Chg.refl _ _).set rfl _
  obtain ⟨p1, q1⟩ := Row.setMid (A := [.int .i64 d.k]) (p := (⟨w2.heap.size, 0, none⟩ : Addr).add 1) q0 rfl (.int .i64 d.m)
  refine ⟨p1, letW_i fun w6 h6 => ?_⟩
  rw [← h6] at q1
  have c6 : Chg w2.heap.size w4 w6 := by rw [h6]; exact c5.set (by rw [add_block]) _
  obtain ⟨p2, q2⟩ := Row.setMid (A := [.int .i64 d.k, .int .i64 d.m]) (p := (⟨w2.heap.size, 0, none⟩ : Addr).add 2) q1 rfl (.string d.t)
  refine ⟨p2, letW_i fun w7 h7 => ?_⟩
  rw [← h7] at q2
  have c7 : Chg w2.heap.size w4 w7 := by rw [h7]; exact c6.set (by rw [add_block]) _
  obtain ⟨p3, q3⟩ := Row.setMid (A := [.int .i64 d.k, .int .i64 d.m, .string d.t]) (p := (⟨w2.heap.size, 0, none⟩ : Addr).add 3) q2 rfl (.slice d.sn.a d.sn.len d.sn.cap)
  refine ⟨p3, letW_i fun w8 h8 => ?_⟩
  rw [← h8] at q3
  have c8 : Chg w2.heap.size w4 w8 := by rw [h8]; exact c7.set (by rw [add_block]) _
  obtain ⟨p4, q4⟩ := Row.setMid (A := [.int .i64 d.k, .int .i64 d.m, .string d.t, .slice d.sn.a d.sn.len d.sn.cap]) (p := (⟨w2.heap.size, 0, none⟩ : Addr).add 4) q3 rfl (.slice d.sk.a d.sk.len d.sk.cap)
  refine ⟨p4, letW_i fun w9 h9 => ?_⟩
  rw [← h9] at q4
  have c9 : Chg w2.heap.size w4 w9 := by rw [h9]; exact c8.set (by rw [add_block]) _
  have r9 : Row w9 w.heap.size (cE (c, x.2)) 64 := ((r1.ext e23).ext e4).chg c9 (by omega)
  obtain ⟨_, _, _, _, _, k5'⟩ := Row.en r9
  simp only [exS k5']
  obtain ⟨p5, q5⟩ := Row.setMid (A := [.int .i64 d.k, .int .i64 d.m, .string d.t, .slice d.sn.a d.sn.len d.sn.cap, .slice d.sk.a d.sk.len d.sk.cap]) (p := (⟨w2.heap.size, 0, none⟩ : Addr).add 5) q4 rfl (.string x.2)
  refine ⟨p5, letW_i fun w10 h10 => ?_⟩
  rw [← h10] at q5
  have c10 : Chg w2.heap.size w4 w10 := by rw [h10]; exact c9.set (by rw [add_block]) _
  clear h5 h6 h7 h8 h9 h10
  have q5' : Row w10 w2.heap.size (cE (d, x.2)) 68 := q5
  obtain ⟨m0, m1, m2, m3, m4, m5⟩ := Row.en q5'
  simp only [exI m0, exI m1, exS m2, exL m3, exL m4, exS m5]
  have rb10 : Row w10 w1.heap.size (cE zeroE) 68 := rb4.chg c10 (by omega)
  refine row_set6c rb10 fun w11 r11 c11 => ?_
  have r11' : Row w11 w1.heap.size (cE (d, x.2)) 68 := r11
  obtain ⟨n0, n1, n2, n3, n4, n5⟩ := Row.en r11'
  simp only [exI n0, exI n1, exS n2, exL n3, exL n4, exS n5]
  refine ⟨d, by simp, ?_, ?_⟩
  · refine ((hd.mono (S' := fun k => w3.heap.size ≤ k) (fun k hk _ => hk)).chg c10 (by omega)).chg c11 (by omega) |>.mono fun k hk _ => ?_
    have := e03.size; omega
  · exact ((e03.trans e4).chg c10 (by omega)).chg c11 (by omega)

set_option maxHeartbeats 1000000 in
theorem c_laws_toEntryS {S : Nat → Prop} {w : World} {l : Sl} {xs : List En} (h : EnsAt S w l xs) (hz : xs.length + mzEs xs ≤ 1048576) {K : Value → World → Prop}
    (hk : ∀ (t : Sl) w', EnsAt (fun k => w.heap.size ≤ k) w' t xs → Ext w w' → K (.slice t.a t.len t.cap) w') : CallR Try.prog 17 [.slice l.a l.len l.cap] w K := by
  refine fn_laws_toEntryS _ _ _ ?_
  unfold g_laws_toEntryS
  have hsl := h.slen
  refine ⟨⟨by omega, by omega, by omega, by omega⟩, letW_i fun w1 hw1 => ?_⟩
  have e1 : Ext w w1 := by rw [hw1]; exact (Ext.refl w).alloc _
  have r1 : Row w1 w.heap.size ((List.replicate xs.length zeroE).flatMap cE) 68 := by
    have hm := madeCells_agg (cE zeroE) (by simp [cE]) xs.length
    have hf : (List.replicate xs.length (cE zeroE)).flatten = (List.replicate xs.length zeroE).flatMap cE := by simp [List.flatMap_replicate]
    rw [hw1, hsl.1, Int.toNat_natCast]
    rw [hf] at hm
    have hm' : madeCells #[.int .i64 0, .int .i64 0, .string (⟨#[]⟩ : ByteArray), .slice none 0 0, .slice none 0 0, .string (⟨#[]⟩ : ByteArray)] (xs.length * 6) = ((List.replicate xs.length zeroE).flatMap cE).toArray := hm
    rw [hm']
    exact Row.new w _ _
  have hs1 : w.heap.size < w1.heap.size := by rw [hw1]; simp
  clear hw1
  refine sLoop_list xs (fun pre _ w' => ∃ ds : List (NdC × ByteArray), ds.length = pre.length ∧ Ext w w' ∧ w.heap.size < w'.heap.size ∧ Row w' w.heap.size ((ds ++ List.replicate (xs.length - ds.length) zeroE).flatMap cE) 68 ∧
    (∀ (i : Nat) d x, ds[i]? = some d → pre[i]? = some x → NdAt (fun k => w.heap.size < k) w' d.1 x.1 ∧ d.2 = x.2)) ⟨[], rfl, e1, hs1, by simpa using r1, fun i d x hd => by simp at hd⟩ ?_ ?_
  · rintro K pre post x t w3 hx ⟨ds, hdl, he, hs, hr, hds⟩ hK _
    have hl := mid_len hx
    obtain ⟨c, a, ha, hn, g0, g1, g2, g3, g4, g5⟩ := (h.ext he).at_ (mid_get hx)
    have hxz := mzE_le (xs := xs) (x := x) (by rw [hx]; simp)
    unfold mzE at hxz
    refine br_dt (by first | omega | (simp only; omega)) (onSome_i ha ⟨⟨by first | omega | (simp only; omega), by first | omega | (simp only; omega)⟩, ?_⟩)
    simp only [add_nought, exI g0, exI g1, exS g2, exL g3, exL g4, exS g5]
    refine (c_laws_toEntry hn (by omega)).mono ?_
    rintro _ w4 ⟨d, rfl, hd4, e4⟩
    refine ⟨_, _, _, _, _, _, rfl, ⟨by omega, by omega⟩, ?_⟩
    have hr4 := hr.ext e4
    rw [show xs.length - ds.length = (xs.length - (ds ++ [(d, x.2)]).length) + 1 by simp; omega, List.replicate_succ] at hr4
    have hr5 : Row w4 w.heap.size (ds.flatMap cE ++ .int .i64 0 :: .int .i64 0 :: .string ⟨#[]⟩ :: .slice none 0 0 :: .slice none 0 0 :: .string ⟨#[]⟩ :: (List.replicate (xs.length - (ds ++ [(d, x.2)]).length) zeroE).flatMap cE) 68 := by
      simpa [cE, cN, zeroE, zeroN] using hr4
    rw [← hdl]
    refine row_put6c hr5 (by rw [flatMap_len cE_len]) fun w5 r5 c5 => ⟨inR_i64 (by omega) (by omega), ?_⟩
    rw [hdl]
    refine hK _ _ ⟨ds ++ [(d, x.2)], by simp [hdl], (he.trans e4).chg c5 (Nat.le_refl _), ?_, by simpa [cE, cN] using r5, ?_⟩
    · have := c5.size; have := e4.size; omega
    · intro i d1 x1 hi1 hi2
      by_cases hlt : i < ds.length
      · rw [List.getElem?_append_left hlt] at hi1
        rw [List.getElem?_append_left (by omega)] at hi2
        exact ⟨((hds i d1 x1 hi1 hi2).1.ext e4).chg c5 (Nat.lt_irrefl _), (hds i d1 x1 hi1 hi2).2⟩
      · have hi : i = ds.length := by
          have := (List.getElem?_eq_some_iff.1 hi1).1
          simp at this; omega
        subst hi
        rw [List.getElem?_append_right (Nat.le_refl _)] at hi1
        rw [hdl, List.getElem?_append_right (Nat.le_refl _)] at hi2
        simp at hi1 hi2
        subst hi1 hi2
        exact ⟨(hd4.mono (S' := fun k => w.heap.size < k) fun k hk _ => Nat.lt_of_lt_of_le hs hk).chg c5 (Nat.lt_irrefl _), rfl⟩
  · rintro K t w3 ⟨ds, hdl, he, hs, hr, hds⟩ _
    have h0 : xs.length - ds.length = 0 := by omega
    rw [h0] at hr
    simp only [List.replicate_zero, List.append_nil] at hr
    refine br_df (by first | omega | (simp only; omega)) (hk ⟨some ⟨w.heap.size, 0, none⟩, (l.len : Int).toNat, (l.len : Int).toNat⟩ w3 ⟨⟨ds, ?_, hdl, fun i d x hd hx => ⟨(hds i d x hd hx).1.mono fun k hk _ => Nat.le_of_lt hk, (hds i d x hd hx).2⟩⟩, h.len, h.sz⟩ he)
    have := hr.slOf (cap := xs.length) (by omega)
    rw [hdl] at this
    rw [hsl.1, Int.toNat_natCast]; exact this
end Go.Proofs

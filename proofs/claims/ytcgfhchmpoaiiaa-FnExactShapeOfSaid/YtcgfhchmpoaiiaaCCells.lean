/-
  What functions of this seat compute, part 'Cells': contracts over their readable predicates. Conditions: each theorem's own hypotheses.
-/
import Derived.Test.YtcgfhchmpoaiiaaBase
import Derived.Test.YtcgfhchmpoaiiaaOpen
import Derived.Test.YtcgfhchmpoaiiaaGen
namespace Go.Proofs
open Go Go.Vc Go.RowKit
set_option maxRecDepth 100000
set_option linter.unusedVariables false
--!
/-! ## Rows of n cells (printed by cellgen.py) -/

theorem row_set4c {w : World} {b : Nat} {z0 z1 z2 z3 v0 v1 v2 v3 : Value} {e : TypeId} {K : World → Prop} (r : Row w b [z0, z1, z2, z3] e) (hk : ∀ w', Row w' b [v0, v1, v2, v3] e → Chg b w w' → K w') :
    Wr w (⟨b, 0, none⟩ : Addr) ∧ letW (w.setCell (⟨b, 0, none⟩ : Addr) v0) (fun q0 => Wr q0 ((⟨b, 0, none⟩ : Addr).add 1) ∧ letW (q0.setCell ((⟨b, 0, none⟩ : Addr).add 1) v1) (fun q1 => Wr q1 ((⟨b, 0, none⟩ : Addr).add 2) ∧ letW (q1.setCell ((⟨b, 0, none⟩ : Addr).add 2) v2) (fun q2 => Wr q2 ((⟨b, 0, none⟩ : Addr).add 3) ∧ letW (q2.setCell ((⟨b, 0, none⟩ : Addr).add 3) v3) K))) := by
  obtain ⟨h0, r0⟩ := Row.setMid (A := []) (B := [z1, z2, z3]) (p := ⟨b, 0, none⟩) r rfl v0
  obtain ⟨h1, r1⟩ := Row.setMid (A := [v0]) (B := [z2, z3]) (p := (⟨b, 0, none⟩ : Addr).add 1) r0 rfl v1
  obtain ⟨h2, r2⟩ := Row.setMid (A := [v0, v1]) (B := [z3]) (p := (⟨b, 0, none⟩ : Addr).add 2) r1 rfl v2
  obtain ⟨h3, r3⟩ := Row.setMid (A := [v0, v1, v2]) (B := []) (p := (⟨b, 0, none⟩ : Addr).add 3) r2 rfl v3
  exact ⟨h0, h1, h2, h3, hk _ r3 (((((Chg.refl b w).set rfl _).set (by simp only [add_block]) _).set (by simp only [add_block]) _).set (by simp only [add_block]) _)⟩

theorem local4c {w : World} {z0 z1 z2 z3 v0 v1 v2 v3 : Value} {e : TypeId} {K : World → Prop} (hk : ∀ w', Row w' w.heap.size [v0, v1, v2, v3] e → Ext w w' → K w') :
    letW (w.alloc (.cells #[z0, z1, z2, z3] e)) (fun q => Wr q (⟨w.heap.size, 0, none⟩ : Addr) ∧ letW (q.setCell (⟨w.heap.size, 0, none⟩ : Addr) v0) (fun q0 => Wr q0 ((⟨w.heap.size, 0, none⟩ : Addr).add 1) ∧ letW (q0.setCell ((⟨w.heap.size, 0, none⟩ : Addr).add 1) v1) (fun q1 => Wr q1 ((⟨w.heap.size, 0, none⟩ : Addr).add 2) ∧ letW (q1.setCell ((⟨w.heap.size, 0, none⟩ : Addr).add 2) v2) (fun q2 => Wr q2 ((⟨w.heap.size, 0, none⟩ : Addr).add 3) ∧ letW (q2.setCell ((⟨w.heap.size, 0, none⟩ : Addr).add 3) v3) K)))) := by
  have r0 : Row (w.alloc (.cells #[z0, z1, z2, z3] e)) w.heap.size [z0, z1, z2, z3] e := Row.new w [z0, z1, z2, z3] e
  have e0 : Ext w (w.alloc (.cells #[z0, z1, z2, z3] e)) := (Ext.refl w).alloc _
  exact row_set4c r0 fun w' r c => hk w' r (e0.chg c (Nat.le_refl _))

theorem row_put4c {w : World} {b k : Nat} {pre post : List Value} {z0 z1 z2 z3 v0 v1 v2 v3 : Value} {e : TypeId} {K : World → Prop} (r : Row w b (pre ++ z0 :: z1 :: z2 :: z3 :: post) e) (hp : pre.length = k * 4) (hk : ∀ w', Row w' b (pre ++ v0 :: v1 :: v2 :: v3 :: post) e → Chg b w w' → K w') :
    Wr w ((⟨b, 0, none⟩ : Addr).add ((k : Int).toNat * 4)) ∧ letW (w.setCell ((⟨b, 0, none⟩ : Addr).add ((k : Int).toNat * 4)) v0) (fun q0 => Wr q0 (((⟨b, 0, none⟩ : Addr).add ((k : Int).toNat * 4)).add 1) ∧ letW (q0.setCell (((⟨b, 0, none⟩ : Addr).add ((k : Int).toNat * 4)).add 1) v1) (fun q1 => Wr q1 (((⟨b, 0, none⟩ : Addr).add ((k : Int).toNat * 4)).add 2) ∧ letW (q1.setCell (((⟨b, 0, none⟩ : Addr).add ((k : Int).toNat * 4)).add 2) v2) (fun q2 => Wr q2 (((⟨b, 0, none⟩ : Addr).add ((k : Int).toNat * 4)).add 3) ∧ letW (q2.setCell (((⟨b, 0, none⟩ : Addr).add ((k : Int).toNat * 4)).add 3) v3) K))) := by
  obtain ⟨h0, r0⟩ := Row.setMid (A := pre) (B := z1 :: z2 :: z3 :: post) (o := z0) (p := ((⟨b, 0, none⟩ : Addr).add ((k : Int).toNat * 4))) (by simpa using r) (by rw [Int.toNat_natCast, hp]) v0
  obtain ⟨h1, r1⟩ := Row.setMid (A := pre ++ [v0]) (B := z2 :: z3 :: post) (o := z1) (p := ((⟨b, 0, none⟩ : Addr).add ((k : Int).toNat * 4)).add 1) (by simpa using r0) (by simp [hp, add_add']) v1
  obtain ⟨h2, r2⟩ := Row.setMid (A := pre ++ [v0, v1]) (B := z3 :: post) (o := z2) (p := ((⟨b, 0, none⟩ : Addr).add ((k : Int).toNat * 4)).add 2) (by simpa using r1) (by simp [hp, add_add']) v2
  obtain ⟨h3, r3⟩ := Row.setMid (A := pre ++ [v0, v1, v2]) (B := post) (o := z3) (p := ((⟨b, 0, none⟩ : Addr).add ((k : Int).toNat * 4)).add 3) (by simpa using r2) (by simp [hp, add_add']) v3
  exact ⟨h0, h1, h2, h3, hk _ (by simpa using r3) (((((Chg.refl b w).set (by simp only [add_block]) _).set (by simp only [add_block]) _).set (by simp only [add_block]) _).set (by simp only [add_block]) _)⟩

theorem row_set6c {w : World} {b : Nat} {z0 z1 z2 z3 z4 z5 v0 v1 v2 v3 v4 v5 : Value} {e : TypeId} {K : World → Prop} (r : Row w b [z0, z1, z2, z3, z4, z5] e) (hk : ∀ w', Row w' b [v0, v1, v2, v3, v4, v5] e → Chg b w w' → K w') :
    Wr w (⟨b, 0, none⟩ : Addr) ∧ letW (w.setCell (⟨b, 0, none⟩ : Addr) v0) (fun q0 => Wr q0 ((⟨b, 0, none⟩ : Addr).add 1) ∧ letW (q0.setCell ((⟨b, 0, none⟩ : Addr).add 1) v1) (fun q1 => Wr q1 ((⟨b, 0, none⟩ : Addr).add 2) ∧ letW (q1.setCell ((⟨b, 0, none⟩ : Addr).add 2) v2) (fun q2 => Wr q2 ((⟨b, 0, none⟩ : Addr).add 3) ∧ letW (q2.setCell ((⟨b, 0, none⟩ : Addr).add 3) v3) (fun q3 => Wr q3 ((⟨b, 0, none⟩ : Addr).add 4) ∧ letW (q3.setCell ((⟨b, 0, none⟩ : Addr).add 4) v4) (fun q4 => Wr q4 ((⟨b, 0, none⟩ : Addr).add 5) ∧ letW (q4.setCell ((⟨b, 0, none⟩ : Addr).add 5) v5) K))))) := by
  obtain ⟨h0, r0⟩ := Row.setMid (A := []) (B := [z1, z2, z3, z4, z5]) (p := ⟨b, 0, none⟩) r rfl v0
  obtain ⟨h1, r1⟩ := Row.setMid (A := [v0]) (B := [z2, z3, z4, z5]) (p := (⟨b, 0, none⟩ : Addr).add 1) r0 rfl v1
  obtain ⟨h2, r2⟩ := Row.setMid (A := [v0, v1]) (B := [z3, z4, z5]) (p := (⟨b, 0, none⟩ : Addr).add 2) r1 rfl v2
  obtain ⟨h3, r3⟩ := Row.setMid (A := [v0, v1, v2]) (B := [z4, z5]) (p := (⟨b, 0, none⟩ : Addr).add 3) r2 rfl v3
  obtain ⟨h4, r4⟩ := Row.setMid (A := [v0, v1, v2, v3]) (B := [z5]) (p := (⟨b, 0, none⟩ : Addr).add 4) r3 rfl v4
  obtain ⟨h5, r5⟩ := Row.setMid (A := [v0, v1, v2, v3, v4]) (B := []) (p := (⟨b, 0, none⟩ : Addr).add 5) r4 rfl v5
  exact ⟨h0, h1, h2, h3, h4, h5, hk _ r5 (((((((Chg.refl b w).set rfl _).set (by simp only [add_block]) _).set (by simp only [add_block]) _).set (by simp only [add_block]) _).set (by simp only [add_block]) _).set (by simp only [add_block]) _)⟩

theorem local6c {w : World} {z0 z1 z2 z3 z4 z5 v0 v1 v2 v3 v4 v5 : Value} {e : TypeId} {K : World → Prop} (hk : ∀ w', Row w' w.heap.size [v0, v1, v2, v3, v4, v5] e → Ext w w' → K w') :
    letW (w.alloc (.cells #[z0, z1, z2, z3, z4, z5] e)) (fun q => Wr q (⟨w.heap.size, 0, none⟩ : Addr) ∧ letW (q.setCell (⟨w.heap.size, 0, none⟩ : Addr) v0) (fun q0 => Wr q0 ((⟨w.heap.size, 0, none⟩ : Addr).add 1) ∧ letW (q0.setCell ((⟨w.heap.size, 0, none⟩ : Addr).add 1) v1) (fun q1 => Wr q1 ((⟨w.heap.size, 0, none⟩ : Addr).add 2) ∧ letW (q1.setCell ((⟨w.heap.size, 0, none⟩ : Addr).add 2) v2) (fun q2 => Wr q2 ((⟨w.heap.size, 0, none⟩ : Addr).add 3) ∧ letW (q2.setCell ((⟨w.heap.size, 0, none⟩ : Addr).add 3) v3) (fun q3 => Wr q3 ((⟨w.heap.size, 0, none⟩ : Addr).add 4) ∧ letW (q3.setCell ((⟨w.heap.size, 0, none⟩ : Addr).add 4) v4) (fun q4 => Wr q4 ((⟨w.heap.size, 0, none⟩ : Addr).add 5) ∧ letW (q4.setCell ((⟨w.heap.size, 0, none⟩ : Addr).add 5) v5) K)))))) := by
  have r0 : Row (w.alloc (.cells #[z0, z1, z2, z3, z4, z5] e)) w.heap.size [z0, z1, z2, z3, z4, z5] e := Row.new w [z0, z1, z2, z3, z4, z5] e
  have e0 : Ext w (w.alloc (.cells #[z0, z1, z2, z3, z4, z5] e)) := (Ext.refl w).alloc _
  exact row_set6c r0 fun w' r c => hk w' r (e0.chg c (Nat.le_refl _))

theorem row_put6c {w : World} {b k : Nat} {pre post : List Value} {z0 z1 z2 z3 z4 z5 v0 v1 v2 v3 v4 v5 : Value} {e : TypeId} {K : World → Prop} (r : Row w b (pre ++ z0 :: z1 :: z2 :: z3 :: z4 :: z5 :: post) e) (hp : pre.length = k * 6) (hk : ∀ w', Row w' b (pre ++ v0 :: v1 :: v2 :: v3 :: v4 :: v5 :: post) e → Chg b w w' → K w') :
    Wr w ((⟨b, 0, none⟩ : Addr).add ((k : Int).toNat * 6)) ∧ letW (w.setCell ((⟨b, 0, none⟩ : Addr).add ((k : Int).toNat * 6)) v0) (fun q0 => Wr q0 (((⟨b, 0, none⟩ : Addr).add ((k : Int).toNat * 6)).add 1) ∧ letW (q0.setCell (((⟨b, 0, none⟩ : Addr).add ((k : Int).toNat * 6)).add 1) v1) (fun q1 => Wr q1 (((⟨b, 0, none⟩ : Addr).add ((k : Int).toNat * 6)).add 2) ∧ letW (q1.setCell (((⟨b, 0, none⟩ : Addr).add ((k : Int).toNat * 6)).add 2) v2) (fun q2 => Wr q2 (((⟨b, 0, none⟩ : Addr).add ((k : Int).toNat * 6)).add 3) ∧ letW (q2.setCell (((⟨b, 0, none⟩ : Addr).add ((k : Int).toNat * 6)).add 3) v3) (fun q3 => Wr q3 (((⟨b, 0, none⟩ : Addr).add ((k : Int).toNat * 6)).add 4) ∧ letW (q3.setCell (((⟨b, 0, none⟩ : Addr).add ((k : Int).toNat * 6)).add 4) v4) (fun q4 => Wr q4 (((⟨b, 0, none⟩ : Addr).add ((k : Int).toNat * 6)).add 5) ∧ letW (q4.setCell (((⟨b, 0, none⟩ : Addr).add ((k : Int).toNat * 6)).add 5) v5) K))))) := by
  obtain ⟨h0, r0⟩ := Row.setMid (A := pre) (B := z1 :: z2 :: z3 :: z4 :: z5 :: post) (o := z0) (p := ((⟨b, 0, none⟩ : Addr).add ((k : Int).toNat * 6))) (by simpa using r) (by rw [Int.toNat_natCast, hp]) v0
  obtain ⟨h1, r1⟩ := Row.setMid (A := pre ++ [v0]) (B := z2 :: z3 :: z4 :: z5 :: post) (o := z1) (p := ((⟨b, 0, none⟩ : Addr).add ((k : Int).toNat * 6)).add 1) (by simpa using r0) (by simp [hp, add_add']) v1
  obtain ⟨h2, r2⟩ := Row.setMid (A := pre ++ [v0, v1]) (B := z3 :: z4 :: z5 :: post) (o := z2) (p := ((⟨b, 0, none⟩ : Addr).add ((k : Int).toNat * 6)).add 2) (by simpa using r1) (by simp [hp, add_add']) v2
  obtain ⟨h3, r3⟩ := Row.setMid (A := pre ++ [v0, v1, v2]) (B := z4 :: z5 :: post) (o := z3) (p := ((⟨b, 0, none⟩ : Addr).add ((k : Int).toNat * 6)).add 3) (by simpa using r2) (by simp [hp, add_add']) v3
  obtain ⟨h4, r4⟩ := Row.setMid (A := pre ++ [v0, v1, v2, v3]) (B := z5 :: post) (o := z4) (p := ((⟨b, 0, none⟩ : Addr).add ((k : Int).toNat * 6)).add 4) (by simpa using r3) (by simp [hp, add_add']) v4
  obtain ⟨h5, r5⟩ := Row.setMid (A := pre ++ [v0, v1, v2, v3, v4]) (B := post) (o := z5) (p := ((⟨b, 0, none⟩ : Addr).add ((k : Int).toNat * 6)).add 5) (by simpa using r4) (by simp [hp, add_add']) v5
  exact ⟨h0, h1, h2, h3, h4, h5, hk _ (by simpa using r5) (((((((Chg.refl b w).set (by simp only [add_block]) _).set (by simp only [add_block]) _).set (by simp only [add_block]) _).set (by simp only [add_block]) _).set (by simp only [add_block]) _).set (by simp only [add_block]) _)⟩

theorem row_set7c {w : World} {b : Nat} {z0 z1 z2 z3 z4 z5 z6 v0 v1 v2 v3 v4 v5 v6 : Value} {e : TypeId} {K : World → Prop} (r : Row w b [z0, z1, z2, z3, z4, z5, z6] e) (hk : ∀ w', Row w' b [v0, v1, v2, v3, v4, v5, v6] e → Chg b w w' → K w') :
    Wr w (⟨b, 0, none⟩ : Addr) ∧ letW (w.setCell (⟨b, 0, none⟩ : Addr) v0) (fun q0 => Wr q0 ((⟨b, 0, none⟩ : Addr).add 1) ∧ letW (q0.setCell ((⟨b, 0, none⟩ : Addr).add 1) v1) (fun q1 => Wr q1 ((⟨b, 0, none⟩ : Addr).add 2) ∧ letW (q1.setCell ((⟨b, 0, none⟩ : Addr).add 2) v2) (fun q2 => Wr q2 ((⟨b, 0, none⟩ : Addr).add 3) ∧ letW (q2.setCell ((⟨b, 0, none⟩ : Addr).add 3) v3) (fun q3 => Wr q3 ((⟨b, 0, none⟩ : Addr).add 4) ∧ letW (q3.setCell ((⟨b, 0, none⟩ : Addr).add 4) v4) (fun q4 => Wr q4 ((⟨b, 0, none⟩ : Addr).add 5) ∧ letW (q4.setCell ((⟨b, 0, none⟩ : Addr).add 5) v5) (fun q5 => Wr q5 ((⟨b, 0, none⟩ : Addr).add 6) ∧ letW (q5.setCell ((⟨b, 0, none⟩ : Addr).add 6) v6) K)))))) := by
  obtain ⟨h0, r0⟩ := Row.setMid (A := []) (B := [z1, z2, z3, z4, z5, z6]) (p := ⟨b, 0, none⟩) r rfl v0
  obtain ⟨h1, r1⟩ := Row.setMid (A := [v0]) (B := [z2, z3, z4, z5, z6]) (p := (⟨b, 0, none⟩ : Addr).add 1) r0 rfl v1
  obtain ⟨h2, r2⟩ := Row.setMid (A := [v0, v1]) (B := [z3, z4, z5, z6]) (p := (⟨b, 0, none⟩ : Addr).add 2) r1 rfl v2
  obtain ⟨h3, r3⟩ := Row.setMid (A := [v0, v1, v2]) (B := [z4, z5, z6]) (p := (⟨b, 0, none⟩ : Addr).add 3) r2 rfl v3
  obtain ⟨h4, r4⟩ := Row.setMid (A := [v0, v1, v2, v3]) (B := [z5, z6]) (p := (⟨b, 0, none⟩ : Addr).add 4) r3 rfl v4
  obtain ⟨h5, r5⟩ := Row.setMid (A := [v0, v1, v2, v3, v4]) (B := [z6]) (p := (⟨b, 0, none⟩ : Addr).add 5) r4 rfl v5
  obtain ⟨h6, r6⟩ := Row.setMid (A := [v0, v1, v2, v3, v4, v5]) (B := []) (p := (⟨b, 0, none⟩ : Addr).add 6) r5 rfl v6
  exact ⟨h0, h1, h2, h3, h4, h5, h6, hk _ r6 ((((((((Chg.refl b w).set rfl _).set (by simp only [add_block]) _).set (by simp only [add_block]) _).set (by simp only [add_block]) _).set (by simp only [add_block]) _).set (by simp only [add_block]) _).set (by simp only [add_block]) _)⟩

theorem local7c {w : World} {z0 z1 z2 z3 z4 z5 z6 v0 v1 v2 v3 v4 v5 v6 : Value} {e : TypeId} {K : World → Prop} (hk : ∀ w', Row w' w.heap.size [v0, v1, v2, v3, v4, v5, v6] e → Ext w w' → K w') :
    letW (w.alloc (.cells #[z0, z1, z2, z3, z4, z5, z6] e)) (fun q => Wr q (⟨w.heap.size, 0, none⟩ : Addr) ∧ letW (q.setCell (⟨w.heap.size, 0, none⟩ : Addr) v0) (fun q0 => Wr q0 ((⟨w.heap.size, 0, none⟩ : Addr).add 1) ∧ letW (q0.setCell ((⟨w.heap.size, 0, none⟩ : Addr).add 1) v1) (fun q1 => Wr q1 ((⟨w.heap.size, 0, none⟩ : Addr).add 2) ∧ letW (q1.setCell ((⟨w.heap.size, 0, none⟩ : Addr).add 2) v2) (fun q2 => Wr q2 ((⟨w.heap.size, 0, none⟩ : Addr).add 3) ∧ letW (q2.setCell ((⟨w.heap.size, 0, none⟩ : Addr).add 3) v3) (fun q3 => Wr q3 ((⟨w.heap.size, 0, none⟩ : Addr).add 4) ∧ letW (q3.setCell ((⟨w.heap.size, 0, none⟩ : Addr).add 4) v4) (fun q4 => Wr q4 ((⟨w.heap.size, 0, none⟩ : Addr).add 5) ∧ letW (q4.setCell ((⟨w.heap.size, 0, none⟩ : Addr).add 5) v5) (fun q5 => Wr q5 ((⟨w.heap.size, 0, none⟩ : Addr).add 6) ∧ letW (q5.setCell ((⟨w.heap.size, 0, none⟩ : Addr).add 6) v6) K))))))) := by
  have r0 : Row (w.alloc (.cells #[z0, z1, z2, z3, z4, z5, z6] e)) w.heap.size [z0, z1, z2, z3, z4, z5, z6] e := Row.new w [z0, z1, z2, z3, z4, z5, z6] e
  have e0 : Ext w (w.alloc (.cells #[z0, z1, z2, z3, z4, z5, z6] e)) := (Ext.refl w).alloc _
  exact row_set7c r0 fun w' r c => hk w' r (e0.chg c (Nat.le_refl _))

theorem row_put7c {w : World} {b k : Nat} {pre post : List Value} {z0 z1 z2 z3 z4 z5 z6 v0 v1 v2 v3 v4 v5 v6 : Value} {e : TypeId} {K : World → Prop} (r : Row w b (pre ++ z0 :: z1 :: z2 :: z3 :: z4 :: z5 :: z6 :: post) e) (hp : pre.length = k * 7) (hk : ∀ w', Row w' b (pre ++ v0 :: v1 :: v2 :: v3 :: v4 :: v5 :: v6 :: post) e → Chg b w w' → K w') :
    Wr w ((⟨b, 0, none⟩ : Addr).add ((k : Int).toNat * 7)) ∧ letW (w.setCell ((⟨b, 0, none⟩ : Addr).add ((k : Int).toNat * 7)) v0) (fun q0 => Wr q0 (((⟨b, 0, none⟩ : Addr).add ((k : Int).toNat * 7)).add 1) ∧ letW (q0.setCell (((⟨b, 0, none⟩ : Addr).add ((k : Int).toNat * 7)).add 1) v1) (fun q1 => Wr q1 (((⟨b, 0, none⟩ : Addr).add ((k : Int).toNat * 7)).add 2) ∧ letW (q1.setCell (((⟨b, 0, none⟩ : Addr).add ((k : Int).toNat * 7)).add 2) v2) (fun q2 => Wr q2 (((⟨b, 0, none⟩ : Addr).add ((k : Int).toNat * 7)).add 3) ∧ letW (q2.setCell (((⟨b, 0, none⟩ : Addr).add ((k : Int).toNat * 7)).add 3) v3) (fun q3 => Wr q3 (((⟨b, 0, none⟩ : Addr).add ((k : Int).toNat * 7)).add 4) ∧ letW (q3.setCell (((⟨b, 0, none⟩ : Addr).add ((k : Int).toNat * 7)).add 4) v4) (fun q4 => Wr q4 (((⟨b, 0, none⟩ : Addr).add ((k : Int).toNat * 7)).add 5) ∧ letW (q4.setCell (((⟨b, 0, none⟩ : Addr).add ((k : Int).toNat * 7)).add 5) v5) (fun q5 => Wr q5 (((⟨b, 0, none⟩ : Addr).add ((k : Int).toNat * 7)).add 6) ∧ letW (q5.setCell (((⟨b, 0, none⟩ : Addr).add ((k : Int).toNat * 7)).add 6) v6) K)))))) := by
  obtain ⟨h0, r0⟩ := Row.setMid (A := pre) (B := z1 :: z2 :: z3 :: z4 :: z5 :: z6 :: post) (o := z0) (p := ((⟨b, 0, none⟩ : Addr).add ((k : Int).toNat * 7))) (by simpa using r) (by rw [Int.toNat_natCast, hp]) v0
  obtain ⟨h1, r1⟩ := Row.setMid (A := pre ++ [v0]) (B := z2 :: z3 :: z4 :: z5 :: z6 :: post) (o := z1) (p := ((⟨b, 0, none⟩ : Addr).add ((k : Int).toNat * 7)).add 1) (by simpa using r0) (by simp [hp, add_add']) v1
  obtain ⟨h2, r2⟩ := Row.setMid (A := pre ++ [v0, v1]) (B := z3 :: z4 :: z5 :: z6 :: post) (o := z2) (p := ((⟨b, 0, none⟩ : Addr).add ((k : Int).toNat * 7)).add 2) (by simpa using r1) (by simp [hp, add_add']) v2
  obtain ⟨h3, r3⟩ := Row.setMid (A := pre ++ [v0, v1, v2]) (B := z4 :: z5 :: z6 :: post) (o := z3) (p := ((⟨b, 0, none⟩ : Addr).add ((k : Int).toNat * 7)).add 3) (by simpa using r2) (by simp [hp, add_add']) v3
  obtain ⟨h4, r4⟩ := Row.setMid (A := pre ++ [v0, v1, v2, v3]) (B := z5 :: z6 :: post) (o := z4) (p := ((⟨b, 0, none⟩ : Addr).add ((k : Int).toNat * 7)).add 4) (by simpa using r3) (by simp [hp, add_add']) v4
  obtain ⟨h5, r5⟩ := Row.setMid (A := pre ++ [v0, v1, v2, v3, v4]) (B := z6 :: post) (o := z5) (p := ((⟨b, 0, none⟩ : Addr).add ((k : Int).toNat * 7)).add 5) (by simpa using r4) (by simp [hp, add_add']) v5
  obtain ⟨h6, r6⟩ := Row.setMid (A := pre ++ [v0, v1, v2, v3, v4, v5]) (B := post) (o := z6) (p := ((⟨b, 0, none⟩ : Addr).add ((k : Int).toNat * 7)).add 6) (by simpa using r5) (by simp [hp, add_add']) v6
  exact ⟨h0, h1, h2, h3, h4, h5, h6, hk _ (by simpa using r6) ((((((((Chg.refl b w).set (by simp only [add_block]) _).set (by simp only [add_block]) _).set (by simp only [add_block]) _).set (by simp only [add_block]) _).set (by simp only [add_block]) _).set (by simp only [add_block]) _).set (by simp only [add_block]) _)⟩

end Go.Proofs

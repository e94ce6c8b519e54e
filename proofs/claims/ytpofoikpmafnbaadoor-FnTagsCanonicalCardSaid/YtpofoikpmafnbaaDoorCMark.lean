/-
  What functions of this seat compute, part 'Mark': contracts over their readable predicates. Conditions: each theorem's own hypotheses.
-/
import Derived.Test.YtpofoikpmafnbaaDoorBase
import Derived.Test.YtpofoikpmafnbaaDoorOpen
import Derived.Test.YtpofoikpmafnbaaDoorGen
namespace Go.Proofs
open Go Go.Vc Go.RowKit
set_option maxRecDepth 100000
set_option linter.unusedVariables false
--!
/-! ## Texts of marks -/

def mtxGo (k : Nat) (t : ByteArray) : ByteArray :=
  if h : k = 0 then t else mtxGo (k / 10) (⟨#[UInt8.ofNat (48 + k % 10)]⟩ ++ t)
termination_by k
decreasing_by omega

def mtx (k : Int) : ByteArray := if k ≤ 0 then ⟨#[109, 48]⟩ else ⟨#[109]⟩ ++ mtxGo k.toNat ⟨#[]⟩

theorem mtxGo_nought (t : ByteArray) : mtxGo 0 t = t := by rw [mtxGo]; rfl
theorem mtxGo_step {k : Nat} (h : k ≠ 0) (t : ByteArray) : mtxGo k t = mtxGo (k / 10) (⟨#[UInt8.ofNat (48 + k % 10)]⟩ ++ t) := by rw [mtxGo, dif_neg h]

theorem sStr_one {w : World} {b : Nat} {n : Int} {e : TypeId} {K : ByteArray → Prop} (h0 : 0 ≤ n) (h1 : n ≤ 255) (r : Row w b [.int .u8 n] e) (hk : K ⟨#[UInt8.ofNat n.toNat]⟩) : sStr ⟨some ⟨b, 0, none⟩, 1, 1⟩ w K := by
  refine ⟨[UInt8.ofNat n.toNat], rfl, fun j c hj => ⟨_, rfl, ?_⟩, hk⟩
  have hv : (UInt8.ofNat n.toNat).toNat = n.toNat := by
    rw [UInt8.toNat_ofNat']; exact Nat.mod_eq_of_lt (by omega)
  cases j with
  | zero =>
    simp at hj
    subst hj
    rw [r.cell (k := 0) (v := .int .u8 n) rfl, hv, Int.toNat_of_nonneg h0]
  | succ j => simp at hj

theorem u8_le {n : Int} (h0 : 0 ≤ n) (h1 : n ≤ 255) : InR .u8 n := inR_u8 h0 h1

theorem c_laws_markText (k : Int) (w : World) (hk : k ≤ 1000000000) : CallR Tryd.prog 19 [.int .i64 k] w (fun v w' => v = .string (mtx k) ∧ Ext w w') := by
  refine fn_laws_markText _ _ _ ?_
  unfold g_laws_markText
  refine br_d (fun g => ⟨by simp [mtx, g], Ext.refl _⟩) (fun g => ?_)
  obtain ⟨n, rfl⟩ : ∃ n : Nat, k = n := ⟨k.toNat, by omega⟩
  refine sLoop.intro (fun st w' => ∃ j : Nat, st.1 = (j : Int) ∧ mtxGo n ⟨#[]⟩ = mtxGo j st.2.1 ∧ st.2.1.size + j ≤ n ∧ Ext w w') (fun st _ => st.1.toNat) ⟨n, rfl, rfl, by simp [ByteArray.size], Ext.refl _⟩ ?_
  rintro ⟨j0, t, u⟩ w1 K ⟨j, hj, hm, hsz, he⟩ hK _
  simp only at hj hm hsz
  subst hj
  refine br_d (fun g1 => ?_) (fun g1 => ?_)
  · have hj0 : j ≠ 0 := by omega
    have em : (j : Int) % 10 = ((j % 10 : Nat) : Int) := rfl
    have ed : (j : Int) / 10 = ((j / 10 : Nat) : Int) := rfl
    have hlt : j % 10 < 10 := Nat.mod_lt _ (by decide)
    simp only
    rw [em, ed]
    refine ⟨⟨by omega, by omega⟩, inR_i64 (by omega) (by omega), inR_u8 (by omega) (by omega), letW_i fun w2 hw2 => ?_⟩
    have e2 : Ext w1 w2 := by rw [hw2]; exact (Ext.refl w1).alloc _
    have r2 : Row w2 w1.heap.size [.int .u8 ((48 : Int) + ((j % 10 : Nat) : Int))] 5 := by rw [hw2]; exact Row.new w1 _ _
    refine sStr_one (by omega) (by omega) r2 ?_
    have hb : ((48 : Int) + ((j % 10 : Nat) : Int)).toNat = 48 + j % 10 := by omega
    rw [hb]
    have hs1 : (⟨#[UInt8.ofNat (48 + j % 10)]⟩ : ByteArray).size = 1 := rfl
    refine ⟨by rw [hs1]; omega, ⟨by omega, by omega, inR_i64 (by omega) (by omega)⟩, hK _ _ ⟨j / 10, rfl, ?_, ?_, he.trans e2⟩ (by simp; omega)⟩
    · rw [hm, mtxGo_step hj0]
    · simp only [ByteArray.size_append, hs1]; omega
  · have hj0 : j = 0 := by omega
    subst hj0
    have hs1 : (⟨#[109]⟩ : ByteArray).size = 1 := rfl
    refine ⟨by simp only [hs1]; omega, ?_, he⟩
    have h1 : ¬ ((n : Int) ≤ 0) := g
    rw [mtxGo_nought] at hm
    simp only [mtx, if_neg h1, Int.toNat_natCast, hm]
end Go.Proofs

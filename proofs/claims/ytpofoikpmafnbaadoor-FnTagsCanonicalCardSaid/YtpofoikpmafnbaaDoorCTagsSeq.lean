/-
  What functions of this seat compute, part 'TagsSeq': contracts over their readable predicates. Conditions: each theorem's own hypotheses.
-/
import Derived.Test.YtpofoikpmafnbaaDoorBase
import Derived.Test.YtpofoikpmafnbaaDoorOpen
import Derived.Test.YtpofoikpmafnbaaDoorGen
import Derived.Test.YtpofoikpmafnbaaDoorCVcIn
import Derived.Test.YtpofoikpmafnbaaDoorCVcRange
import Derived.Test.YtpofoikpmafnbaaDoorCGenIn
import Derived.Test.YtpofoikpmafnbaaDoorCTags
import Derived.Test.YtpofoikpmafnbaaDoorCTagsShelf
import Derived.Test.YtpofoikpmafnbaaDoorCBstr
import Derived.Test.YtpofoikpmafnbaaDoorCBstr2
import Derived.Test.YtpofoikpmafnbaaDoorCTagsText
import Derived.Test.YtpofoikpmafnbaaDoorCTagsPlain
import Derived.Test.YtpofoikpmafnbaaDoorShelf
import Derived.Lib.Bytealg
namespace Go.Proofs
open Go Go.Vc Go.RowKit
set_option maxRecDepth 100000
set_option linter.unusedVariables false
--! C:VcIn C:VcRange C:GenIn C:Tags C:TagsShelf C:Bstr C:Bstr2 C:TagsText C:TagsPlain S M:Derived.Lib.Bytealg
/-! ## Tags: strings.SplitSeq at a comma -/

theorem c_Index1 (s : ByteArray) (c : UInt8) (w : World) : CallR Tryd.prog 38 [.string s, .string ⟨#[c]⟩] w (fun v w' => v = .int .i64 (Lib.indexByte s.data.toList c) ∧ Ext w w') :=
  .inl ⟨by kernel_rfl, (Tryd.strings_Index_one s c w).mono fun e w' ⟨h1, h2⟩ => ⟨_, h1, rfl, by rw [h2]; exact Ext.refl _⟩⟩

theorem _root_.Go.Vc.Row.cell0 {w : World} {b : Nat} {v : Value} {vs : List Value} {e : TypeId} (h : Row w b (v :: vs) e) : w.cell? (⟨b, 0, none⟩ : Addr) = some v := by
  have := h.cell (k := 0) (v := v) rfl
  rwa [add_nought] at this

theorem ext_post {s : ByteArray} {p q : List UInt8} {c : UInt8} (h : s.data.toList = p ++ c :: q) : s.extract (p.length + 1) s.size = bstr q := by
  unfold bstr
  apply ByteArray.ext
  apply Array.ext'
  have hl : s.data.size = p.length + (q.length + 1) := by rw [← Array.length_toList, h]; simp
  have hs : s.size = p.length + (q.length + 1) := by rw [size_eq, h]; simp
  have hd : (s.extract (p.length + 1) s.size).data.toList = (s.data.toList.drop (p.length + 1)).take (s.size - (p.length + 1)) := by
    simp [List.extract_eq_take_drop]
  rw [hd, h, hs]
  have : p ++ c :: q = (p ++ [c]) ++ q := by simp
  rw [this, List.drop_left' (by simp)]
  exact List.take_of_length_le (by omega)

theorem iter_split {w : World} {s : ByteArray} {b1 b2 b3 : Nat} {T1 T2 T3 : TypeId} (h1 : Row w b1 [.string ⟨#[44]⟩] T1) (h2 : Row w b2 [.string s] T2) (h3 : Row w b3 [.int .i64 0] T3) (h12 : b1 ≠ b2) (h32 : b3 ≠ b2) (hs : s.size ≤ 1000000000) :
    IterS Tryd.prog (.func (.func 36) #[] #[.pointer (some ⟨b1, 0, none⟩), .pointer (some ⟨b2, 0, none⟩), .pointer (some ⟨b3, 0, none⟩)]) w (partsOf s) b2 (fun k => k = b1 ∨ k = b2 ∨ k = b3) := by
  refine ⟨_, _, rfl, by kernel_rfl, .inr (.inl rfl), fun k hk => ?_, ?_⟩
  · rcases hk with rfl | rfl | rfl
    · exact h1.lt
    · exact h2.lt
    · exact h3.lt
  intro l J Jx W hsz hW hJ hround h0
  suffices key : ∀ Φ : Value → World → Prop, (∀ v w', J (partsOf s) w' ∨ Jx w' → Φ v w') → g_strings_splitSeq_1_in l ⟨b1, 0, none⟩ ⟨b2, 0, none⟩ ⟨b3, 0, none⟩ W Φ from fn_strings_splitSeq_1_in l ⟨b1, 0, none⟩ ⟨b2, 0, none⟩ ⟨b3, 0, none⟩ W _ (key _ fun v w' h => h)
  intro Φ hΦ
  unfold g_strings_splitSeq_1_in
  have r1 : Row W b1 [.string ⟨#[44]⟩] T1 := h1.of_same (hW b1 (.inl rfl))
  have r2 : Row W b2 [.string s] T2 := h2.of_same (hW b2 (.inr (.inl rfl)))
  have r3 : Row W b3 [.int .i64 0] T3 := h3.of_same (hW b3 (.inr (.inr rfl)))
  refine ⟨_, r1.cell0, br_f (by rfl) ?_⟩
  refine sLoop.intro (fun _ w' => ∃ (pre : List ByteArray) (rest : ByteArray), partsOf s = pre ++ (splitC rest.data.toList).map bstr ∧ J pre w' ∧ Row w' b1 [.string ⟨#[44]⟩] T1 ∧ Row w' b2 [.string rest] T2 ∧ Row w' b3 [.int .i64 0] T3 ∧ rest.size ≤ s.size)
    (fun _ w' => match w'.cell? ⟨b2, 0, none⟩ with | some (.string t) => t.size | _ => 0) ⟨[], s, rfl, h0, r1, r2, r3, Nat.le_refl _⟩ ?_
  rintro ⟨⟩ w1 K ⟨pre, rest, hp, hj, q1, q2, q3, hrs⟩ hK _
  refine ⟨rest, q2.cell0, _, q1.cell0, (c_Index1 rest 44 w1).go fun w2 e2 => ⟨_, rfl, ?_⟩⟩
  have j2 := hJ pre w1 w2 hj (Chg.of_ext e2)
  have p1 := q1.ext e2
  have p2 := q2.ext e2
  have p3 := q3.ext e2
  rcases indexByte_spec 44 rest.data.toList with ⟨hi, hno⟩ | ⟨p, q, hr, hno, hi⟩
  · rw [hi]
    refine br_dt (by decide) ⟨rest, p2.cell0, ?_⟩
    have hend : partsOf s = pre ++ rest :: [] := by rw [hp, splitC_no hno]; simp [bstr_self]
    refine (hround pre rest [] w2 hend j2).mono ?_
    rintro u w3 (⟨rfl, hj3, _⟩ | ⟨rfl, hx⟩)
    · exact ⟨true, rfl, hΦ _ _ (.inl (by rw [hend]; exact hj3))⟩
    · exact ⟨false, rfl, hΦ _ _ (.inr hx)⟩
  · rw [hi]
    have hsz' : rest.size = p.length + (q.length + 1) := by rw [size_eq, hr]; simp
    refine br_df (by omega) ⟨rest, p2.cell0, 0, p3.cell0, inR_i64 (by omega) (by omega), ⟨by omega, by omega, by omega⟩, ?_⟩
    have ex : rest.extract (0 : Int).toNat ((p.length : Int) + 0).toNat = bstr p := by
      rw [Int.add_zero, Int.toNat_natCast]; exact ext_pre hr
    rw [ex]
    have hmid : partsOf s = pre ++ bstr p :: (splitC q).map bstr := by rw [hp, hr, splitC_at hno]; rfl
    refine (hround pre (bstr p) _ w2 hmid j2).mono ?_
    rintro u w3 (⟨rfl, hj3, hb3, hs3⟩ | ⟨rfl, hx⟩)
    · have t1 := p1.of_same (hb3 b1 (.inl rfl))
      have t2 := p2.of_same (hb3 b2 (.inr (.inl rfl)))
      have t3 := p3.of_same (hb3 b3 (.inr (.inr rfl)))
      have hsep : ((⟨#[44]⟩ : ByteArray).size : Int) = 1 := rfl
      refine ⟨true, rfl, br_f rfl ⟨rest, t2.cell0, _, t1.cell0, inR_i64 (by omega) (by omega), ⟨by omega, by omega, by omega⟩, ?_⟩⟩
      have ex2 : rest.extract ((p.length : Int) + ((⟨#[44]⟩ : ByteArray).size : Int)).toNat ((rest.size : Int)).toNat = bstr q := by
        rw [hsep]
        have : ((p.length : Int) + 1).toNat = p.length + 1 := by omega
        rw [this, Int.toNat_natCast]
        exact ext_post hr
      rw [ex2]
      obtain ⟨wr, t4⟩ := Row.setMid (A := []) (B := []) (p := (⟨b2, 0, none⟩ : Addr)) t2 rfl (.string (bstr q))
      refine ⟨wr, letW_i fun w4 h4 => ?_⟩
      rw [← h4] at t4
      have c4 : Chg b2 w3 w4 := by rw [h4]; exact (Chg.refl _ _).set rfl _
      clear h4
      have hq : (bstr q).size = q.length := bstr_size q
      refine hK () w4 ⟨pre ++ [bstr p], bstr q, by rw [hmid, bstr_data]; simp, hJ _ _ _ hj3 c4, t1.chg c4 h12, t4, t3.chg c4 h32, by omega⟩ ?_
      rw [show w4.cell? ⟨b2, 0, none⟩ = some (.string (bstr q)) from Row.cell0 (vs := []) t4, q2.cell0]
      simp only
      omega
    · exact ⟨false, rfl, br_t rfl (hΦ _ _ (.inr hx))⟩

theorem c_SplitSeq (s : ByteArray) (w : World) (hs : s.size ≤ 1000000000) : CallR Tryd.prog 17 [.string s, .string ⟨#[44]⟩] w
    (fun v w' => (∃ (b : Nat) (Bs : Nat → Prop), IterS Tryd.prog v w' (partsOf s) b Bs ∧ (∀ k, Bs k → w.heap.size ≤ k)) ∧ Ext w w') := by
  refine fn_strings_SplitSeq _ _ _ _ ?_
  unfold g_strings_SplitSeq
  suffices key : ∀ Φ : Value → World → Prop, (∀ v w', ((∃ (b : Nat) (Bs : Nat → Prop), IterS Tryd.prog v w' (partsOf s) b Bs ∧ (∀ k, Bs k → w.heap.size ≤ k)) ∧ Ext w w') → Φ v w') → CallR Tryd.prog 30 [.string s, .string ⟨#[44]⟩, .int .i64 (0 : Int)] w Φ from key _ fun v w' h => ⟨v, rfl, h⟩
  intro Φ hΦ
  refine fn_strings_splitSeq _ _ _ _ _ ?_
  unfold g_strings_splitSeq
  refine letW_i fun w1 h1 => letW_i fun w2 h2 => letW_i fun w3 h3 => hΦ _ _ ?_
  have r1 : Row w1 w.heap.size [.string s] 9 := by rw [h1]; exact Row.new w [.string s] _
  have r2 : Row w2 w1.heap.size [.string ⟨#[44]⟩] 9 := by rw [h2]; exact Row.new w1 [.string ⟨#[44]⟩] _
  have r3 : Row w3 w2.heap.size [.int .i64 0] 3 := by rw [h3]; exact Row.new w2 [.int .i64 0] _
  have e1 : Ext w w1 := by rw [h1]; exact (Ext.refl w).alloc _
  have e2 : Ext w1 w2 := by rw [h2]; exact (Ext.refl w1).alloc _
  have e3 : Ext w2 w3 := by rw [h3]; exact (Ext.refl w2).alloc _
  clear h1 h2 h3
  have z1 := r1.lt
  have z2 := r2.lt
  have z3 := r3.lt
  refine ⟨⟨_, _, iter_split (r2.ext e3) ((r1.ext e2).ext e3) r3 (by omega) (by omega) hs, fun k hk => ?_⟩, (e1.trans e2).trans e3⟩
  rcases hk with rfl | rfl | rfl <;> omega
end Go.Proofs

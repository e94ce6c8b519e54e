/-
  What functions of this seat compute, part 'PathLaws': contracts over their readable predicates. Conditions: each theorem's own hypotheses.
-/
import Derived.Test.YtiigecbglbfpcaaBase
import Derived.Test.YtiigecbglbfpcaaOpen
import Derived.Test.YtiigecbglbfpcaaGen
import Derived.Test.YtiigecbglbfpcaaCHelpS
import Derived.Test.YtiigecbglbfpcaaCDraw
import Derived.Test.YtiigecbglbfpcaaCPathDraw
import Derived.Test.YtiigecbglbfpcaaCPathText
namespace Go.Proofs
open Go Go.Vc Go.RowKit
set_option maxRecDepth 100000
set_option linter.unusedVariables false
--! C:HelpS C:Draw C:PathDraw C:PathText
/-! ## Pointers: the laws on their text -/

theorem toS2 {s : Sl} {xs : List ByteArray} {w : World} (h : Strs w s xs) (hl : xs.length ≤ 1048576) {K : Value → World → Prop}
    (hk : ∀ (t : Sl) w', Strs w' t xs → Ext w w' → K (.slice t.a t.len t.cap) w') : CallR Try.prog 7 [.slice s.a s.len s.cap] w K :=
  (c_laws_toStringS h hl).mono fun v w' ⟨hv, hr, he⟩ => by
    rw [hv]
    exact hk ⟨some ⟨w.heap.size, 0, none⟩, xs.length, xs.length⟩ w' (hr.slOf (by simp)) he

theorem c_laws_FnExactFormatPath {w : World} {s : Sl} {xs : List ByteArray} (h : Strs w s xs) (hcp : s.cap ≤ maxLen) (hxs : ∀ x ∈ xs, x.size ≤ maxLen) :
    CallR Try.prog 3 [.slice s.a s.len s.cap] w (fun v w' => v = .bool true ∧ Ext w w') := by
  refine fn_laws_FnExactFormatPath _ _ _ ?_
  unfold g_laws_FnExactFormatPath
  have m1 : xs.length ≤ maxLen := by rw [← h.len]; exact Nat.le_trans h.cap hcp
  refine (c_laws_szStringS _ h (by omega) (by omega) m1 hxs).mono ?_
  rintro _ w1 ⟨hv, e1⟩
  rcases hv with rfl | ⟨rfl, hpos⟩
  · exact ⟨_, rfl, br_dt (by omega) ⟨rfl, e1⟩⟩
  have z1 := sizeS_nonneg xs
  refine ⟨_, rfl, br_df (by omega) ?_⟩
  have b1 : xs.length ≤ 1048576 := by omega
  refine toS2 (h.ext e1) b1 fun x0 w3 h3 e3 => ⟨x0, rfl, ?_⟩
  have e03 := e1.trans e3
  refine (c_spec_FormatPath h3 m1 hxs).go fun w4 e4 => ⟨_, rfl, ?_⟩
  have e04 := e03.trans e4
  refine toS2 (h.ext e04) b1 fun x1 w5 h5 e5 => ⟨x1, rfl, ?_⟩
  have e05 := e04.trans e5
  refine (c_impl_FormatPath h5).go fun w6 e6 => ⟨_, rfl, br_f (by simp [seqB_eq]) ?_⟩
  have e06 := e05.trans e6
  refine toS2 (h.ext e06) b1 fun x2 w7 h7 e7 => ⟨x2, rfl, ?_⟩
  have e07 := e06.trans e7
  exact (c_laws_eqStringS ((h5.ext e6).ext e7) h7 m1).go fun w8 e8 => ⟨_, rfl, br_f (by simp) ⟨rfl, e07.trans e8⟩⟩

theorem c_spec_DrawFormatPath {w : World} {s : Sl} {bs : List UInt8} (hs : Bytes w s bs) :
    CallR Try.prog 10 [.slice s.a s.len s.cap] w (fun v w' => (∃ (l : Sl) (xs : List ByteArray), v = .slice l.a l.len l.cap ∧ Strs w' l xs ∧ xs.length ≤ 6 ∧ (∀ x ∈ xs, x.size ≤ 16)) ∧ Ext w w') := by
  refine fn_spec_DrawFormatPath _ _ _ ?_
  unfold g_spec_DrawFormatPath
  refine (c_spec_newReader hs).mono ?_
  rintro _ w1 ⟨rfl, h1, e1⟩
  have hlt := h1.lt
  refine ⟨_, rfl, (c_spec_anyPath h1 (by omega)).mono ?_⟩
  rintro _ w4 ⟨⟨lw, want, rfl, hw, apw, hwl, hws, _⟩, h4, c4⟩
  exact ⟨lw, rfl, ⟨lw, want, rfl, hw, hwl, hws⟩, e1.chg c4 (Nat.le_refl _)⟩

theorem c_laws_FnPathJoin {w : World} {s : Sl} {bs : List UInt8} (hs : Bytes w s bs) (_ : s.cap ≤ maxLen) : CallR Try.prog 4 [.slice s.a s.len s.cap] w (fun v w' => v = .bool true ∧ Ext w w') := by
  refine fn_laws_FnPathJoin _ _ _ ?_
  unfold g_laws_FnPathJoin
  refine br_d (fun _ => ⟨rfl, Ext.refl _⟩) (fun _ => ?_)
  refine (c_spec_DrawFormatPath hs).mono ?_
  rintro _ w1 ⟨⟨l, xs, rfl, h1, hl, hsz⟩, e1⟩
  have m1 : xs.length ≤ maxLen := by unfold maxLen; omega
  have m3 : ∀ x ∈ xs, x.size ≤ maxLen := fun x hx => by have := hsz x hx; unfold maxLen; omega
  refine ⟨l, rfl, (c_impl_FormatPath h1).go fun w2 e2 => ⟨_, rfl, ?_⟩⟩
  refine (c_spec_FormatPath (h1.ext e2) m1 m3).go fun w3 e3 => ⟨_, rfl, br_f (by simp [seqB_eq]) ?_⟩
  have h3 := (h1.ext e2).ext e3
  have e03 := (e1.trans e2).trans e3
  have same : ∀ w', Ext w3 w' → CallR Try.prog 6 [.slice l.a l.len l.cap] w' (fun r w'' => ∃ s12 : ByteArray, r = .string s12 ∧ (Value.bool (seqB (pathStr xs) s12) = .bool true ∧ Ext w w'')) := fun w' e' =>
    (c_spec_FormatPath (h3.ext e') m1 m3).go fun w4 e4 => ⟨_, rfl, by simp [seqB_eq], (e03.trans e').trans e4⟩
  have hll := h3.len
  refine br_i (fun _ => same w3 (Ext.refl _)) (fun hne => br_i (fun _ => same w3 (Ext.refl _)) (fun h0 => ?_))
  have hv : okPath xs = true := by
    cases hv : okPath xs with
    | true => rfl
    | false =>
      rw [seqB_eq] at h0
      have := of_decide_eq_false h0
      exfalso; apply this; simp [pathStr, hv, bstr]
  obtain ⟨x, r, rfl⟩ : ∃ x r, xs = x :: r := by
    cases xs with
    | nil => exfalso; simp at hll; simp [hll] at hne
    | cons x r => exact ⟨x, r, rfl⟩
  have hcap := h3.cap
  simp only [List.length_cons] at hll
  intro w4 e4
  have h4 : Strs w4 l (x :: r) := h3.ext e4
  have er : resl l.a l.cap (0 : Int).toNat 1 = l.a := resl_zero _ _ _
  rw [er]
  have hx : okPath [x] = true := by
    have := okPath_all hv x List.mem_cons_self
    simp [okPath, this]
  have hr : okPath r = true := by
    have h1 := okPath_all hv
    have h2 := okPath_len hv
    simp only [okPath, Bool.and_eq_true, List.all_eq_true, decide_eq_true_eq]
    exact ⟨fun y hy => h1 y (List.mem_cons_of_mem _ hy), by simp at h2; omega⟩
  have hf : Strs w4 ⟨l.a, 1, l.cap⟩ [x] := h4.front (k := 1) (by omega)
  refine ⟨⟨by omega, by omega, by omega⟩, (c_impl_FormatPath hf).go fun w5 e5 => ⟨_, rfl, ⟨by omega, by omega, by omega⟩, ?_⟩⟩
  have hd : Strs w5 ⟨resl l.a l.cap 1 1, l.len - 1, l.cap - 1⟩ r := (h4.ext e5).drop cS_len (k := 1) (by omega)
  refine (c_impl_FormatPath hd).go fun w6 e6 => ⟨_, rfl, ?_, ?_, ((e03.trans e4).trans e5).trans e6⟩
  · have h1 := pathText_len (xs := [x]) (fun y hy => by simp at hy; rw [hy]; have := hsz x List.mem_cons_self; omega)
    have h2 := pathText_len (xs := r) (fun y hy => by have := hsz y (List.mem_cons_of_mem _ hy); omega)
    simp only [pathStr, hx, hr, if_true, bstr_size]
    simp only [List.length_cons, List.length_nil] at h1 h2 hl
    omega
  · simp only [pathStr, hx, hr, hv, if_true, bstr_append]
    rw [seqB_eq]
    simp [pathText]
end Go.Proofs

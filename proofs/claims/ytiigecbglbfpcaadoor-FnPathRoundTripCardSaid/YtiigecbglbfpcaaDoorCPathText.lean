/-
  What functions of this seat compute, part 'PathText': contracts over their readable predicates. Conditions: each theorem's own hypotheses.
-/
import Derived.Test.YtiigecbglbfpcaaDoorBase
import Derived.Test.YtiigecbglbfpcaaDoorOpen
import Derived.Test.YtiigecbglbfpcaaDoorGen
import Derived.Test.YtiigecbglbfpcaaDoorCPathTxt
import Derived.Test.YtiigecbglbfpcaaDoorCBuilderW
import Derived.Test.YtiigecbglbfpcaaDoorCBstr
namespace Go.Proofs
open Go Go.Vc Go.RowKit
set_option maxRecDepth 100000
set_option linter.unusedVariables false
--! C:PathTxt C:BuilderW C:Bstr
/-! ## Pointers: their text -/

def esc (c : UInt8) : List UInt8 := if c = 126 then [126, 48] else if c = 47 then [126, 49] else [c]
def escS (l : List UInt8) : List UInt8 := l.flatMap esc
def pathText (xs : List ByteArray) : List UInt8 := xs.flatMap fun x => 47 :: escS x.data.toList
def okPath (xs : List ByteArray) : Bool := xs.all okTxt && decide (xs.length ≤ 5)
def pathStr (xs : List ByteArray) : ByteArray := if okPath xs = true then bstr (pathText xs) else bstr []

theorem escS_snoc (l : List UInt8) (c : UInt8) : escS (l ++ [c]) = escS l ++ esc c := by simp [escS]
theorem esc_len (c : UInt8) : (esc c).length ≤ 2 ∧ 1 ≤ (esc c).length := by unfold esc; split <;> (try split) <;> simp
theorem escS_len (l : List UInt8) : (escS l).length ≤ 2 * l.length := by
  induction l with
  | nil => simp [escS]
  | cons c r ih =>
    have := (esc_len c).1
    unfold escS at *
    rw [List.flatMap_cons, List.length_append, List.length_cons]; omega
theorem pathText_snoc (pre : List ByteArray) (x : ByteArray) : pathText (pre ++ [x]) = pathText pre ++ 47 :: escS x.data.toList := by simp [pathText]
theorem okPath_all {xs : List ByteArray} (h : okPath xs = true) : ∀ x ∈ xs, okTxt x = true := by
  simp only [okPath, Bool.and_eq_true, List.all_eq_true] at h; exact h.1
theorem okPath_len {xs : List ByteArray} (h : okPath xs = true) : xs.length ≤ 5 := by
  simp only [okPath, Bool.and_eq_true, decide_eq_true_eq] at h; exact h.2
theorem okTxt_size {x : ByteArray} (h : okTxt x = true) : x.size ≤ 12 := by
  simp only [okTxt, Bool.and_eq_true, decide_eq_true_eq] at h; exact h.2
theorem pathText_len {xs : List ByteArray} (h : ∀ x ∈ xs, x.size ≤ 1000) : (pathText xs).length ≤ 2001 * xs.length := by
  induction xs with
  | nil => simp [pathText]
  | cons y r ih =>
    have h1 := h y List.mem_cons_self
    have h2 := ih (fun x hx => h x (List.mem_cons_of_mem _ hx))
    have h3 := escS_len y.data.toList
    rw [size_eq] at h1
    unfold pathText at *
    simp only [List.flatMap_cons, List.length_append, List.length_cons] at h2 ⊢
    omega

theorem c_impl_isPath {s : Sl} {xs : List ByteArray} {w : World} (h : Strs w s xs) :
    CallR Tryd.prog 23 [.slice s.a s.len s.cap] w (fun v w' => v = .bool (okPath xs) ∧ Ext w w') := by
  refine fn_impl_isPath _ _ _ ?_
  unfold g_impl_isPath
  have hl0 := h.len
  refine br_d (fun h0 => ⟨?_, Ext.refl _⟩) (fun h0 => ?_)
  · have : okPath xs = false := by
      have : decide (xs.length ≤ 5) = false := decide_eq_false (by omega)
      simp [okPath, this]
    rw [this]
  refine sLoop_list xs (fun pre _ w' => Ext w w' ∧ pre.all okTxt = true) ⟨Ext.refl _, rfl⟩ ?_ ?_
  · intro K pre post c t w1 hx ⟨he, ha⟩ hK _
    have hm := mid_len hx
    obtain ⟨a, ha1, hc⟩ := (h.ext he).sm hx
    refine br_dt (by omega) (onSome_i ha1 ⟨⟨by omega, by omega⟩, _, hc, (c_impl_isPlainText c w1).go fun w2 e2 => ⟨_, rfl, br_i (fun g => ⟨?_, he.trans e2⟩) (fun g => ⟨inR_i64 (by omega) (by omega), hK _ _ ⟨he.trans e2, ?_⟩⟩)⟩⟩)
    · have g' : okTxt c = false := by simpa using g
      simp [okPath, hx, g']
    · have g' : okTxt c = true := by simpa using g
      simp [ha, g']
  · intro K t w1 ⟨he, ha⟩ _
    refine br_df (by omega) ⟨?_, he⟩
    have : decide (xs.length ≤ 5) = true := decide_eq_true (by omega)
    simp [okPath, ha, this]

theorem c_spec_validPath {s : Sl} {xs : List ByteArray} {w : World} (h : Strs w s xs) (hlen : xs.length ≤ maxLen) (hsz : ∀ x ∈ xs, x.size ≤ maxLen) :
    CallR Tryd.prog 25 [.slice s.a s.len s.cap] w (fun v w' => v = .bool (okPath xs) ∧ Ext w w') := by
  refine fn_spec_validPath _ _ _ ?_
  unfold g_spec_validPath
  unfold maxLen at hlen
  have hl0 := h.len
  refine sLoop_list xs (fun pre _ w' => Ext w w' ∧ pre.all okTxt = true) ⟨Ext.refl _, rfl⟩ ?_ ?_
  · intro K pre post c t w1 hx ⟨he, ha⟩ hK _
    have hm := mid_len hx
    obtain ⟨a, ha1, hc⟩ := (h.ext he).sm hx
    refine br_dt (by omega) (onSome_i ha1 ⟨⟨by omega, by omega⟩, _, hc, (c_spec_validText c w1 (hsz _ (by rw [hx]; simp))).go fun w2 e2 => ⟨_, rfl, br_i (fun g => ⟨?_, he.trans e2⟩) (fun g => ⟨inR_i64 (by omega) (by omega), hK _ _ ⟨he.trans e2, ?_⟩⟩)⟩⟩)
    · have g' : okTxt c = false := by simpa using g
      simp [okPath, hx, g']
    · have g' : okTxt c = true := by simpa using g
      simp [ha, g']
  · intro K t w1 ⟨he, ha⟩ _
    refine br_df (by omega) ⟨?_, he⟩
    simp only [okPath, ha, Bool.true_and]
    congr 1
    rw [Bool.eq_iff_iff]; simp; omega

theorem c_impl_FormatPath {s : Sl} {xs : List ByteArray} {w : World} (h : Strs w s xs) :
    CallR Tryd.prog 11 [.slice s.a s.len s.cap] w (fun v w' => v = .string (pathStr xs) ∧ Ext w w') := by
  refine fn_impl_FormatPath _ _ _ ?_
  unfold g_impl_FormatPath
  refine (c_impl_isPath h).go fun w1 e1 => ⟨_, rfl, br_i (fun h0 => ⟨?_, e1⟩) (fun h0 => letW_i fun w2 hw2 => ?_)⟩
  · have : okPath xs = false := by simpa using h0
    simp [pathStr, this, bstr]
  have hv : okPath xs = true := by simpa using h0
  have hall := okPath_all hv
  have h4 := okPath_len hv
  have e12 : Ext w1 w2 := by rw [hw2]; exact (Ext.refl w1).alloc _
  have d2 : Bd w1.heap.size w1.heap.size [] w2 := by rw [hw2]; exact Bd.new w1
  have hl0 := h.len
  refine sLoop_list xs (fun pre _ w' => Bd w1.heap.size w1.heap.size (pathText pre) w' ∧ Ext w1 w') ⟨by simpa [pathText] using d2, e12⟩ ?_ ?_
  · intro K pre post c t w3 hx ⟨d3, e3⟩ hK _
    have hm := mid_len hx
    obtain ⟨a, ha1, hc⟩ := (h.ext (e1.trans e3)).sm hx
    have hpre : ∀ x ∈ pre, x.size ≤ 1000 := fun x hx' => by have := okTxt_size (hall x (by rw [hx]; simp [hx'])); omega
    have hcv := okTxt_size (hall c (by rw [hx]; simp))
    have hlen3 := pathText_len hpre
    have hcs := size_eq c
    refine br_dt (by omega) (onSome_i ha1 ⟨⟨by omega, by omega⟩, _, hc, (c_WriteByte 47 rfl d3 (by omega) e3.size).mono ?_⟩)
    rintro _ w4 ⟨rfl, d4, e4⟩
    refine ⟨_, rfl, ?_⟩
    have e14 : Ext w1 w4 := Below.trans e3 e4
    refine sLoop_list c.data.toList (fun p _ w' => Bd w1.heap.size w1.heap.size (pathText pre ++ 47 :: escS p) w' ∧ Ext w1 w') ⟨by simpa [escS] using d4, e14⟩ ?_ ?_
    · intro K' p q u t' w5 hx' ⟨d5, e5⟩ hK' _
      have hm' := mid_len hx'
      have hb := byteAt_mid hx'
      have hq := escS_len p
      have hlen5 : (pathText pre ++ 47 :: escS p).length ≤ 100000 := by simp only [List.length_append, List.length_cons]; omega
      rw [hb]
      have fin : ∀ w', Bd w1.heap.size w1.heap.size ((pathText pre ++ 47 :: escS p) ++ esc u) w' → Below w1.heap.size w5 w' → K' ((p.length : Int) + 1, ()) w' := fun w' d' e' => hK' _ _ ⟨by rw [escS_snoc]; simpa using d', Below.trans e5 e'⟩
      refine br_dt (by omega) ⟨⟨by omega, by omega⟩, br_i (fun g1 => ?_) (fun g1 => br_i (fun g2 => ?_) (fun g2 => ⟨⟨by omega, by omega⟩, ?_⟩))⟩
      · have hu : u = 126 := u8_eq (by simpa using g1)
        refine (c_WriteString (⟨#[126, 48]⟩ : ByteArray) d5 (by show _ + 2 ≤ _; omega) e5.size).mono ?_
        rintro _ w6 ⟨rfl, d6, e6⟩
        refine ⟨_, _, rfl, inR_i64 (by omega) (by omega), fin _ ?_ e6⟩
        have : esc u = [126, 48] := by rw [hu]; rfl
        rw [this]; exact d6
      · have hu : u = 47 := u8_eq (by simpa using g2)
        refine (c_WriteString (⟨#[126, 49]⟩ : ByteArray) d5 (by show _ + 2 ≤ _; omega) e5.size).mono ?_
        rintro _ w6 ⟨rfl, d6, e6⟩
        refine ⟨_, _, rfl, inR_i64 (by omega) (by omega), fin _ ?_ e6⟩
        have : esc u = [126, 49] := by rw [hu]; rfl
        rw [this]; exact d6
      · refine (c_WriteByte u rfl d5 (by omega) e5.size).mono ?_
        rintro _ w6 ⟨rfl, d6, e6⟩
        refine ⟨_, rfl, inR_i64 (by omega) (by omega), fin _ ?_ e6⟩
        have : esc u = [u] := by
          unfold esc
          rw [if_neg (by rintro rfl; simp at g1), if_neg (by rintro rfl; simp at g2)]
        rw [this]; exact d6
    · intro K' t' w5 ⟨d5, e5⟩ _
      refine br_df (by omega) ⟨inR_i64 (by omega) (by omega), hK _ _ ⟨by rw [pathText_snoc]; exact d5, e5⟩⟩
  · intro K t w3 ⟨d3, e3⟩ _
    refine br_df (by omega) ((c_String d3 e3.size).mono ?_)
    rintro _ w4 ⟨rfl, e4⟩
    exact ⟨_, rfl, by simp [pathStr, hv, bstr], e1.trans (Below.trans e3 e4)⟩

theorem extract_one {s : ByteArray} {pre post : List UInt8} {c : UInt8} (h : s.data.toList = pre ++ c :: post) : s.extract pre.length (pre.length + 1) = bstr [c] := by
  unfold bstr
  apply ByteArray.ext
  apply Array.ext'
  simp [h]

theorem c_spec_formatPath {s : Sl} {xs : List ByteArray} {w : World} (h : Strs w s xs) (hlen : xs.length ≤ 3000) (hsz : ∀ x ∈ xs, x.size ≤ 3000) :
    CallR Tryd.prog 26 [.slice s.a s.len s.cap] w (fun v w' => v = .string (bstr (pathText xs)) ∧ Ext w w') := by
  refine fn_spec_formatPath _ _ _ ?_
  unfold g_spec_formatPath
  have hl0 := h.len
  refine sLoop_list xs (fun pre t w' => t.1 = bstr (pathText pre) ∧ (pathText pre).length ≤ 6001 * pre.length ∧ Ext w w') ⟨by simp [pathText, bstr], by simp [pathText], Ext.refl _⟩ ?_ ?_
  · rintro K pre post c ⟨t, u⟩ w3 hx ⟨ht, hpl, e3⟩ hK _
    simp only at ht
    subst ht
    have hm := mid_len hx
    have hcs := size_eq c
    have hcl := hsz c (by rw [hx]; simp)
    have q1 : (⟨#[47]⟩ : ByteArray) = bstr [47] := rfl
    have q2 : (⟨#[126, 48]⟩ : ByteArray) = bstr [126, 48] := rfl
    have q3 : (⟨#[126, 49]⟩ : ByteArray) = bstr [126, 49] := rfl
    refine br_dt (by omega) ?_
    rw [q1, bstr_append, bstr_size, bstr_size]
    refine ⟨by simp only [List.length_cons, List.length_nil]; omega, ?_⟩
    refine sLoop_list c.data.toList (fun p t' w' => t'.1 = bstr (pathText pre ++ 47 :: escS p) ∧ Ext w w') ⟨by simp [escS], e3⟩ ?_ ?_
    · rintro K' p q u ⟨t', v⟩ w5 hx' ⟨ht', e5⟩ hK' _
      simp only at ht'
      subst ht'
      obtain ⟨a, ha1, hc⟩ := (h.ext e5).sm hx
      have hm' := mid_len hx'
      have hb := byteAt_mid hx'
      have hq := escS_len p
      have hlen5 : (pathText pre ++ 47 :: escS p).length ≤ 100000000 := by simp only [List.length_append, List.length_cons]; omega
      refine onSome_i ha1 ⟨⟨by omega, by omega⟩, _, hc, br_dt (by omega) (onSome_i ha1 ⟨⟨by omega, by omega⟩, _, hc, ⟨by omega, by omega⟩, ?_⟩)⟩
      rw [hb]
      refine br_i (fun g1 => ?_) (fun g1 => br_i (fun g2 => ?_) (fun g2 => ?_))
      · have hu : u = 126 := u8_eq (by simpa using g1)
        rw [q2, bstr_append, bstr_size, bstr_size]
        refine ⟨by simp only [List.length_cons, List.length_nil]; omega, inR_i64 (by omega) (by omega), hK' _ _ ⟨?_, e5⟩⟩
        have : esc u = [126, 48] := by rw [hu]; rfl
        simp only [escS_snoc, this]; simp
      · have hu : u = 47 := u8_eq (by simpa using g2)
        rw [q3, bstr_append, bstr_size, bstr_size]
        refine ⟨by simp only [List.length_cons, List.length_nil]; omega, inR_i64 (by omega) (by omega), hK' _ _ ⟨?_, e5⟩⟩
        have : esc u = [126, 49] := by rw [hu]; rfl
        simp only [escS_snoc, this]; simp
      · have hex : c.extract ((p.length : Int)).toNat ((p.length : Int) + 1).toNat = bstr [u] := by
          rw [← extract_one hx']
          congr 1
        refine onSome_i ha1 ⟨⟨by omega, by omega⟩, _, hc, inR_i64 (by omega) (by omega), ⟨by omega, by omega, by omega⟩, ?_⟩
        rw [hex, bstr_append, bstr_size, bstr_size]
        refine ⟨by simp only [List.length_cons, List.length_nil]; omega, inR_i64 (by omega) (by omega), hK' _ _ ⟨?_, e5⟩⟩
        have : esc u = [u] := by
          unfold esc
          rw [if_neg (by rintro rfl; simp at g1), if_neg (by rintro rfl; simp at g2)]
        simp only [escS_snoc, this]; simp
    · rintro K' ⟨t', v⟩ w5 ⟨ht', e5⟩ _
      simp only at ht'
      subst ht'
      obtain ⟨a, ha1, hc⟩ := (h.ext e5).sm hx
      have hq := escS_len c.data.toList
      refine onSome_i ha1 ⟨⟨by omega, by omega⟩, _, hc, br_df (by omega) ⟨inR_i64 (by omega) (by omega), hK _ _ ⟨by rw [pathText_snoc], ?_, e5⟩⟩⟩
      rw [pathText_snoc]; simp only [List.length_append, List.length_cons, List.length_nil]; omega
  · rintro K ⟨t, u⟩ w3 ⟨ht, hpl, e3⟩ _
    simp only at ht
    subst ht
    exact br_df (by omega) ⟨rfl, e3⟩

theorem c_spec_FormatPath {s : Sl} {xs : List ByteArray} {w : World} (h : Strs w s xs) (hlen : xs.length ≤ maxLen) (hsz : ∀ x ∈ xs, x.size ≤ maxLen) :
    CallR Tryd.prog 13 [.slice s.a s.len s.cap] w (fun v w' => v = .string (pathStr xs) ∧ Ext w w') := by
  refine fn_spec_FormatPath _ _ _ ?_
  unfold g_spec_FormatPath
  refine (c_spec_validPath h hlen hsz).go fun w1 e1 => ⟨_, rfl, br_i (fun h0 => ⟨?_, e1⟩) (fun h0 => ?_)⟩
  · have : okPath xs = false := by simpa using h0
    simp [pathStr, this, bstr]
  have hv : okPath xs = true := by simpa using h0
  have h4 := okPath_len hv
  exact (c_spec_formatPath (h.ext e1) (by omega) (fun x hx => by have := okTxt_size (okPath_all hv x hx); omega)).go fun w2 e2 => ⟨_, rfl, by simp [pathStr, hv], e1.trans e2⟩
end Go.Proofs

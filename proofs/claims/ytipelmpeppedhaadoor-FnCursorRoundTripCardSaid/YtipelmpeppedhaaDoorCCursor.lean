/-
  What functions of this seat compute, part 'Cursor': contracts over their readable predicates. Conditions: each theorem's own hypotheses.
-/
import Derived.Test.YtipelmpeppedhaaDoorBase
import Derived.Test.YtipelmpeppedhaaDoorOpen
import Derived.Test.YtipelmpeppedhaaDoorGen
import Derived.Test.YtipelmpeppedhaaDoorCSmall
import Derived.Test.YtipelmpeppedhaaDoorCBstr
import Derived.Test.YtipelmpeppedhaaDoorShelf
import Derived.Lib.Bytealg
import Derived.Lib.ItoaNum
namespace Go.Proofs
open Go Go.Vc Go.RowKit
set_option maxRecDepth 100000
set_option linter.unusedVariables false
--! C:Small C:Bstr S M:Derived.Lib.Bytealg M:Derived.Lib.ItoaNum
/-! ## Cursors: sums and digits -/

def hexDs : List UInt8 := [48, 49, 50, 51, 52, 53, 54, 55, 56, 57, 97, 98, 99, 100, 101, 102]
def hexD (k : Nat) : UInt8 := hexDs.getD k 0
def hexL (n : Nat) : List UInt8 := [hexD (n / 4096), hexD (n / 256 % 16), hexD (n / 16 % 16), hexD (n % 16)]
def sumN (l : List UInt8) : Nat := l.foldl (fun s c => (131 * s + c.toNat) % 65521) 17
def decN (n : Nat) : List UInt8 := if n < 10 then [UInt8.ofNat (48 + n)] else [UInt8.ofNat (48 + n / 10), UInt8.ofNat (48 + n % 10)]
def lim10 (n : Int) : Bool := decide (1 ≤ n ∧ n ≤ 10)
def curL (name : ByteArray) (n : Nat) : List UInt8 := name.data.toList ++ 46 :: hexL (sumN (name.data.toList ++ decN n))
def curStr (name : ByteArray) (n : Int) : ByteArray := if vName name = true ∧ lim10 n = true then bstr (curL name n.toNat) else bstr []

theorem hexD_byte : ∀ k : Fin 16, byteAt (⟨#[48, 49, 50, 51, 52, 53, 54, 55, 56, 57, 97, 98, 99, 100, 101, 102]⟩ : ByteArray) (k.val : Int) = ((hexD k.val).toNat : Int) := by decide +kernel
theorem hexD_at {k : Nat} (h : k < 16) : byteAt (⟨#[48, 49, 50, 51, 52, 53, 54, 55, 56, 57, 97, 98, 99, 100, 101, 102]⟩ : ByteArray) (k : Int) = ((hexD k).toNat : Int) := hexD_byte ⟨k, h⟩
theorem hexD_inj' : ∀ j k : Fin 16, hexD j.val = hexD k.val → j = k := by decide +kernel
theorem hexD_inj {j k : Nat} (hj : j < 16) (hk : k < 16) (h : hexD j = hexD k) : j = k := congrArg Fin.val (hexD_inj' ⟨j, hj⟩ ⟨k, hk⟩ h)
theorem hexL_inj {m n : Nat} (hm : m < 65536) (hn : n < 65536) (h : hexL m = hexL n) : m = n := by
  simp only [hexL, List.cons.injEq, and_true] at h
  obtain ⟨h1, h2, h3, h4⟩ := h
  have e1 := hexD_inj (by omega) (by omega) h1
  have e2 := hexD_inj (by omega) (by omega) h2
  have e3 := hexD_inj (by omega) (by omega) h3
  have e4 := hexD_inj (by omega) (by omega) h4
  omega

theorem sumN_snoc (l : List UInt8) (c : UInt8) : sumN (l ++ [c]) = (131 * sumN l + c.toNat) % 65521 := by simp [sumN]
theorem sumN_lt (l : List UInt8) : sumN l < 65521 := by
  rcases List.eq_nil_or_concat l with rfl | ⟨r, c, rfl⟩
  · decide
  · have := sumN_snoc r c
    rw [List.concat_eq_append, this]; exact Nat.mod_lt _ (by decide)

theorem decN_len (n : Nat) : (decN n).length ≤ 2 := by unfold decN; split <;> simp
theorem decDigits_small : ∀ n, n ≤ 10 → Lib.decDigits n = decN n := by
  intro n h
  rcases Nat.lt_or_ge n 10 with h' | h'
  · rw [Lib.decDigits, dif_pos h']; unfold decN; rw [if_pos h']
  · obtain rfl : n = 10 := by omega
    rw [Lib.decDigits, dif_neg (by omega), Lib.decDigits, dif_pos (by omega)]; rfl

theorem indexByte_spec (c : UInt8) : ∀ l : List UInt8, (Lib.indexByte l c = -1 ∧ c ∉ l) ∨ ∃ pre post, l = pre ++ c :: post ∧ c ∉ pre ∧ Lib.indexByte l c = (pre.length : Int)
  | [] => .inl ⟨rfl, by simp⟩
  | b :: l => by
    by_cases hb : b = c
    · subst hb
      exact .inr ⟨[], l, rfl, by simp, by simp [Lib.indexByte]⟩
    · have hb' : (b == c) = false := by simpa using hb
      rcases indexByte_spec c l with ⟨h1, h2⟩ | ⟨pre, post, h1, h2, h3⟩
      · exact .inl ⟨by simp [Lib.indexByte, hb', h1], by simp [Ne.symm hb, h2]⟩
      · refine .inr ⟨b :: pre, post, by rw [h1]; rfl, by simp [Ne.symm hb, h2], ?_⟩
        rw [Lib.indexByte, hb', h3]
        have : ((pre.length : Int) == -1) = false := by simp
        rw [this]; simp

theorem sStr_of {w : World} {s : Sl} {bs : List UInt8} {K : ByteArray → Prop} (h : Bytes w s bs) (hK : K (bstr bs)) : sStr s w K := by
  refine ⟨bs, h.len.symm, fun j c hj => ?_, hK⟩
  obtain ⟨a, ha, hc⟩ := SlOf.cell1 h cU_len hj rfl
  refine ⟨a, ha, ?_⟩
  rw [Int.toNat_natCast, Nat.mul_one] at hc
  exact hc

theorem flat_cU : ∀ bs : List UInt8, bs.flatMap cU = bs.map fun c => Value.int .u8 c.toNat
  | [] => rfl
  | c :: r => by rw [List.flatMap_cons, flat_cU r]; rfl

theorem row_bytes {w : World} {b n : Nat} {bs : List UInt8} {e : TypeId} (h : Row w b (bs.map fun c => Value.int .u8 c.toNat) e) (hn : n = bs.length) : Bytes w ⟨some ⟨b, 0, none⟩, n, n⟩ bs := by
  subst hn
  refine Row.slOf (c := cU) (e := e) ?_ (Nat.le_refl _)
  rw [flat_cU]; exact h

theorem c_spec_hex {n : Nat} (hn : n < 65536) (w : World) : CallR Tryd.prog 26 [.int .i64 (n : Int)] w (fun v w' => v = .string (bstr (hexL n)) ∧ Ext w w') := by
  refine fn_spec_hex _ _ _ ?_
  unfold g_spec_hex
  intro w1 e1
  have a1 : (n : Int) / 4096 = ((n / 4096 : Nat) : Int) := rfl
  have a2 : (n : Int) / 256 = ((n / 256 : Nat) : Int) := rfl
  have a3 : (n : Int) / 16 = ((n / 16 : Nat) : Int) := rfl
  have b2 : ((n / 256 : Nat) : Int) % 16 = ((n / 256 % 16 : Nat) : Int) := rfl
  have b3 : ((n / 16 : Nat) : Int) % 16 = ((n / 16 % 16 : Nat) : Int) := rfl
  have b4 : (n : Int) % 16 = ((n % 16 : Nat) : Int) := rfl
  have sz : ((⟨#[48, 49, 50, 51, 52, 53, 54, 55, 56, 57, 97, 98, 99, 100, 101, 102]⟩ : ByteArray).size : Int) = 16 := rfl
  rw [a1, a2, a3, b2, b3, b4, sz, hexD_at (by omega), hexD_at (by omega), hexD_at (by omega), hexD_at (by omega)]
  refine ⟨⟨by omega, by omega, inR_i64 (by omega) (by omega)⟩, ⟨by omega, by omega⟩, ⟨by omega, by omega, inR_i64 (by omega) (by omega)⟩, ⟨by omega, by omega⟩, ⟨by omega, by omega⟩, ⟨by omega, by omega, inR_i64 (by omega) (by omega)⟩,
    ⟨by omega, by omega⟩, ⟨by omega, by omega⟩, ⟨by omega, by omega⟩, ⟨by omega, by omega⟩, letW_i fun w2 hw2 => ?_⟩
  have e2 : Ext w1 w2 := by rw [hw2]; exact (Ext.refl w1).alloc _
  have r2 : Row w2 w1.heap.size ((hexL n).map fun c => Value.int .u8 c.toNat) 5 := by rw [hw2]; exact Row.new w1 _ _
  refine sStr_of (row_bytes r2 (n := 4) rfl) ⟨rfl, Ext.trans e1 e2⟩

theorem c_spec_sumOf (s : ByteArray) (w : World) (hs : s.size ≤ maxLen) : CallR Tryd.prog 27 [.string s] w (fun v w' => v = .int .i64 (sumN s.data.toList : Nat) ∧ Ext w w') := by
  refine fn_spec_sumOf _ _ _ ?_
  unfold g_spec_sumOf
  unfold maxLen at hs
  have hsz := size_eq s
  refine sLoop_list s.data.toList (fun pre t w' => t.1 = (sumN pre : Nat) ∧ Ext w w') ⟨rfl, Ext.refl _⟩ ?_ ?_
  · rintro K pre post c ⟨t, u⟩ w1 hx ⟨ht, he⟩ hK _
    simp only at ht
    subst ht
    have hl := mid_len hx
    have hb := byteAt_mid hx
    have hc := c.toNat_lt
    have hlt := sumN_lt pre
    refine br_dt (by omega) ?_
    simp only [hb]
    refine ⟨inR_i64 (by omega) (by omega), ⟨by omega, by omega⟩, inR_i64 (by omega) (by omega), inR_i64 (by omega) (by omega), ⟨by omega, by omega⟩, inR_i64 (by omega) (by omega), hK _ _ ⟨?_, he⟩⟩
    simp only [sumN_snoc]
    rfl
  · rintro K ⟨t, u⟩ w1 ⟨ht, he⟩ _
    simp only at ht
    subst ht
    exact br_df (by omega) ⟨rfl, he⟩

theorem dec1 {n : Nat} (h : n < 10) (w : World) : CallR Tryd.prog 28 [.int .i64 (n : Int)] w (fun v w' => v = .string (bstr (decN n)) ∧ Ext w w') := by
  refine fn_spec_decimal _ _ _ ?_
  unfold g_spec_decimal
  refine br_df (by omega) (br_df (by omega) (br_dt (by omega) ⟨inR_i64 (by omega) (by omega), inR_u8 (by omega) (by omega), letW_i fun w1 hw1 => ?_⟩))
  have e1 : Ext w w1 := by rw [hw1]; exact (Ext.refl w).alloc _
  have hu : (48 : Int) + (n : Int) = ((UInt8.ofNat (48 + n)).toNat : Int) := by
    rw [UInt8.toNat_ofNat', Nat.mod_eq_of_lt (by omega)]; omega
  have r1 : Row w1 w.heap.size ([UInt8.ofNat (48 + n)].map fun c => Value.int .u8 c.toNat) 5 := by
    rw [hw1, hu]; exact Row.new w _ _
  refine sStr_of (row_bytes r1 (n := 1) rfl) ⟨?_, e1⟩
  unfold decN; rw [if_pos h]

theorem c_spec_decimal {n : Nat} (h : n ≤ 10) (w : World) : CallR Tryd.prog 28 [.int .i64 (n : Int)] w (fun v w' => v = .string (bstr (decN n)) ∧ Ext w w') := by
  rcases Nat.lt_or_ge n 10 with h' | h'
  · exact dec1 h' w
  obtain rfl : n = 10 := by omega
  refine fn_spec_decimal _ _ _ ?_
  unfold g_spec_decimal
  refine br_df (by omega) (br_df (by omega) (br_df (by omega) ?_))
  refine ⟨fun t w' => t.1 = bstr (decN 10) ∧ Ext w w', ?_, fun s w' ⟨hs, he⟩ _ => ⟨by rw [hs], he⟩⟩
  refine ⟨fun _ => True, fun _ _ => trivial, fun w1 e1 => ?_⟩
  have q1 : ((10 : Nat) : Int) / 10 = ((1 : Nat) : Int) := rfl
  have q2 : (48 : Int) + ((10 : Nat) : Int) % 10 = ((48 : UInt8).toNat : Int) := rfl
  rw [q1, q2]
  have rw1 : ∀ w' : World, Row (w'.alloc (.cells #[.int .u8 ((48 : UInt8).toNat : Int)] 5)) w'.heap.size ([(48 : UInt8)].map fun c => Value.int .u8 c.toNat) 5 := fun w' => Row.new w' _ _
  have cat : bstr (decN 1) ++ bstr [48] = bstr (decN 10) := by rw [bstr_append]; rfl
  refine ⟨⟨by omega, by omega, inR_i64 (by omega) (by omega)⟩, ⟨by omega, by omega⟩, inR_i64 (by decide) (by decide), inR_u8 (by decide) (by decide), ⟨trivial, ?_⟩, letW_i fun w2 hw2 => ⟨⟨trivial, ?_⟩, ?_⟩⟩
  · refine (dec1 (n := 1) (by omega) w1).go fun w2 e2 => ⟨_, rfl, trivial, letW_i fun w3 hw3 => ?_⟩
    have e3 : Ext w2 w3 := by rw [hw3]; exact (Ext.refl w2).alloc _
    have r3 := rw1 w2
    rw [← hw3] at r3
    exact sStr_of (row_bytes r3 (n := 1) rfl) ⟨by rw [bstr_size, bstr_size]; decide, cat, (Ext.trans e1 e2).trans e3⟩
  · have e2 : Ext w1 w2 := by rw [hw2]; exact (Ext.refl w1).alloc _
    have r2 := rw1 w1
    rw [← hw2] at r2
    refine (dec1 (n := 1) (by omega) w2).go fun w3 e3 => ⟨_, rfl, trivial, ?_⟩
    exact sStr_of (row_bytes (r2.ext e3) (n := 1) rfl) ⟨by rw [bstr_size, bstr_size]; decide, cat, (Ext.trans e1 e2).trans e3⟩
  · have e2 : Ext w1 w2 := by rw [hw2]; exact (Ext.refl w1).alloc _
    have r2 := rw1 w1
    rw [← hw2] at r2
    refine sStr_of (row_bytes r2 (n := 1) rfl) ⟨trivial, ?_⟩
    exact (dec1 (n := 1) (by omega) w2).go fun w3 e3 => ⟨_, rfl, trivial, by rw [bstr_size, bstr_size]; decide, cat, (Ext.trans e1 e2).trans e3⟩

theorem c_impl_sumText (s : ByteArray) (w : World) (hs : s.size ≤ maxLen) : CallR Tryd.prog 23 [.string s] w (fun v w' => v = .string (bstr (hexL (sumN s.data.toList))) ∧ Ext w w') := by
  refine fn_impl_sumText _ _ _ ?_
  unfold g_impl_sumText
  unfold maxLen at hs
  have hsz := size_eq s
  refine sLoop_list s.data.toList (fun pre t w' => t.1 = (sumN pre : Nat) ∧ Ext w w') ⟨rfl, Ext.refl _⟩ ?_ ?_
  · rintro K pre post c ⟨t, u⟩ w1 hx ⟨ht, he⟩ hK _
    simp only at ht
    subst ht
    have hl := mid_len hx
    have hb := byteAt_mid hx
    have hc := c.toNat_lt
    have hlt := sumN_lt pre
    refine br_dt (by omega) ?_
    simp only [hb]
    refine ⟨inR_i64 (by omega) (by omega), ⟨by omega, by omega⟩, inR_i64 (by omega) (by omega), inR_i64 (by omega) (by omega), ⟨by omega, by omega⟩, inR_i64 (by omega) (by omega), hK _ _ ⟨?_, he⟩⟩
    simp only [sumN_snoc]
    rfl
  · rintro K ⟨t, u⟩ w1 ⟨ht, he⟩ _
    simp only at ht
    subst ht
    have hlt := sumN_lt s.data.toList
    generalize sumN s.data.toList = n at hlt ⊢
    refine br_df (by omega) (letW_i fun w2 hw2 => ?_)
    have e2 : Ext w1 w2 := by rw [hw2]; exact (Ext.refl w1).alloc _
    have z := fun (k : Nat) (vs : List Value) (w' : World) => Row w' w1.heap.size vs 50 ∧ Ext w1 w'
    let d (k : Nat) : Value := .int .u8 ((hexD k).toNat : Int)
    let o : Value := .int .u8 0
    have r2 : Row w2 w1.heap.size [o, o, o, o] 50 := by rw [hw2]; exact Row.new w1 _ _
    have sz : ((⟨#[48, 49, 50, 51, 52, 53, 54, 55, 56, 57, 97, 98, 99, 100, 101, 102]⟩ : ByteArray).size : Int) = 16 := rfl
    refine sLoop.intro (fun st w' => Ext w1 w' ∧ ((st.1 = 3 ∧ st.2.1 = ((n : Nat) : Int) ∧ Row w' w1.heap.size [o, o, o, o] 50) ∨ (st.1 = 2 ∧ st.2.1 = ((n / 16 : Nat) : Int) ∧ Row w' w1.heap.size [o, o, o, d (n % 16)] 50) ∨
        (st.1 = 1 ∧ st.2.1 = ((n / 256 : Nat) : Int) ∧ Row w' w1.heap.size [o, o, d (n / 16 % 16), d (n % 16)] 50) ∨ (st.1 = 0 ∧ st.2.1 = ((n / 4096 : Nat) : Int) ∧ Row w' w1.heap.size [o, d (n / 256 % 16), d (n / 16 % 16), d (n % 16)] 50) ∨
        (st.1 = -1 ∧ Row w' w1.heap.size [d (n / 4096), d (n / 256 % 16), d (n / 16 % 16), d (n % 16)] 50)))
      (fun st _ => (st.1 + 1).toNat) ⟨e2, .inl ⟨rfl, rfl, r2⟩⟩ ?_
    rintro ⟨i, m, u'⟩ w3 K' ⟨e3, hI⟩ hK' _
    simp only at hI ⊢
    have step : ∀ (j : Nat) (m' : Nat) (vs : List Value) (x : Value) (R : Prop), j < 4 → vs.length = 4 → m' < 65536 → Row w3 w1.heap.size vs 50 → (∀ w4, Row w4 w1.heap.size (vs.set j (d (m' % 16))) 50 → Ext w1 w4 → K' (((j : Int) - 1), (((m' / 16 : Nat)) : Int), ()) w4) →
        (((0 : Int) ≤ (m' : Int) ∧ (0 : Int) < (16 : Int)) ∧ ((0 : Int) ≤ ((m' : Int) % (16 : Int)) ∧ ((m' : Int) % (16 : Int)) < ((⟨#[48, 49, 50, 51, 52, 53, 54, 55, 56, 57, 97, 98, 99, 100, 101, 102]⟩ : ByteArray).size : Int)) ∧ ((0 : Int) ≤ (j : Int) ∧ (j : Int) < ((4 : Nat) : Int)) ∧ Wr w3 ((⟨w1.heap.size, 0, none⟩ : Addr).add ((j : Int).toNat * 1)) ∧ letW (w3.setCell ((⟨w1.heap.size, 0, none⟩ : Addr).add ((j : Int).toNat * 1)) (.int .u8 (byteAt (⟨#[48, 49, 50, 51, 52, 53, 54, 55, 56, 57, 97, 98, 99, 100, 101, 102]⟩ : ByteArray) ((m' : Int) % (16 : Int))))) (fun w10 => ((0 : Int) ≤ (m' : Int) ∧ (0 : Int) < (16 : Int) ∧ InR .i64 ((m' : Int) / (16 : Int))) ∧ InR .i64 ((j : Int) - (1 : Int)) ∧ K' (((j : Int) - (1 : Int)), ((m' : Int) / (16 : Int)), ()) w10)) := by
      intro j m' vs x R hj hvl hm' hrow hk
      have c1 : (m' : Int) % 16 = ((m' % 16 : Nat) : Int) := rfl
      have c2 : (m' : Int) / 16 = ((m' / 16 : Nat) : Int) := rfl
      rw [c1, c2, sz, hexD_at (by omega), at_idx1]
      refine ⟨⟨by omega, by omega⟩, ⟨by omega, by omega⟩, ⟨by omega, by omega⟩, hrow.wr (by omega), letW_i fun w4 hw4 => ⟨⟨by omega, by omega, inR_i64 (by omega) (by omega)⟩, inR_i64 (by omega) (by omega), hk w4 ?_ ?_⟩⟩
      · rw [hw4]; exact hrow.set j _
      · rw [hw4, add_b]; exact e3.set (p := ⟨w1.heap.size, j, none⟩) (Nat.le_refl _) _
    rcases hI with ⟨hi, hm, hr⟩ | ⟨hi, hm, hr⟩ | ⟨hi, hm, hr⟩ | ⟨hi, hm, hr⟩ | ⟨hi, hr⟩
    · subst hi hm
      refine br_dt (by omega) (step 3 n _ o True (by omega) rfl (by omega) hr fun w4 r4 e4 => hK' _ _ ⟨e4, .inr (.inl ⟨rfl, rfl, r4⟩)⟩ (by dsimp only; omega))
    · subst hi hm
      refine br_dt (by omega) (step 2 (n / 16) _ o True (by omega) rfl (by omega) hr fun w4 r4 e4 => hK' _ _ ⟨e4, .inr (.inr (.inl ⟨rfl, by rw [Nat.div_div_eq_div_mul], r4⟩))⟩ (by dsimp only; omega))
    · subst hi hm
      refine br_dt (by omega) (step 1 (n / 256) _ o True (by omega) rfl (by omega) hr fun w4 r4 e4 => hK' _ _ ⟨e4, .inr (.inr (.inr (.inl ⟨rfl, by rw [Nat.div_div_eq_div_mul], r4⟩)))⟩ (by dsimp only; omega))
    · subst hi hm
      refine br_dt (by omega) (step 0 (n / 4096) _ o True (by omega) rfl (by omega) hr fun w4 r4 e4 => hK' _ _ ⟨e4, .inr (.inr (.inr (.inr ⟨rfl, ?_⟩)))⟩ (by dsimp only; omega))
      have : n / 4096 % 16 = n / 4096 := Nat.mod_eq_of_lt (by omega)
      rw [this] at r4; exact r4
    · subst hi
      have er : resl (some (⟨w1.heap.size, 0, none⟩ : Addr)) 4 (0 : Int).toNat 1 = some ⟨w1.heap.size, 0, none⟩ := resl_zero _ _ _
      rw [er]
      refine br_df (by omega) ⟨⟨by omega, by omega, by omega⟩, ?_⟩
      refine sStr_of (row_bytes (bs := hexL n) (n := 4) hr rfl) ⟨rfl, Ext.trans he e3⟩

theorem c_impl_isLimit (n : Int) (w : World) : CallR Tryd.prog 21 [.int .i64 n] w (fun v w' => v = .bool (lim10 n) ∧ Ext w w') := by
  refine fn_impl_isLimit _ _ _ ?_
  unfold g_impl_isLimit
  refine br_d (fun h => ⟨?_, Ext.refl _⟩) (fun h => ⟨?_, Ext.refl _⟩)
  · unfold lim10; congr 1; rw [Bool.eq_iff_iff]; simp; omega
  · unfold lim10; congr 1; symm; simp; omega
end Go.Proofs

/-
  What functions of this seat compute, part 'PathParse': contracts over their readable predicates. Conditions: each theorem's own hypotheses.
-/
import Derived.Test.YtiigecbglbfpcaaDoorBase
import Derived.Test.YtiigecbglbfpcaaDoorOpen
import Derived.Test.YtiigecbglbfpcaaDoorGen
import Derived.Test.YtiigecbglbfpcaaDoorCPathText
import Derived.Test.YtiigecbglbfpcaaDoorCBstr2
import Derived.Test.YtiigecbglbfpcaaDoorCPathPlain
import Derived.Test.YtiigecbglbfpcaaDoorShelf
import Derived.Lib.Bytealg
namespace Go.Proofs
open Go Go.Vc Go.RowKit
set_option maxRecDepth 100000
set_option linter.unusedVariables false
--! C:PathText C:Bstr2 C:PathPlain S M:Derived.Lib.Bytealg
/-! ## Pointers: reading, the program's functions -/

theorem c_Count1 (s : ByteArray) (c : UInt8) (w : World) : CallR Tryd.prog 38 [.string s, .string ⟨#[c]⟩] w (fun v w' => v = .int .i64 (Lib.countByte s.data.toList c) ∧ Ext w w') :=
  .inl ⟨by kernel_rfl, (Tryd.strings_Count_one s c w).mono fun e w' ⟨h1, h2⟩ => ⟨_, h1, rfl, by rw [h2]; exact Ext.refl _⟩⟩
theorem c_Index1 (s : ByteArray) (c : UInt8) (w : World) : CallR Tryd.prog 39 [.string s, .string ⟨#[c]⟩] w (fun v w' => v = .int .i64 (Lib.indexByte s.data.toList c) ∧ Ext w w') :=
  .inl ⟨by kernel_rfl, (Tryd.strings_Index_one s c w).mono fun e w' ⟨h1, h2⟩ => ⟨_, h1, rfl, by rw [h2]; exact Ext.refl _⟩⟩

theorem slashed_pre (pre : List (List UInt8)) (last : List UInt8) : 47 :: ((pre.flatMap fun x => x ++ [47]) ++ last) = slashed (pre ++ [last]) := by
  induction pre with
  | nil => simp [slashed]
  | cons x r ih =>
    have : slashed ((x :: r) ++ [last]) = 47 :: (x ++ slashed (r ++ [last])) := by simp [slashed]
    rw [this, ← ih]; simp

theorem c_strings_Split (s : ByteArray) (w : World) (hs : s.size ≤ 4000) :
    CallR Tryd.prog 21 [.string s, .string ⟨#[47]⟩] w (fun v w' => (∃ (l : Sl) (ws : List ByteArray), v = .slice l.a l.len l.cap ∧ Strs w' l ws ∧ 47 :: s.data.toList = slashed (ws.map fun x => x.data.toList) ∧ (∀ x ∈ ws, (47 : UInt8) ∉ x.data.toList) ∧ (∀ x ∈ ws, x.size ≤ 4000) ∧ ws.length ≤ 4001) ∧ Ext w w') := by
  refine fn_strings_Split _ _ _ _ ?_
  unfold g_strings_Split
  suffices H : CallR Tryd.prog 33 [.string s, .string ⟨#[47]⟩, .int .i64 0, .int .i64 (-1)] w (fun v w' => (∃ (l : Sl) (ws : List ByteArray), v = .slice l.a l.len l.cap ∧ Strs w' l ws ∧ 47 :: s.data.toList = slashed (ws.map fun x => x.data.toList) ∧ (∀ x ∈ ws, (47 : UInt8) ∉ x.data.toList) ∧ (∀ x ∈ ws, x.size ≤ 4000) ∧ ws.length ≤ 4001) ∧ Ext w w') by
    refine H.mono ?_
    rintro v w1 ⟨⟨l, ws, rfl, h⟩, e⟩
    exact ⟨l, rfl, ⟨l, ws, rfl, h⟩, e⟩
  refine fn_strings_genSplit _ _ _ _ _ _ ?_
  unfold g_strings_genSplit
  refine br_f (by decide) (br_f (by rw [seqB_eq]; decide) (br_dt (by omega) ?_))
  refine (c_Count1 s 47 w).go fun w1 e1 => ⟨_, rfl, ?_⟩
  have hcb : Lib.countByte s.data.toList 47 = s.data.toList.count 47 := rfl
  rw [hcb]
  have hle : s.data.toList.count 47 ≤ s.data.toList.length := List.count_le_length
  have hsz := size_eq s
  generalize hN : s.data.toList.count 47 = N at hle ⊢
  have hmin : min ((N : Int) + 1) ((s.size : Int) + 1) = ((N + 1 : Nat) : Int) := by omega
  rw [hmin]
  refine ⟨inR_i64 (by omega) (by omega), inR_i64 (by omega) (by omega), ⟨by omega, by omega, by omega, by omega⟩, letW_i fun w2 hw2 => ⟨inR_i64 (by omega) (by omega), ?_⟩⟩
  have e2 : Ext w1 w2 := by rw [hw2]; exact (Ext.refl w1).alloc _
  have r2 : Row w2 w1.heap.size (List.replicate (N + 1) (.string (⟨#[]⟩ : ByteArray))) 9 := by
    rw [hw2, madeCells_eq, Int.toNat_natCast, Nat.mul_one]; exact Row.new w1 _ _
  have one : ((⟨#[47]⟩ : ByteArray).size : Int) = 1 := rfl
  have er : resl (some (⟨w1.heap.size, 0, none⟩ : Addr)) (((N + 1 : Nat) : Int).toNat) (0 : Int).toNat 1 = some ⟨w1.heap.size, 0, none⟩ := resl_zero _ _ _
  refine sLoop.intro (fun st w' => Ext w1 w' ∧ ∃ pre : List ByteArray, st.2.1 = (pre.length : Int) ∧ pre.length ≤ N ∧ s.data.toList = ((pre.map fun x => x.data.toList).flatMap fun x => x ++ [47]) ++ st.1.data.toList ∧ st.1.data.toList.count 47 = N - pre.length ∧ (∀ x ∈ pre, (47 : UInt8) ∉ x.data.toList) ∧ (∀ x ∈ pre, x.size ≤ 4000) ∧ Row w' w1.heap.size (pre.flatMap cS ++ List.replicate (N + 1 - pre.length) (.string (⟨#[]⟩ : ByteArray))) 9)
    (fun st _ => N - st.2.1.toNat) ⟨e2, [], rfl, Nat.zero_le _, by simp, by simpa using hN, by simp, by simp, by simpa using r2⟩ ?_
  rintro ⟨t, i, u⟩ w3 K ⟨e3, pre, hi, hpl, hst, hct, hno, hpsz, hrow⟩ hK _
  simp only at hi hst hct
  subst hi
  dsimp only
  have htl : t.size ≤ s.size := by
    have := congrArg List.length hst
    rw [← hsz, List.length_append, ← size_eq t] at this; omega
  have hrep : List.replicate (N + 1 - pre.length) (Value.string (⟨#[]⟩ : ByteArray)) = .string (⟨#[]⟩ : ByteArray) :: List.replicate (N - pre.length) (.string (⟨#[]⟩ : ByteArray)) := by
    rw [show N + 1 - pre.length = N - pre.length + 1 by omega, List.replicate_succ]
  rw [hrep] at hrow
  have put : ∀ (w4 : World) (x : ByteArray), Ext w3 w4 → Wr w4 ((⟨w1.heap.size, 0, none⟩ : Addr).add ((pre.length : Int).toNat * 1)) ∧ ∀ w5, w5 = w4.setCell ((⟨w1.heap.size, 0, none⟩ : Addr).add ((pre.length : Int).toNat * 1)) (.string x) →
      Row w5 w1.heap.size ((pre ++ [x]).flatMap cS ++ List.replicate (N - pre.length) (.string (⟨#[]⟩ : ByteArray))) 9 ∧ Ext w1 w5 := fun w4 x e4 => by
    obtain ⟨h1, h2⟩ := (hrow.ext e4).setMid (p := (⟨w1.heap.size, 0, none⟩ : Addr).add ((pre.length : Int).toNat * 1)) (by rw [at_idx1, flatMap_len cS_len, Nat.mul_one]) (.string x)
    refine ⟨h1, fun w5 hw5 => ⟨?_, ?_⟩⟩
    · rw [hw5]; simpa [cS] using h2
    · rw [hw5]; exact (e3.trans e4).set (by rw [at_idx1, add_b]; exact Nat.le_refl _) _
  have fin : ∀ (w4 : World), Ext w3 w4 → (47 : UInt8) ∉ t.data.toList → pre.length = N →
      ((0 : Int) ≤ (pre.length : Int) ∧ (pre.length : Int) < ((((N + 1 : Nat) : Int).toNat : Nat) : Int)) ∧ Wr w4 ((⟨w1.heap.size, 0, none⟩ : Addr).add ((pre.length : Int).toNat * 1)) ∧ letW (w4.setCell ((⟨w1.heap.size, 0, none⟩ : Addr).add ((pre.length : Int).toNat * 1)) (.string t)) (fun w17 => InR .i64 ((pre.length : Int) + (1 : Int)) ∧ ((0 : Int) ≤ (0 : Int) ∧ (0 : Int) ≤ ((pre.length : Int) + (1 : Int)) ∧ ((pre.length : Int) + (1 : Int)) ≤ ((((N + 1 : Nat) : Int).toNat : Nat) : Int)) ∧
        ((∃ (l : Sl) (ws : List ByteArray), Value.slice (resl (some (⟨w1.heap.size, 0, none⟩ : Addr)) (((N + 1 : Nat) : Int).toNat) (0 : Int).toNat 1) (((pre.length : Int) + (1 : Int)).toNat - (0 : Int).toNat) ((((N + 1 : Nat) : Int).toNat) - (0 : Int).toNat) = .slice l.a l.len l.cap ∧ Strs w17 l ws ∧ 47 :: s.data.toList = slashed (ws.map fun x => x.data.toList) ∧ (∀ x ∈ ws, (47 : UInt8) ∉ x.data.toList) ∧ (∀ x ∈ ws, x.size ≤ 4000) ∧ ws.length ≤ 4001) ∧ Ext w w17)) := by
    intro w4 e4 hnt hpN
    obtain ⟨p1, p2⟩ := put w4 t e4
    refine ⟨⟨by omega, by omega⟩, p1, letW_i fun w5 hw5 => ⟨inR_i64 (by omega) (by omega), ⟨by omega, by omega, by omega⟩, ?_, ?_⟩⟩
    · obtain ⟨r5, e5⟩ := p2 w5 hw5
      rw [er]
      have h0 : N - pre.length = 0 := by omega
      rw [h0, List.replicate_zero, List.append_nil] at r5
      have hS : Strs w5 ⟨some ⟨w1.heap.size, 0, none⟩, (pre ++ [t]).length, N + 1⟩ (pre ++ [t]) := r5.slOf (by simp; omega)
      refine ⟨⟨some ⟨w1.heap.size, 0, none⟩, (pre ++ [t]).length, N + 1⟩, pre ++ [t], ?_, hS, ?_, ?_, ?_, by simp; omega⟩
      · have a1 : ((pre.length : Int) + 1).toNat - (0 : Int).toNat = (pre ++ [t]).length := by simp
        have a2 : (((N + 1 : Nat) : Int).toNat) - (0 : Int).toNat = N + 1 := by simp
        rw [a1, a2]
      · rw [hst, slashed_pre]; simp
      · intro x hx
        rcases List.mem_append.1 hx with hx | hx
        · exact hno x hx
        · simp at hx; rw [hx]; exact hnt
      · intro x hx
        rcases List.mem_append.1 hx with hx | hx
        · exact hpsz x hx
        · simp at hx; rw [hx]; omega
    · exact e1.trans (p2 w5 hw5).2
  refine br_d (fun h1 => ?_) (fun h1 => ?_)
  · have hlt : pre.length < N := by omega
    refine (c_Index1 t 47 w3).go fun w4 e4 => ⟨_, rfl, ?_⟩
    rcases indexByte_spec 47 t.data.toList with ⟨h2, h3⟩ | ⟨p, q, h2, h3, h4⟩
    · exfalso
      rw [List.count_eq_zero.2 h3] at hct; omega
    rw [h4, one]
    have hpq : p.length + 1 + q.length = t.size := by rw [size_eq, h2]; simp; omega
    have x1 : t.extract (0 : Int).toNat ((p.length : Int) + 0).toNat = bstr p := by
      have : ((p.length : Int) + 0).toNat = p.length := by omega
      rw [this]; exact ext_pre h2
    have x2 : t.extract ((p.length : Int) + 1).toNat (t.size : Int).toNat = bstr q := by
      unfold bstr
      apply ByteArray.ext
      apply Array.ext'
      have a1 : ((p.length : Int) + 1).toNat = p.length + 1 := by omega
      have a2 : ((t.size : Nat) : Int).toNat = t.size := by omega
      rw [a1, a2]
      rw [← hpq]
      simp [h2]
    rw [x1, x2]
    obtain ⟨p1, p2⟩ := put w4 (bstr p) e4
    refine br_df (by omega) ⟨inR_i64 (by omega) (by omega), ⟨by omega, by omega, by omega⟩, ⟨by omega, by omega⟩, p1, letW_i fun w5 hw5 => ⟨inR_i64 (by omega) (by omega), ⟨by omega, by omega, by omega⟩, inR_i64 (by omega) (by omega), ?_⟩⟩
    obtain ⟨r5, e5⟩ := p2 w5 hw5
    refine hK _ _ ⟨e5, pre ++ [bstr p], by simp, by simp; omega, ?_, ?_, ?_, ?_, ?_⟩ ?_
    · rw [hst, h2]; simp [bstr_data]
    · rw [h2, List.count_append, List.count_cons_self, List.count_eq_zero.2 h3] at hct
      simp only [bstr_data, List.length_append, List.length_cons, List.length_nil]; omega
    · intro x hx
      rcases List.mem_append.1 hx with hx | hx
      · exact hno x hx
      · simp at hx; rw [hx, bstr_data]; exact h3
    · intro x hx
      rcases List.mem_append.1 hx with hx | hx
      · exact hpsz x hx
      · simp at hx; rw [hx, bstr_size]; omega
    · have : N + 1 - (pre ++ [bstr p]).length = N - pre.length := by simp
      rw [this]; exact r5
    · dsimp only; omega
  · have hpN : pre.length = N := by omega
    exact fin w3 (Ext.refl _) (List.count_eq_zero.1 (by omega)) hpN

theorem c_impl_readStep (s : ByteArray) (w : World) (hs : s.size ≤ 4000) :
    CallR Tryd.prog 22 [.string s] w (fun v w' => ((∃ x, unesc s.data.toList = some x ∧ v = .tuple #[.string (bstr x), .bool true]) ∨ (unesc s.data.toList = none ∧ v = .tuple #[.string ⟨#[]⟩, .bool false])) ∧ Ext w w') := by
  refine fn_impl_readStep _ _ _ ?_
  unfold g_impl_readStep
  refine letW_i fun w1 hw1 => ?_
  have e1 : Ext w w1 := by rw [hw1]; exact (Ext.refl w).alloc _
  have d1 : Bd w.heap.size w.heap.size [] w1 := by rw [hw1]; exact Bd.new w
  have hsz := size_eq s
  refine sLoop.intro (fun st w' => Ext w w' ∧ ∃ pre rest done : List UInt8, s.data.toList = pre ++ rest ∧ st.1 = (pre.length : Int) ∧ Bd w.heap.size w.heap.size done w' ∧ done.length ≤ pre.length ∧ unesc s.data.toList = (unesc rest).map (done ++ ·)) (fun st _ => s.size - st.1.toNat)
    ⟨e1, [], s.data.toList, [], rfl, rfl, d1, Nat.le_refl _, by simp⟩ ?_
  rintro ⟨i, u⟩ w2 K ⟨e2, pre, rest, done, hx, hi, d2, hdl, hun⟩ hK _
  simp only at hi
  subst hi
  dsimp only
  have hpr : pre.length + rest.length = s.size := by rw [hsz, hx]; simp
  cases rest with
  | nil =>
    simp only [List.length_nil] at hpr
    refine br_df (by omega) ((c_String d2 e2.size).mono ?_)
    rintro _ w3 ⟨rfl, e3⟩
    exact ⟨_, rfl, .inl ⟨done, by rw [hun]; simp [unesc], rfl⟩, Below.trans e2 e3⟩
  | cons c r =>
    simp only [List.length_cons] at hpr
    have hb := byteAt_mid hx
    rw [hb]
    have bad : unesc (c :: r) = none → (((∃ x, unesc s.data.toList = some x ∧ Value.tuple #[.string (⟨#[]⟩ : ByteArray), .bool false] = .tuple #[.string (bstr x), .bool true]) ∨ (unesc s.data.toList = none ∧ Value.tuple #[.string (⟨#[]⟩ : ByteArray), .bool false] = .tuple #[.string ⟨#[]⟩, .bool false])) ∧ Ext w w2) := fun h => ⟨.inr ⟨by rw [hun, h]; rfl, rfl⟩, e2⟩
    refine br_dt (by omega) ⟨⟨by omega, by omega⟩, ?_⟩
    by_cases hc : c = 126
    · subst hc
      have t1 : (((126 : UInt8).toNat : Int) == 126) = true := rfl
      rw [t1]
      refine br_t rfl ⟨inR_i64 (by omega) (by omega), ?_⟩
      cases r with
      | nil =>
        simp only [List.length_nil] at hpr
        exact br_df (by omega) (br_df (by omega) (bad (by simp [unesc])))
      | cons d r =>
        simp only [List.length_cons] at hpr
        have hx2 : s.data.toList = (pre ++ [126]) ++ d :: r := by rw [hx]; simp
        have hb2 := byteAt_mid hx2
        have hl2 : ((pre ++ [126]).length : Int) = (pre.length : Int) + 1 := by simp
        rw [hl2] at hb2
        rw [hb2]
        have go : ∀ (u : UInt8) (cc : Int), cc = (u.toNat : Int) → unesc (126 :: d :: r) = (unesc r).map (u :: ·) → CallR Tryd.prog 27 [.pointer (some (⟨w.heap.size, 0, none⟩ : Addr)), .int .u8 cc] w2 (fun r6 w7 => ∃ v8 : Value, r6 = v8 ∧ InR .i64 (((pre.length : Int) + (1 : Int)) + (1 : Int)) ∧ K ((((pre.length : Int) + (1 : Int)) + (1 : Int)), ()) w7) := fun u cc hcc hu => by
          refine (c_WriteByte u hcc d2 (by omega) e2.size).mono ?_
          rintro _ w3 ⟨rfl, d3, e3⟩
          refine ⟨_, rfl, inR_i64 (by omega) (by omega), hK _ _ ⟨Below.trans e2 e3, pre ++ [126, d], r, done ++ [u], by rw [hx]; simp, by simp; omega, d3, by simp; omega, ?_⟩ (by dsimp only; omega)⟩
          rw [hun, hu, Option.map_map]
          congr 1
          funext z; simp
        refine br_dt (by omega) ⟨⟨by omega, by omega⟩, ?_⟩
        by_cases h48 : d = 48
        · subst h48
          exact br_t rfl (go 126 _ rfl (by simp [unesc]))
        · have n48 : ((d.toNat : Int) == 48) = false := by
            cases hq : ((d.toNat : Int) == 48) with
            | false => rfl
            | true => exact absurd (u8_eq (c := d) (d := 48) (by simpa using hq)) h48
          rw [n48]
          refine br_f rfl (br_dt (by omega) ⟨⟨by omega, by omega⟩, ?_⟩)
          by_cases h49 : d = 49
          · subst h49
            exact br_t rfl (go 47 _ rfl (by simp [unesc]))
          · have n49 : ((d.toNat : Int) == 49) = false := by
              cases hq : ((d.toNat : Int) == 49) with
              | false => rfl
              | true => exact absurd (u8_eq (c := d) (d := 49) (by simpa using hq)) h49
            rw [n49]
            exact br_f rfl (bad (by simp [unesc, h48, h49]))
    · have n1 : ((c.toNat : Int) == 126) = false := by
        cases hq : ((c.toNat : Int) == 126) with
        | false => rfl
        | true => exact absurd (u8_eq (c := c) (d := 126) (by simpa using hq)) hc
      rw [n1]
      refine br_f rfl ((c_WriteByte c rfl d2 (by omega) e2.size).mono ?_)
      rintro _ w3 ⟨rfl, d3, e3⟩
      refine ⟨_, rfl, inR_i64 (by omega) (by omega), hK _ _ ⟨Below.trans e2 e3, pre ++ [c], r, done ++ [c], by rw [hx]; simp, by simp, d3, by simp; omega, ?_⟩ (by dsimp only; omega)⟩
      rw [hun, unesc_cons hc, Option.map_map]
      congr 1
      funext z; simp
end Go.Proofs

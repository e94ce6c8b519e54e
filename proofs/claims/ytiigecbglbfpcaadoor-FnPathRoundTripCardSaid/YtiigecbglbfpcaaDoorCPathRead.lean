/-
  What functions of this seat compute, part 'PathRead': contracts over their readable predicates. Conditions: each theorem's own hypotheses.
-/
import Derived.Test.YtiigecbglbfpcaaDoorBase
import Derived.Test.YtiigecbglbfpcaaDoorOpen
import Derived.Test.YtiigecbglbfpcaaDoorGen
import Derived.Test.YtiigecbglbfpcaaDoorCPathText
import Derived.Test.YtiigecbglbfpcaaDoorCBstr2
import Derived.Test.YtiigecbglbfpcaaDoorCPathPlain
import Derived.Test.YtiigecbglbfpcaaDoorCPathParse
namespace Go.Proofs
open Go Go.Vc Go.RowKit
set_option maxRecDepth 100000
set_option linter.unusedVariables false
--! C:PathText C:Bstr2 C:PathPlain C:PathParse
/-! ## Pointers: ParsePath -/

theorem br_T (A B : Prop) : br true A B = A := rfl
theorem br_F (A B : Prop) : br false A B = B := rfl

/-- Two owned slices of different types lie apart. -/
theorem own_apart {b1 b2 n1 n2 : Nat} {t1 t2 : TypeId} {w : World} {s1 s2 : Sl} {v1 v2 : List Value} (h : Own b1 t1 n1 w s1 v1) (k : Own b2 t2 n2 w s2 v2) (hne : t1 ≠ t2) : s1.v.ownBlock = none ∨ s1.v.ownBlock ≠ s2.v.ownBlock := by
  rcases h.2 with ⟨hv, _⟩ | ⟨g, cap, cur, hv, _, hg, _⟩
  · left; rw [hv]; rfl
  · right
    rcases k.2 with ⟨hv', _⟩ | ⟨g', cap', cur', hv', _, hg', _⟩
    · rw [hv, hv']; simp [Value.ownBlock]
    · rw [hv, hv']
      simp only [Value.ownBlock, ne_eq, Option.some.injEq]
      rintro rfl
      rw [hg] at hg'
      simp only [Option.some.injEq, Obj.cells.injEq] at hg'
      exact hne hg'.2.1

theorem cU_one (x : UInt8) : ∀ u ∈ cU x, u.oneCell' = true := by intro u hu; simp [cU] at hu; subst hu; rfl
theorem cS_one (x : ByteArray) : ∀ u ∈ cS x, u.oneCell' = true := by intro u hu; simp [cS] at hu; subst hu; rfl

theorem c_impl_ParsePath (s : ByteArray) (w : World) (hs : s.size ≤ 1048576) :
    CallR Tryd.prog 8 [.string s] w (fun v w' => ((∃ (l : Sl) (xs : List ByteArray), IsPath s xs ∧ v = .tuple #[.slice l.a l.len l.cap, .bool true] ∧ Own w.heap.size 9 1 w' l (xs.flatMap cS)) ∨ ((∀ xs, ¬ IsPath s xs) ∧ v = .tuple #[.slice none 0 0, .bool false])) ∧ Ext w w') := by
  refine fn_impl_ParsePath _ _ _ ?_
  unfold g_impl_ParsePath
  have hsz := size_eq s
  refine br_d (fun h => ⟨.inr ⟨fun xs hx => by have := hx.size; omega, rfl⟩, Ext.refl _⟩) (fun h0 => ?_)
  rw [seqB_eq]
  refine br_d (fun h => ⟨.inl ⟨⟨none, 0, 0⟩, [], ⟨rfl, by rw [h]; rfl, by omega⟩, rfl, Own.nil w _ _ _⟩, Ext.refl _⟩) (fun h1 => ?_)
  obtain ⟨c, r, hcr⟩ : ∃ c r, s.data.toList = c :: r := by
    cases hd : s.data.toList with
    | nil => exact absurd (by rw [← bstr_self s, hd]; rfl) h1
    | cons c r => exact ⟨c, r, rfl⟩
  have hlen : r.length + 1 = s.size := by rw [hsz, hcr]; rfl
  have hb := byteAt_mid (pre := []) hcr
  have hb' : byteAt s 0 = (c.toNat : Int) := hb
  rw [hb']
  refine ⟨⟨by omega, by omega⟩, br_i (fun h2 => ⟨.inr ⟨fun xs hx => ?_, rfl⟩, Ext.refl _⟩) (fun h2 => ⟨⟨by omega, by omega, by omega⟩, ?_⟩)⟩
  · have ht := hx.txt
    rw [hcr] at ht
    cases xs with
    | nil => simp [pathText] at ht
    | cons x xs =>
      simp [pathText] at ht
      rw [← ht.1] at h2; simp at h2
  have hc : c = 47 := u8_eq (by simpa using h2)
  subst hc
  have hx1 : s.extract (1 : Int).toNat (s.size : Int).toNat = bstr r := by
    unfold bstr
    apply ByteArray.ext
    apply Array.ext'
    have a2 : ((s.size : Nat) : Int).toNat = r.length + 1 := by omega
    rw [a2]
    simp [hcr]
  rw [hx1]
  refine (c_strings_Split (bstr r) w (by rw [bstr_size]; omega)).mono ?_
  rintro _ w1 ⟨⟨l, ws, rfl, hS, htx, hno, hwz, hwl⟩, e1⟩
  rw [bstr_data] at htx
  have hsl : s.data.toList = slashed (ws.map fun x => x.data.toList) := by rw [hcr, htx]
  refine ⟨l, rfl, ?_⟩
  have hll := hS.len
  have bad : ∀ x ∈ ws, unesc x.data.toList = none → ∀ xs, ¬ IsPath s xs := fun x hx hu xs hp => by
    have h3 := hp.txt
    rw [pathText_slashed, hsl] at h3
    have h4 := slashed_inj (by intro y hy; obtain ⟨z, _, rfl⟩ := List.mem_map.1 hy; exact escS_no _) (by intro y hy; obtain ⟨z, hz, rfl⟩ := List.mem_map.1 hy; exact hno z hz) h3
    have h5 : x.data.toList ∈ xs.map fun x => escS x.data.toList := by rw [h4]; exact List.mem_map_of_mem hx
    obtain ⟨y, _, hy⟩ := List.mem_map.1 h5
    rw [← hy, unesc_escS] at hu; cases hu
  refine sLoop_list ws (fun pre t w' => Ext w1 w' ∧ ∃ xs : List ByteArray, Own w1.heap.size 9 1 w' t.1 (xs.flatMap cS) ∧ (pre.map fun x => x.data.toList) = (xs.map fun x => escS x.data.toList)) ⟨Ext.refl _, [], Own.nil _ _ _ _, rfl⟩ ?_ ?_
  · rintro K pre post x ⟨t, u⟩ w2 hx ⟨e2, xs, o2, hm⟩ hK _
    have hm' := mid_len hx
    have hxm : x ∈ ws := by rw [hx]; simp
    have hxl : xs.length = pre.length := by have := congrArg List.length hm; simpa using this.symm
    obtain ⟨a, ha, hc⟩ := (hS.ext e2).sm hx
    refine br_dt (by omega) (onSome_i ha ⟨⟨by omega, by omega⟩, _, hc, (c_impl_readStep x w2 (hwz x hxm)).mono ?_⟩)
    rintro _ w3 ⟨h3, e3⟩
    have e13 := e2.trans e3
    rcases h3 with ⟨y, hy, rfl⟩ | ⟨hu, rfl⟩
    · refine ⟨_, _, rfl, br_f rfl ?_⟩
      refine push1 (x := bstr y) cS_len (by decide) (cS_one _) (o2.ext e3) e13.size (by omega) (by decide) fun s' wm w' hl' o' em om hg => ?_
      refine ⟨inR_i64 (by omega) (by omega), hK _ _ ⟨(e13.trans em).own om hg (Nat.le_refl _), xs ++ [bstr y], o', ?_⟩⟩
      rw [List.map_append, List.map_append, hm]
      simp only [List.map_cons, List.map_nil, bstr_data, escS_unesc _ _ (hno x hxm) hy]
    · exact ⟨_, _, rfl, br_t rfl ⟨.inr ⟨bad x hxm hu, rfl⟩, e1.trans e13⟩⟩
  · rintro K ⟨t, u⟩ w2 ⟨e2, xs, o2, hm⟩ _
    have hst : Strs w2 t xs := o2.slOf cS_len (by decide)
    have htx : pathText xs = s.data.toList := by rw [pathText_slashed, ← hm, hsl]
    refine br_df (by omega) ((c_impl_isPath hst).go fun w3 e3 => ⟨_, rfl, br_i (fun h => ⟨.inr ⟨fun ys hy => ?_, rfl⟩, e1.trans (e2.trans e3)⟩) (fun h => ⟨.inl ⟨t, xs, ⟨by simpa using h, htx, by omega⟩, rfl, (o2.ext e3).base_le e1.size⟩, e1.trans (e2.trans e3)⟩)⟩)
    have := pathText_inj (hy.txt.trans htx.symm)
    rw [← this, hy.ok] at h; cases h

theorem c_spec_parsePath (s : ByteArray) (w : World) (hs : s.size ≤ 4000) :
    CallR Tryd.prog 24 [.string s] w (fun v w' => (∃ (l : Sl) (xs : List ByteArray), v = .slice l.a l.len l.cap ∧ Own w.heap.size 9 1 w' l (xs.flatMap cS) ∧ (s.data.toList ≠ [] → (xs.map fun x => x.data.toList) = parseF s.data.toList true [] []) ∧ (s.data.toList = [] → xs = []) ∧ xs.length ≤ 4001 ∧ (∀ x ∈ xs, x.size ≤ 4000)) ∧ Ext w w') := by
  refine fn_spec_parsePath _ _ _ ?_
  unfold g_spec_parsePath
  have hsz := size_eq s
  refine letW_i fun w1 hw1 => letW_i fun w2 hw2 => ?_
  have e1 : Ext w w1 := by rw [hw1]; exact (Ext.refl w).alloc _
  have e12 : Ext w1 w2 := by rw [hw2]; exact (Ext.refl w1).alloc _
  have o1 : Own w.heap.size 9 1 w1 ⟨some ⟨w.heap.size, 0, none⟩, 0, 0⟩ ((([] : List ByteArray)).flatMap cS) := by rw [hw1]; exact Own.fresh w _ 1 _ (Nat.le_refl _)
  have o2 : Own w.heap.size 5 1 w2 ⟨some ⟨w1.heap.size, 0, none⟩, 0, 0⟩ ((([] : List UInt8)).flatMap cU) := by rw [hw2]; exact Own.fresh w1 _ 1 _ e1.size
  refine sLoop.intro (fun st w' => Ext w w' ∧ ∃ (pre rest : List UInt8) (out : List ByteArray) (now : List UInt8), s.data.toList = pre ++ rest ∧ st.1 = (pre.length : Int) ∧ Own w.heap.size 9 1 w' st.2.1 (out.flatMap cS) ∧ Own w.heap.size 5 1 w' st.2.2.1 (now.flatMap cU) ∧
      parseF s.data.toList true [] [] = parseF rest (decide (pre = [])) (out.map fun x => x.data.toList) now ∧ out.length ≤ pre.length ∧ now.length ≤ pre.length ∧ (∀ x ∈ out, x.size ≤ 4000)) (fun st _ => s.size - st.1.toNat)
    ⟨e1.trans e12, [], s.data.toList, [], [], rfl, rfl, o1.ext e12, o2, rfl, Nat.le_refl _, Nat.le_refl _, by simp⟩ ?_
  rintro ⟨i, lo, ln, u⟩ w3 K ⟨e3, pre, rest, out, now, hx, hi, oo, on, hP, hol, hnl, hos⟩ hK _
  simp only at hi oo on
  subst hi
  dsimp only
  have hpr : pre.length + rest.length = s.size := by rw [hsz, hx]; simp
  have hap := own_apart oo on (by decide)
  have hap' := own_apart on oo (by decide)
  have hnB : Bytes w3 ln now := on.slOf cU_len (by decide)
  -- one more byte
  have push : ∀ (c : UInt8) (cc : Int) (K' : Sl → World → Prop), cc = (c.toNat : Int) → (∀ l' w', Own w.heap.size 5 1 w' l' ((now ++ [c]).flatMap cU) → Own w.heap.size 9 1 w' lo (out.flatMap cS) → Ext w w' → K' l' w') →
      letW (w3.alloc (.cells #[.int .u8 cc] 5)) (fun w => sAppend 5 1 1 ⟨ln.a, ln.len, ln.cap⟩ ⟨(some (⟨w3.heap.size, 0, none⟩ : Addr)), 1, 1⟩ w K') := fun c cc K' hcc hk => by
    subst hcc
    refine push1 (c := cU) (x := c) cU_len (by decide) (cU_one _) on e3.size (by omega) (by decide) fun s' wm w' hl' o' em om hg => ?_
    exact hk s' w' o' ((oo.ext em).kept hg hap) ((e3.trans em).own om hg (Nat.le_refl _))
  -- one more step
  have pushS : ∀ (K' : Sl → World → Prop), (∀ l' w', Own w.heap.size 9 1 w' l' ((out ++ [bstr now]).flatMap cS) → Ext w w' → K' l' w') →
      sStr ⟨ln.a, ln.len, ln.cap⟩ w3 (fun s7 => letW (w3.alloc (.cells #[.string s7] 9)) (fun w => sAppend 9 1 16 ⟨lo.a, lo.len, lo.cap⟩ ⟨(some (⟨w3.heap.size, 0, none⟩ : Addr)), 1, 1⟩ w K')) := fun K' hk => by
    refine sStr_of (bs := now) hnB ?_
    refine push1 (c := cS) (x := bstr now) cS_len (by decide) (cS_one _) oo e3.size (by omega) (by decide) fun s' wm w' hl' o' em om hg => ?_
    exact hk s' w' o' ((e3.trans em).own om hg (Nat.le_refl _))
  have outs : ∀ x ∈ out ++ [bstr now], x.size ≤ 4000 := fun x hx' => by
    rcases List.mem_append.1 hx' with h | h
    · exact hos x h
    · simp at h; rw [h, bstr_size]; omega
  cases rest with
  | nil =>
    simp only [List.length_nil] at hpr
    refine br_df (by omega) (br_d (fun hp => ?_) (fun hp => ?_))
    · refine pushS _ fun l' w' o' e' => ⟨⟨l', out ++ [bstr now], rfl, o', fun _ => ?_, fun h => ?_, by simp; omega, outs⟩, e'⟩
      · rw [hP]; simp [parseF, bstr_data]
      · exfalso; rw [hsz, h] at hp; simp at hp
    · have h0 : pre = [] := List.eq_nil_of_length_eq_zero (by omega)
      have ho0 : out = [] := List.eq_nil_of_length_eq_zero (by omega)
      subst ho0
      refine ⟨⟨lo, [], rfl, oo, fun h => ?_, fun _ => rfl, by simp, by simp⟩, e3⟩
      exfalso; apply h; rw [hx, h0]; rfl
  | cons c r =>
    simp only [List.length_cons] at hpr
    have hb := byteAt_mid hx
    have one1 : ∀ l' w', Own w.heap.size 5 1 w' l' ((now ++ [c]).flatMap cU) → Own w.heap.size 9 1 w' lo (out.flatMap cS) → Ext w w' →
        parseF (c :: r) (decide (pre = [])) (out.map fun x => x.data.toList) now = parseF r false (out.map fun x => x.data.toList) (now ++ [c]) → K ((pre.length : Int) + 1, lo, l', ()) w' := fun l' w' o1 o2 e' hp => by
      refine hK _ _ ⟨e', pre ++ [c], r, out, now ++ [c], by rw [hx]; simp, by simp, o2, o1, ?_, by simp; omega, by simp; omega, hos⟩ (by dsimp only; omega)
      rw [hP, hp]
      have : decide (pre ++ [c] = []) = false := by simp
      rw [this]
    by_cases h47 : c = 47
    · subst h47
      have k1 : (byteAt s (pre.length : Int) == 47) = true := by rw [hb]; rfl
      rw [k1]
      refine br_dt (by omega) ⟨⟨by omega, by omega⟩, br_t rfl (br_d (fun hp => ?_) (fun hp => ?_))⟩
      · refine pushS _ fun l' w' o' e' => letW_i fun w5 hw5 => ⟨inR_i64 (by omega) (by omega), hK _ _ ⟨?_, pre ++ [47], r, out ++ [bstr now], [], by rw [hx]; simp, by simp, ?_, ?_, ?_, by simp; omega, by simp, outs⟩ (by dsimp only; omega)⟩
        · rw [hw5]; exact e'.alloc _
        · rw [hw5]; exact o'.ext ((Ext.refl _).alloc _)
        · rw [hw5]; exact Own.fresh w' _ 1 _ e'.size
        · have hpn : pre ≠ [] := by rintro rfl; simp at hp
          rw [hP, parseF_slash]
          simp [hpn, bstr_data]
      · have h0 : pre = [] := List.eq_nil_of_length_eq_zero (by omega)
        subst h0
        have ho0 : out = [] := List.eq_nil_of_length_eq_zero (by simpa using hol)
        subst ho0
        refine letW_i fun w5 hw5 => ⟨inR_i64 (by omega) (by omega), hK _ _ ⟨?_, [47], r, [], [], by rw [hx]; simp, by simp, ?_, ?_, ?_, by simp, by simp, by simp⟩ (by dsimp only; omega)⟩
        · rw [hw5]; exact e3.alloc _
        · rw [hw5]; exact oo.ext ((Ext.refl _).alloc _)
        · rw [hw5]; exact Own.fresh w3 _ 1 _ e3.size
        · rw [hP, parseF_slash]; simp
    have k1 : (byteAt s (pre.length : Int) == 47) = false := by
      rw [hb]
      cases hq : ((c.toNat : Int) == 47) with
      | false => rfl
      | true => exact absurd (u8_eq (c := c) (d := 47) (by simpa using hq)) h47
    have k0 : decide ((pre.length : Int) < (s.size : Int)) = true := decide_eq_true (by omega)
    by_cases h126 : c = 126
    · subst h126
      have k2 : (byteAt s (pre.length : Int) == 126) = true := by rw [hb]; rfl
      cases r with
      | nil =>
        simp only [List.length_nil] at hpr
        have k3 : decide ((pre.length : Int) + 1 < (s.size : Int)) = false := decide_eq_false (by omega)
        simp only [k0, k1, k2, k3, br_T, br_F]
        repeat (first | refine ⟨⟨by omega, by omega⟩, ?_⟩ | refine ⟨inR_i64 (by omega) (by omega), ?_⟩)
        exact push 126 _ _ hb fun l' w' o1 o2 e' => ⟨inR_i64 (by omega) (by omega), one1 l' w' o1 o2 e' (by simp [parseF])⟩
      | cons d r =>
        simp only [List.length_cons] at hpr
        have k3 : decide ((pre.length : Int) + 1 < (s.size : Int)) = true := decide_eq_true (by omega)
        have hx2 : s.data.toList = (pre ++ [126]) ++ d :: r := by rw [hx]; simp
        have hb2 := byteAt_mid hx2
        have hl2 : ((pre ++ [126]).length : Int) = (pre.length : Int) + 1 := by simp
        rw [hl2] at hb2
        have two : ∀ (u : UInt8) (l' : Sl) (w' : World), Own w.heap.size 5 1 w' l' ((now ++ [u]).flatMap cU) → Own w.heap.size 9 1 w' lo (out.flatMap cS) → Ext w w' →
            parseF (126 :: d :: r) (decide (pre = [])) (out.map fun x => x.data.toList) now = parseF r false (out.map fun x => x.data.toList) (now ++ [u]) → K ((pre.length : Int) + 1 + 1, lo, l', ()) w' := fun u l' w' o1 o2 e' hp => by
          refine hK _ _ ⟨e', pre ++ [126, d], r, out, now ++ [u], by rw [hx]; simp, by simp; omega, o2, o1, ?_, by simp; omega, by simp; omega, hos⟩ (by dsimp only; omega)
          rw [hP, hp]
          have : decide (pre ++ [126, d] = []) = false := by simp
          rw [this]
        by_cases h48 : d = 48
        · subst h48
          have k4 : (byteAt s ((pre.length : Int) + 1) == 48) = true := by rw [hb2]; rfl
          simp only [k0, k1, k2, k3, k4, br_T, br_F]
          repeat (first | refine ⟨⟨by omega, by omega⟩, ?_⟩ | refine ⟨inR_i64 (by omega) (by omega), ?_⟩)
          exact push 126 _ _ rfl fun l' w' o1 o2 e' => ⟨inR_i64 (by omega) (by omega), inR_i64 (by omega) (by omega), two 126 l' w' o1 o2 e' (by simp [parseF])⟩
        have k4 : (byteAt s ((pre.length : Int) + 1) == 48) = false := by
          rw [hb2]
          cases hq : ((d.toNat : Int) == 48) with
          | false => rfl
          | true => exact absurd (u8_eq (c := d) (d := 48) (by simpa using hq)) h48
        by_cases h49 : d = 49
        · subst h49
          have k5 : (byteAt s ((pre.length : Int) + 1) == 49) = true := by rw [hb2]; rfl
          simp only [k0, k1, k2, k3, k4, k5, br_T, br_F]
          repeat (first | refine ⟨⟨by omega, by omega⟩, ?_⟩ | refine ⟨inR_i64 (by omega) (by omega), ?_⟩)
          exact push 47 _ _ rfl fun l' w' o1 o2 e' => ⟨inR_i64 (by omega) (by omega), inR_i64 (by omega) (by omega), two 47 l' w' o1 o2 e' (by simp [parseF])⟩
        have k5 : (byteAt s ((pre.length : Int) + 1) == 49) = false := by
          rw [hb2]
          cases hq : ((d.toNat : Int) == 49) with
          | false => rfl
          | true => exact absurd (u8_eq (c := d) (d := 49) (by simpa using hq)) h49
        simp only [k0, k1, k2, k3, k4, k5, br_T, br_F]
        repeat (first | refine ⟨⟨by omega, by omega⟩, ?_⟩ | refine ⟨inR_i64 (by omega) (by omega), ?_⟩)
        exact push 126 _ _ hb fun l' w' o1 o2 e' => ⟨inR_i64 (by omega) (by omega), one1 l' w' o1 o2 e' (by simp [parseF, h48, h49])⟩
    · have k2 : (byteAt s (pre.length : Int) == 126) = false := by
        rw [hb]
        cases hq : ((c.toNat : Int) == 126) with
        | false => rfl
        | true => exact absurd (u8_eq (c := c) (d := 126) (by simpa using hq)) h126
      simp only [k0, k1, k2, br_T, br_F]
      repeat (first | refine ⟨⟨by omega, by omega⟩, ?_⟩ | refine ⟨inR_i64 (by omega) (by omega), ?_⟩)
      exact push c _ _ hb fun l' w' o1 o2 e' => ⟨inR_i64 (by omega) (by omega), one1 l' w' o1 o2 e' (parseF_plain h47 h126 _ _ _ _)⟩

theorem c_spec_ParsePath (s : ByteArray) (w : World) (hs : s.size ≤ 1048576) :
    CallR Tryd.prog 9 [.string s] w (fun v w' => ((∃ (l : Sl) (xs : List ByteArray), IsPath s xs ∧ v = .tuple #[.slice l.a l.len l.cap, .bool true] ∧ Own w.heap.size 9 1 w' l (xs.flatMap cS)) ∨ ((∀ xs, ¬ IsPath s xs) ∧ v = .tuple #[.slice none 0 0, .bool false])) ∧ Ext w w') := by
  refine fn_spec_ParsePath _ _ _ ?_
  unfold g_spec_ParsePath
  refine br_d (fun h => ⟨.inr ⟨fun xs hx => by have := hx.size; omega, rfl⟩, Ext.refl _⟩) (fun h0 => ?_)
  refine (c_spec_parsePath s w (by omega)).mono ?_
  rintro _ w1 ⟨⟨l, xs, rfl, o1, hp, hn, hl, hz⟩, e1⟩
  have only : ∀ ys, IsPath s ys → ys = xs := fun ys hy => by
    by_cases h : s.data.toList = []
    · rw [hn h]
      have := hy.txt
      rw [h] at this
      exact pathText_nil this
    · have h1 := hp h
      have h2 : ys ≠ [] := by rintro rfl; exact h (by rw [← hy.txt]; rfl)
      rw [← hy.txt, parseF_path h2] at h1
      exact (map_data_inj h1).symm
  have hS : Strs w1 l xs := o1.slOf cS_len (by decide)
  refine ⟨l, rfl, (c_spec_validPath hS (by unfold maxLen; omega) (fun x hx => by have := hz x hx; unfold maxLen; omega)).go fun w2 e2 => ⟨_, rfl, br_i (fun h => ⟨.inr ⟨fun ys hy => ?_, rfl⟩, e1.trans e2⟩) (fun h => ?_)⟩⟩
  · have := only ys hy
    subst this
    rw [hy.ok] at h; cases h
  have hok : okPath xs = true := by simpa using h
  have h5 := okPath_len hok
  refine (c_spec_formatPath (hS.ext e2) (by omega) (fun x hx => by have := okTxt_size (okPath_all hok x hx); omega)).go fun w3 e3 => ⟨_, rfl, ?_⟩
  rw [seqB_eq]
  refine br_i (fun h => ⟨.inr ⟨fun ys hy => ?_, rfl⟩, (e1.trans e2).trans e3⟩) (fun h => ⟨.inl ⟨l, xs, ⟨hok, ?_, by omega⟩, rfl, (o1.ext e2).ext e3⟩, (e1.trans e2).trans e3⟩)
  · have := only ys hy
    subst this
    rw [hy.txt, bstr_self] at h; simp at h
  · have : bstr (pathText xs) = s := by simpa using h
    rw [← this, bstr_data]
end Go.Proofs

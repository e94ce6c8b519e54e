/-
  What functions of this seat compute, part 'PathLaws3': contracts over their readable predicates. Conditions: each theorem's own hypotheses.
-/
import Derived.Test.YtiigecbglbfpcaaDoorBase
import Derived.Test.YtiigecbglbfpcaaDoorOpen
import Derived.Test.YtiigecbglbfpcaaDoorGen
import Derived.Test.YtiigecbglbfpcaaDoorCHelpS
import Derived.Test.YtiigecbglbfpcaaDoorCDraw
import Derived.Test.YtiigecbglbfpcaaDoorCPathDraw
import Derived.Test.YtiigecbglbfpcaaDoorCPathText
import Derived.Test.YtiigecbglbfpcaaDoorCBstr2
import Derived.Test.YtiigecbglbfpcaaDoorCPathPlain
import Derived.Test.YtiigecbglbfpcaaDoorCPathParse
import Derived.Test.YtiigecbglbfpcaaDoorCPathRead
import Derived.Test.YtiigecbglbfpcaaDoorCStrMark
namespace Go.Proofs
open Go Go.Vc Go.RowKit
set_option maxRecDepth 100000
set_option linter.unusedVariables false
--! C:HelpS C:Draw C:PathDraw C:PathText C:Bstr2 C:PathPlain C:PathParse C:PathRead C:StrMark
/-! ## Pointers: the laws on reading -/

theorem c_laws_equalTexts {s t : Sl} {xs ys : List ByteArray} {w : World} (h : Strs w s xs) (h' : Strs w t ys) (hl : xs.length ≤ maxLen) :
    CallR Tryd.prog 10 [.slice s.a s.len s.cap, .slice t.a t.len t.cap] w (fun v w' => v = .bool (decide (xs = ys)) ∧ Ext w w') := by
  refine fn_laws_equalTexts _ _ _ _ ?_
  unfold g_laws_equalTexts
  unfold maxLen at hl
  have hl0 := h.len
  have hl1 := h'.len
  refine br_i (fun hn => ⟨?_, Ext.refl _⟩) (fun hn => ?_)
  · have : xs ≠ ys := by rintro rfl; rw [hl0, hl1] at hn; simp at hn
    rw [decide_eq_false this]
  have hlen : xs.length = ys.length := by
    have : (s.len : Int) = (t.len : Int) := by simpa using hn
    omega
  refine sLoop_list xs (fun pre _ w' => Ext w w' ∧ ys.take pre.length = pre) ⟨Ext.refl _, by simp⟩ ?_ ?_
  · intro K pre post c u w1 hx ⟨he, ht⟩ hK _
    have hm := mid_len hx
    have hy : ys[pre.length]? = some ys[pre.length] := List.getElem?_eq_getElem (by omega)
    obtain ⟨a, ha, c0⟩ := (h.ext he).sm hx
    refine br_dt (by omega) fun w2 e2 => ?_
    obtain ⟨b, hb, c1⟩ := (h'.ext he).cell1 cS_len hy rfl
    refine onSome_i ha ⟨⟨by omega, by omega⟩, _, Ext.get e2 c0, onSome_i hb ⟨⟨by omega, by omega⟩, _, Ext.get e2 c1, ?_⟩⟩
    rw [seqB_eq]
    refine br_i (fun g => ⟨?_, he.trans e2⟩) (fun g => ⟨inR_i64 (by omega) (by omega), hK _ _ ⟨he.trans e2, ?_⟩⟩)
    · have hne : c ≠ ys[pre.length] := by simpa using g
      have : xs ≠ ys := by
        rintro rfl
        apply hne
        have := mid_get hx
        rw [hy] at this
        exact (Option.some.inj this).symm
      rw [decide_eq_false this]
    · have he2 : c = ys[pre.length] := by simpa using g
      rw [List.length_append, List.length_singleton, List.take_succ_eq_append_getElem (by omega), ht, ← he2]
  · intro K u w1 ⟨he, ht⟩ _
    have : xs = ys := by rw [hlen] at ht; rw [List.take_length] at ht; exact ht.symm
    refine br_df (by omega) ⟨by rw [decide_eq_true this], he⟩

/-- What reading gives. -/
def RdP (s : ByteArray) (xs : List ByteArray) (b : Bool) : Prop := (b = true ∧ IsPath s xs) ∨ (b = false ∧ xs = [] ∧ ∀ ys, ¬ IsPath s ys)

theorem RdP.unique {s : ByteArray} {xs ys : List ByteArray} {b c : Bool} (h : RdP s xs b) (k : RdP s ys c) : xs = ys ∧ b = c := by
  rcases h with ⟨rfl, h⟩ | ⟨rfl, rfl, h⟩ <;> rcases k with ⟨rfl, k⟩ | ⟨rfl, rfl, k⟩
  · exact ⟨h.unique k, rfl⟩
  · exact absurd h (k _)
  · exact absurd k (h _)
  · exact ⟨rfl, rfl⟩

theorem RdP.len {s : ByteArray} {xs : List ByteArray} {b : Bool} (h : RdP s xs b) : xs.length ≤ 5 := by
  rcases h with ⟨_, h⟩ | ⟨_, rfl, _⟩
  · exact okPath_len h.ok
  · simp

theorem parseI (s : ByteArray) (w : World) (hs : s.size ≤ 1048576) {K : Value → World → Prop} (hk : ∀ (l : Sl) (xs : List ByteArray) (b : Bool) w', RdP s xs b → Own w.heap.size 9 1 w' l (xs.flatMap cS) → Ext w w' → K (.tuple #[.slice l.a l.len l.cap, .bool b]) w') :
    CallR Tryd.prog 8 [.string s] w K := (c_impl_ParsePath s w hs).mono fun v w' ⟨h, e⟩ => by
  rcases h with ⟨l, xs, h1, rfl, o⟩ | ⟨h1, rfl⟩
  · exact hk l xs true w' (.inl ⟨rfl, h1⟩) o e
  · exact hk ⟨none, 0, 0⟩ [] false w' (.inr ⟨rfl, rfl, h1⟩) (Own.nil _ _ _ _) e

theorem parseS (s : ByteArray) (w : World) (hs : s.size ≤ 1048576) {K : Value → World → Prop} (hk : ∀ (l : Sl) (xs : List ByteArray) (b : Bool) w', RdP s xs b → Own w.heap.size 9 1 w' l (xs.flatMap cS) → Ext w w' → K (.tuple #[.slice l.a l.len l.cap, .bool b]) w') :
    CallR Tryd.prog 9 [.string s] w K := (c_spec_ParsePath s w hs).mono fun v w' ⟨h, e⟩ => by
  rcases h with ⟨l, xs, h1, rfl, o⟩ | ⟨h1, rfl⟩
  · exact hk l xs true w' (.inl ⟨rfl, h1⟩) o e
  · exact hk ⟨none, 0, 0⟩ [] false w' (.inr ⟨rfl, rfl, h1⟩) (Own.nil _ _ _ _) e

theorem own_kept_below {w w' : World} {l k : Sl} {xs : List ByteArray} {B : Nat} {T : TypeId} {vs : List Value} (h : Strs w l xs) (hl : ∀ a, l.a = some a → a.block < B) (ok : Own B T 1 w k vs) (hg : w.grownBy w' k.v.ownBlock) : Strs w' l xs :=
  h.grown hg fun a ha hk => by
    have h1 := hl a ha
    have h2 := (ok.lt _ hk.symm).1
    omega

theorem c_laws_FnExactParsePath (s : ByteArray) (hm : s.size ≤ maxLen) {w : World} : CallR Tryd.prog 5 [.string s] w (fun v w' => v = .bool true ∧ Ext w w') := by
  refine fn_laws_FnExactParsePath _ _ _ ?_
  unfold g_laws_FnExactParsePath
  refine br_d (fun _ => ⟨rfl, Ext.refl _⟩) (fun h => ?_)
  have hs : s.size ≤ 1048576 := by omega
  refine parseS s w hs fun l3 xs b4 w2 r3 o3 e2 => ⟨l3, b4, rfl, ?_⟩
  have h5 := r3.len
  have a3 : ∀ a, l3.a = some a → a.block < w2.heap.size := fun a ha => (o3.lt a.block (by simp [Sl.v, Value.ownBlock, ha])).2
  have s3 : Strs w2 l3 xs := o3.slOf cS_len (by decide)
  refine parseI s w2 hs fun l7 xs' b8 w6 r7 o7 e6 => ⟨l7, b8, rfl, ?_⟩
  obtain ⟨rfl, rfl⟩ := r3.unique r7
  have mx : xs.length ≤ maxLen := by unfold maxLen; omega
  refine (c_laws_eqStringS (o7.slOf cS_len (by decide)) (s3.ext e6) mx).go fun w10 e10 => ⟨_, rfl, br_f (by simp) (br_f (by simp) ?_)⟩
  have o10 := o7.ext e10
  refine (c_laws_markStringS 1 o10 (by have := e6.size; have := e10.size; omega) (by omega) (by omega) (by omega)).mono ?_
  rintro _ w13 ⟨rfl, o13, g13⟩
  have s13 : Strs w13 l3 xs := own_kept_below ((s3.ext e6).ext e10) a3 o10 g13
  have e13 : Ext w w13 := ((e2.trans e6).trans e10).own o10 g13 e2.size
  refine ⟨_, rfl, (c_laws_heldStringS (n := xs.length) 1 (o13.slOf cS_len (by decide)) (by omega) (by omega) (by omega)).go fun w16 e16 => ⟨_, rfl, br_df (by omega) (br_f (by simp) ?_)⟩⟩
  refine parseI s w16 hs fun l20 xs' b21 w19 r20 o20 e19 => ⟨l20, b21, rfl, ?_⟩
  obtain ⟨rfl, rfl⟩ := r3.unique r20
  refine (c_laws_eqStringS (o20.slOf cS_len (by decide)) ((s13.ext e16).ext e19) mx).go fun w23 e23 => ⟨_, rfl, br_f (by simp) (br_f (by simp) ?_)⟩
  exact (c_laws_heldStringS (n := xs.length) 1 ((((o13.ext e16).ext e19).ext e23).slOf cS_len (by decide)) (by omega) (by omega) (by omega)).go fun w26 e26 => ⟨_, rfl, br_df (by omega) (br_f (by simp) ⟨rfl, (((e13.trans e16).trans e19).trans e23).trans e26⟩)⟩

theorem pathStr_size {xs : List ByteArray} (hl : xs.length ≤ 6) (hz : ∀ x ∈ xs, x.size ≤ 16) : (pathStr xs).size ≤ 20000 := by
  unfold pathStr
  split
  · rw [bstr_size]
    have := pathText_len (xs := xs) (fun x hx => by have := hz x hx; omega)
    omega
  · rw [bstr_size]; simp

theorem c_spec_DrawParsePath {w : World} {s : Sl} {bs : List UInt8} (hs : Bytes w s bs) :
    CallR Tryd.prog 7 [.slice s.a s.len s.cap] w (fun v w' => (∃ x : ByteArray, v = .string x ∧ x.size ≤ 300000) ∧ Ext w w') := by
  refine fn_spec_DrawParsePath _ _ _ ?_
  unfold g_spec_DrawParsePath
  refine (c_spec_newReader hs).mono ?_
  rintro _ w1 ⟨rfl, h1, e1⟩
  have hlt := h1.lt
  refine ⟨_, rfl, (c_spec_anyPath h1 (by omega)).mono ?_⟩
  rintro _ w4 ⟨⟨l, xs, rfl, hw, apw, hwl, hws, _⟩, h4, c4⟩
  have e4 : Ext w w4 := e1.chg c4 (Nat.le_refl _)
  have m3 : ∀ x ∈ xs, x.size ≤ maxLen := fun x hx => by have := hws x hx; unfold maxLen; omega
  refine ⟨l, rfl, (c_spec_FormatPath hw (by unfold maxLen; omega) m3).go fun w5 e5 => ⟨_, rfl, ?_⟩⟩
  have hz := pathStr_size hwl hws
  refine (c_spec_reader_pick _ (h4.ext e5) (by omega) (by omega)).mono ?_
  rintro _ w6 ⟨⟨k, rfl, _⟩, h6, c6⟩
  have e6 := (e4.trans e5).chg c6 (Nat.le_refl _)
  refine ⟨_, rfl, br_i (fun _ => ?_) (fun _ => ⟨⟨_, rfl, by omega⟩, e6⟩)⟩
  refine (c_spec_mutate _ h6 (by omega) (by omega)).mono ?_
  rintro _ w7 ⟨⟨y, rfl, hy⟩, h7, c7⟩
  exact ⟨_, rfl, ⟨y, rfl, hy⟩, e6.chg c7 (Nat.le_refl _)⟩

theorem c_laws_FnPathCanonical {w : World} {s : Sl} {bs : List UInt8} (hs : Bytes w s bs) (_ : s.cap ≤ maxLen) : CallR Tryd.prog 3 [.slice s.a s.len s.cap] w (fun v w' => v = .bool true ∧ Ext w w') := by
  refine fn_laws_FnPathCanonical _ _ _ ?_
  unfold g_laws_FnPathCanonical
  refine br_d (fun _ => ⟨rfl, Ext.refl _⟩) (fun _ => ?_)
  refine (c_spec_DrawParsePath hs).mono ?_
  rintro _ w1 ⟨⟨x, rfl, hx⟩, e1⟩
  refine ⟨_, rfl, parseI x w1 (by omega) fun l xs b w2 r2 o2 e2 => ⟨l, b, rfl, parseS x w2 (by omega) fun l' xs' b' w3 r3 o3 e3 => ⟨l', b', rfl, ?_⟩⟩⟩
  obtain ⟨rfl, rfl⟩ := r2.unique r3
  have h5 := r2.len
  have s3 : Strs w3 l xs := (o2.ext e3).slOf cS_len (by decide)
  refine (c_laws_equalTexts s3 (o3.slOf cS_len (by decide)) (by unfold maxLen; omega)).go fun w4 e4 => ⟨_, rfl, br_f (by simp) (br_f (by simp) ?_)⟩
  have e04 := ((e1.trans e2).trans e3).trans e4
  refine br_i (fun _ => ⟨rfl, e04⟩) (fun hb => ?_)
  have hp : IsPath x xs := by
    rcases r2 with ⟨_, h⟩ | ⟨h, _⟩
    · exact h
    · rw [h] at hb; cases hb
  exact (c_impl_FormatPath (s3.ext e4)).go fun w5 e5 => ⟨_, rfl, by rw [hp.str]; simp [seqB_eq], e04.trans e5⟩

theorem c_spec_DrawFormatPath {w : World} {s : Sl} {bs : List UInt8} (hs : Bytes w s bs) :
    CallR Tryd.prog 12 [.slice s.a s.len s.cap] w (fun v w' => (∃ (l : Sl) (xs : List ByteArray), v = .slice l.a l.len l.cap ∧ Strs w' l xs ∧ xs.length ≤ 6 ∧ (∀ x ∈ xs, x.size ≤ 16)) ∧ Ext w w') := by
  refine fn_spec_DrawFormatPath _ _ _ ?_
  unfold g_spec_DrawFormatPath
  refine (c_spec_newReader hs).mono ?_
  rintro _ w1 ⟨rfl, h1, e1⟩
  have hlt := h1.lt
  refine ⟨_, rfl, (c_spec_anyPath h1 (by omega)).mono ?_⟩
  rintro _ w4 ⟨⟨lw, want, rfl, hw, apw, hwl, hws, _⟩, h4, c4⟩
  exact ⟨lw, rfl, ⟨lw, want, rfl, hw, hwl, hws⟩, e1.chg c4 (Nat.le_refl _)⟩

theorem slash_count {ws : List (List UInt8)} (h : ∀ x ∈ ws, (47 : UInt8) ∉ x) : (slashed ws).count 47 = ws.length := by
  induction ws with
  | nil => rfl
  | cons x r ih =>
    have h1 := h x List.mem_cons_self
    have e : slashed (x :: r) = 47 :: (x ++ slashed r) := by simp [slashed]
    rw [e, List.count_cons_self, List.count_append, List.count_eq_zero.2 h1, ih (fun y hy => h y (List.mem_cons_of_mem _ hy))]
    simp

theorem pathText_count (xs : List ByteArray) : (pathText xs).count 47 = xs.length := by
  rw [pathText_slashed, slash_count]
  · simp
  · intro y hy
    obtain ⟨z, _, rfl⟩ := List.mem_map.1 hy
    exact escS_no _

theorem pathStr_ne {xs : List ByteArray} (h : seqB (pathStr xs) (⟨#[]⟩ : ByteArray) = false) : okPath xs = true ∧ pathStr xs = bstr (pathText xs) ∧ xs ≠ [] := by
  have hok : okPath xs = true := by
    cases hv : okPath xs with
    | true => rfl
    | false =>
      rw [seqB_eq] at h
      exact absurd (by simp [pathStr, hv, bstr]) (of_decide_eq_false h)
  have hs : pathStr xs = bstr (pathText xs) := by simp [pathStr, hok]
  refine ⟨hok, hs, ?_⟩
  rintro rfl
  rw [seqB_eq] at h
  exact absurd (by rw [hs]; rfl) (of_decide_eq_false h)

theorem c_laws_FnPathSlash {w : World} {s : Sl} {bs : List UInt8} (hs : Bytes w s bs) (_ : s.cap ≤ maxLen) : CallR Tryd.prog 4 [.slice s.a s.len s.cap] w (fun v w' => v = .bool true ∧ Ext w w') := by
  refine fn_laws_FnPathSlash _ _ _ ?_
  unfold g_laws_FnPathSlash
  refine br_d (fun _ => ⟨rfl, Ext.refl _⟩) (fun _ => ?_)
  refine (c_spec_DrawFormatPath hs).mono ?_
  rintro _ w1 ⟨⟨l, xs, rfl, h1, hl, hsz⟩, e1⟩
  have m1 : xs.length ≤ maxLen := by unfold maxLen; omega
  have m3 : ∀ x ∈ xs, x.size ≤ maxLen := fun x hx => by have := hsz x hx; unfold maxLen; omega
  refine ⟨l, rfl, (c_impl_FormatPath h1).go fun w2 e2 => ⟨_, rfl, ?_⟩⟩
  refine (c_spec_FormatPath (h1.ext e2) m1 m3).go fun w3 e3 => ⟨_, rfl, br_f (by simp [seqB_eq]) ?_⟩
  have h3 := (h1.ext e2).ext e3
  have e03 := (e1.trans e2).trans e3
  refine br_i (fun _ => (c_spec_FormatPath h3 m1 m3).go fun w4 e4 => ⟨_, rfl, by simp [seqB_eq], e03.trans e4⟩) (fun h0 => ?_)
  obtain ⟨hok, hps, hne⟩ := pathStr_ne h0
  have hz := pathStr_size hl hsz
  obtain ⟨x, r, rfl⟩ : ∃ x r, xs = x :: r := by
    cases xs with
    | nil => exact absurd rfl hne
    | cons x r => exact ⟨x, r, rfl⟩
  have hdat : (pathStr (x :: r)).data.toList = 47 :: (escS x.data.toList ++ pathText r) := by rw [hps, bstr_data]; simp [pathText]
  have hlen := size_eq (pathStr (x :: r))
  rw [hdat] at hlen
  simp only [List.length_cons] at hlen
  have hex : (pathStr (x :: r)).extract (1 : Int).toNat ((pathStr (x :: r)).size : Int).toNat = bstr (escS x.data.toList ++ pathText r) := by
    unfold bstr
    apply ByteArray.ext
    apply Array.ext'
    rw [Int.toNat_natCast, hlen]
    simp [hdat]
    rw [← List.length_append]; exact List.take_length
  rw [hex]
  have hb := byteAt_mid (s := pathStr (x :: r)) (pre := []) hdat
  have hb' : byteAt (pathStr (x :: r)) 0 = ((47 : UInt8).toNat : Int) := hb
  have hll := h3.len
  refine ⟨⟨by omega, by omega, by omega⟩, parseI _ w3 (by rw [bstr_size]; omega) fun l' xs' b w4 r4 o4 e4 => ⟨l', b, rfl, ⟨by omega, by omega⟩, ?_⟩⟩
  rw [hb']
  refine br_t rfl (br_i (fun _ => ⟨rfl, e03.trans e4⟩) (fun hb => ⟨?_, e03.trans e4⟩))
  have hp : IsPath (bstr (escS x.data.toList ++ pathText r)) xs' := by
    rcases r4 with ⟨_, h⟩ | ⟨h, _⟩
    · exact h
    · rw [h] at hb; cases hb
  have ht := hp.txt
  rw [bstr_data] at ht
  have hc := pathText_count xs'
  rw [ht, List.count_append, pathText_count, List.count_eq_zero.2 (escS_no _)] at hc
  have h4 := (o4.slOf cS_len (by decide) : Strs w4 l' xs').len
  simp only [List.length_cons] at hll
  rw [decide_eq_true (by omega)]

theorem c_laws_FnPathRoundTrip {w : World} {s : Sl} {bs : List UInt8} (hs : Bytes w s bs) (_ : s.cap ≤ maxLen) : CallR Tryd.prog 6 [.slice s.a s.len s.cap] w (fun v w' => v = .bool true ∧ Ext w w') := by
  refine fn_laws_FnPathRoundTrip _ _ _ ?_
  unfold g_laws_FnPathRoundTrip
  refine br_d (fun _ => ⟨rfl, Ext.refl _⟩) (fun _ => ?_)
  refine (c_spec_DrawFormatPath hs).mono ?_
  rintro _ w1 ⟨⟨l, xs, rfl, h1, hl, hsz⟩, e1⟩
  have m1 : xs.length ≤ maxLen := by unfold maxLen; omega
  have m3 : ∀ x ∈ xs, x.size ≤ maxLen := fun x hx => by have := hsz x hx; unfold maxLen; omega
  refine ⟨l, rfl, (c_impl_FormatPath h1).go fun w2 e2 => ⟨_, rfl, ?_⟩⟩
  refine (c_spec_FormatPath (h1.ext e2) m1 m3).go fun w3 e3 => ⟨_, rfl, br_f (by simp [seqB_eq]) ?_⟩
  have h3 := (h1.ext e2).ext e3
  have e03 := (e1.trans e2).trans e3
  refine br_i (fun _ => (c_spec_FormatPath h3 m1 m3).go fun w4 e4 => ⟨_, rfl, by simp [seqB_eq], e03.trans e4⟩) (fun h0 => ?_)
  obtain ⟨hok, hps, hne⟩ := pathStr_ne h0
  have hz := pathStr_size hl hsz
  have h5 := okPath_len hok
  have hl2 : (pathText xs).length ≤ 2000 := by
    have key : ∀ ys : List ByteArray, (∀ y ∈ ys, y.size ≤ 12) → (pathText ys).length ≤ 25 * ys.length := by
      intro ys
      induction ys with
      | nil => intro _; simp [pathText]
      | cons y r ih =>
        intro hy
        have h1 := hy y List.mem_cons_self
        have h2 := ih (fun z hz => hy z (List.mem_cons_of_mem _ hz))
        have h3 := escS_len y.data.toList
        rw [size_eq] at h1
        unfold pathText at *
        simp only [List.flatMap_cons, List.length_append, List.length_cons] at h2 ⊢
        omega
    have := key xs (fun x hx => okTxt_size (okPath_all hok x hx))
    omega
  have hp : IsPath (pathStr xs) xs := ⟨hok, by rw [hps, bstr_data], by rw [hps, bstr_size]; exact hl2⟩
  refine parseI _ w3 (by omega) fun l' xs' b w4 r4 o4 e4 => ⟨l', b, rfl, ?_⟩
  obtain ⟨rfl, rfl⟩ := r4.unique (.inl ⟨rfl, hp⟩)
  refine br_t rfl ((c_laws_equalTexts (o4.slOf cS_len (by decide)) (h3.ext e4) m1).go fun w5 e5 => ⟨_, rfl, by simp, (e03.trans e4).trans e5⟩)
end Go.Proofs

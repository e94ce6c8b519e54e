/-
  What functions of this seat compute, part 'TagsRead': contracts over their readable predicates. Conditions: each theorem's own hypotheses.
-/
import Derived.Test.YtpofoikpmafnbaaDoorBase
import Derived.Test.YtpofoikpmafnbaaDoorOpen
import Derived.Test.YtpofoikpmafnbaaDoorGen
import Derived.Test.YtpofoikpmafnbaaDoorCVcIn
import Derived.Test.YtpofoikpmafnbaaDoorCVcRange
import Derived.Test.YtpofoikpmafnbaaDoorCGenIn
import Derived.Test.YtpofoikpmafnbaaDoorCTags
import Derived.Test.YtpofoikpmafnbaaDoorCTagsShelf
import Derived.Test.YtpofoikpmafnbaaDoorCBstr
import Derived.Test.YtpofoikpmafnbaaDoorCBstr2
import Derived.Test.YtpofoikpmafnbaaDoorCTagsText
import Derived.Test.YtpofoikpmafnbaaDoorCTagsPlain
import Derived.Test.YtpofoikpmafnbaaDoorCTagsSeq
import Derived.RangeFuncWrites
import Derived.RangeFuncOwn
namespace Go.Proofs
open Go Go.Vc Go.RowKit
set_option maxRecDepth 100000
set_option linter.unusedVariables false
--! C:VcIn C:VcRange C:GenIn C:Tags C:TagsShelf C:Bstr C:Bstr2 C:TagsText C:TagsPlain C:TagsSeq M:Derived.RangeFuncWrites M:Derived.RangeFuncOwn
/-! ## Tags: ParseTags of the program -/

theorem own_cells {base : Nat} {e : TypeId} {size : Nat} {w : World} {s : Sl} {vs : List Value} (h : Vc.Own base e size w s vs) {k : Nat} (hk : s.v.ownBlock = some k) : ∃ cs, w.heap[k]? = some (.cells cs e (0, 0)) := by
  rcases h.2 with ⟨hv, _⟩ | ⟨g, cap, cur, hv, _, hg, _⟩
  · rw [hv] at hk; cases hk
  · rw [hv] at hk
    simp only [Value.ownBlock, Option.some.injEq] at hk
    subst hk
    exact ⟨_, hg⟩

theorem own_keep {base : Nat} {e : TypeId} {size : Nat} {w w' : World} {s : Sl} {vs : List Value} (h : Vc.Own base e size w s vs) (hk : ∀ k, s.v.ownBlock = some k → w'.heap[k]? = w.heap[k]?) : Vc.Own base e size w' s vs := by
  refine ⟨h.1, ?_⟩
  rcases h.2 with hn | ⟨g, cap, cur, hv, hb, hg, rest⟩
  · exact .inl hn
  · exact .inr ⟨g, cap, cur, hv, hb, by rw [hk g (by rw [hv]; rfl)]; exact hg, rest⟩

theorem row_turn {b : Nat} {vs : List Value} {e : TypeId} {w w' : World} {row : Option Nat} {B : Nat} (h : Row w b vs e) (hg : w.grownBy w' row) (hr : ∀ r, row = some r → B ≤ r ∧ ∃ o : Obj, w.heap[r]? = some o ∧ o.isCells = false) (hb : b < B) : Row w' b vs e :=
  h.grown hg fun e => by have := (hr b e).1; omega

theorem own_turn {base : Nat} {e : TypeId} {size : Nat} {w w' : World} {s : Sl} {vs : List Value} {row : Option Nat} {B : Nat} (h : Vc.Own base e size w s vs) (hg : w.grownBy w' row) (hr : ∀ r, row = some r → B ≤ r ∧ ∃ o : Obj, w.heap[r]? = some o ∧ o.isCells = false) : Vc.Own base e size w' s vs :=
  own_keep h fun k hk => hg.block k (h.lt k hk).2 fun e' => by
    obtain ⟨cs, hc⟩ := own_cells h hk
    obtain ⟨_, o, ho, hoc⟩ := hr k e'.symm
    rw [hc] at ho
    obtain rfl := Option.some.inj ho
    simp [Obj.isCells] at hoc

theorem keepsFrom_ext {B : Nat} {w w' : World} (h : Ext w w') : KeepsFrom B w w' := ⟨h.size, fun k o _ hk _ => (h.block k (Array.getElem?_eq_some_iff.1 hk).1).trans hk⟩
theorem keepsFrom_own {B base : Nat} {e : TypeId} {size : Nat} {w w' : World} {s : Sl} {vs : List Value} (h : Vc.Own base e size w s vs) (hg : w.grownBy w' s.v.ownBlock) : KeepsFrom B w w' :=
  ⟨hg.size, fun k o _ hk hoc => (hg.block k (Array.getElem?_eq_some_iff.1 hk).1 fun e' => by
    obtain ⟨cs, hc⟩ := own_cells h e'.symm
    rw [hc] at hk
    obtain rfl := Option.some.inj hk
    simp [Obj.isCells] at hoc).trans hk⟩
theorem keepsFrom_chg {B b : Nat} {w w' : World} (h : Chg b w w') (hb : b < B) : KeepsFrom B w w' := KeepsFrom.of_grownBy h fun j e => by injection e with e; omega

theorem readI_long {s : ByteArray} (h : 4 < (partsOf s).length) : readI s = none := by
  unfold readI
  rw [if_neg, if_neg (by omega)]
  intro e
  rw [e] at h
  have : (partsOf emptyB).length = 1 := rfl
  omega

theorem readI_bad {s : ByteArray} {pre post : List ByteArray} {x : ByteArray} (hp : partsOf s = pre ++ x :: post) (hx : wordOf x = none) (hs : s ≠ emptyB) : readI s = none := by
  unfold readI
  rw [if_neg hs]
  split
  · rw [hp]
    have e : pre ++ x :: post = (pre ++ [x]) ++ post := by simp
    rw [e]
    refine okWords_none_append _ ?_
    rw [okWords_snoc, hx]
    cases okWords pre <;> rfl
  · rfl

set_option maxHeartbeats 1000000 in
theorem c_impl_ParseTags (s : ByteArray) (w : World) (hs : s.size ≤ 1000000000) : CallR Tryd.prog 7 [.string s] w (fun v w' => ∃ l : Sl, v = .tuple #[.slice l.a l.len l.cap, .bool (readI s).isSome] ∧
    Vc.Own w.heap.size 9 1 w' l (((readI s).getD []).flatMap cS) ∧ Ext w w') := by
  suffices key : ∀ Φ : Value → World → Prop, (∀ (l : Sl) w', Vc.Own w.heap.size 9 1 w' l (((readI s).getD []).flatMap cS) → Ext w w' → Φ (.tuple #[.slice l.a l.len l.cap, .bool (readI s).isSome]) w') → g_impl_ParseTags_in s w Φ from
    fn_impl_ParseTags_in _ _ _ (key _ fun l w' h1 h2 => ⟨l, rfl, h1, h2⟩)
  intro Φ hΦ
  unfold g_impl_ParseTags_in
  refine letW_i fun w1 hw1 => letW_i fun w2 hw2 => ?_
  have e1 : Ext w w1 := by rw [hw1]; exact (Ext.refl w).alloc _
  have e2 : Ext w1 w2 := by rw [hw2]; exact (Ext.refl w1).alloc _
  have ra := (show Row w1 w.heap.size [.slice none 0 0] 22 by rw [hw1]; exact Row.new w [.slice none 0 0] _).ext e2
  have rb : Row w2 w1.heap.size [.bool false] 4 := by rw [hw2]; exact Row.new w1 [.bool false] _
  have zab : w.heap.size < w1.heap.size := by rw [hw1]; simp
  have zb := rb.lt
  clear hw1 hw2
  generalize hpa : w.heap.size = pa at ra zab ⊢
  generalize hpb : w1.heap.size = pb at rb zab zb ⊢
  have e02 := e1.trans e2
  refine br_i (fun g => ?_) (fun g => ?_)
  · have hse : s = emptyB := by rw [seqB_iff] at g; exact g
    have hI : readI s = some [] := by rw [readI, if_pos hse]
    rw [hI] at hΦ
    obtain ⟨p1, q1⟩ := ra.setMid (A := []) (B := []) (p := (⟨pa, 0, none⟩ : Addr)) rfl (.slice none 0 0)
    refine ⟨p1, letW_i fun w3 h3 => ?_⟩
    rw [← h3] at q1
    have c3 : Chg pa w2 w3 := by rw [h3]; exact (Chg.refl _ _).set rfl _
    clear h3
    have rb3 := rb.chg c3 (by omega)
    obtain ⟨p2, q2⟩ := rb3.setMid (A := []) (B := []) (p := (⟨pb, 0, none⟩ : Addr)) rfl (.bool true)
    refine ⟨p2, letW_i fun w4 h4 => ?_⟩
    rw [← h4] at q2
    have c4 : Chg pb w3 w4 := by rw [h4]; exact (Chg.refl _ _).set rfl _
    clear h4
    have qa := Row.chg q1 c4 (by omega)
    exact ⟨⟨none, 0, 0⟩, Row.cell0 qa, true, Row.cell0 q2, hΦ ⟨none, 0, 0⟩ w4 (Vc.Own.nil _ _ _ _) ((e02.chg c3 (by omega)).chg c4 (by omega))⟩
  have hse : s ≠ emptyB := fun e => by
    have : seqB s (⟨#[]⟩ : ByteArray) = true := seqB_iff.2 e
    rw [this] at g; cases g
  refine letW_i fun w7 hw7 => ?_
  have e7 : Ext w2 w7 := by rw [hw7]; exact (Ext.refl w2).alloc _
  have rc : Row w7 w2.heap.size [.slice none 0 0] 22 := by rw [hw7]; exact Row.new w2 [.slice none 0 0] _
  clear hw7
  have zc := rc.lt
  generalize hpc : w2.heap.size = pc at rc zb zc ⊢
  have e07 := e02.trans e7
  refine (c_SplitSeq s w7 hs).mono ?_
  rintro v w9 ⟨⟨b, Bs, hit, hBs⟩, e9⟩
  have e09 := e07.trans e9
  have z79 := e9.size
  refine ⟨v, rfl, partsOf s, b, Bs,
    fun pre W => ∃ (l : Sl) (ts : List ByteArray), okWords pre = some ts ∧ pre.length ≤ 4 ∧ Row W pc [.slice l.a l.len l.cap] 22 ∧ Vc.Own w9.heap.size 9 1 W l (ts.flatMap cS) ∧ Row W pa [.slice none 0 0] 22 ∧ Row W pb [.bool false] 4 ∧ Ext w W,
    fun W => readI s = none ∧ Row W pa [.slice none 0 0] 22 ∧ Row W pb [.bool false] 4 ∧ Ext w W, hit, ?_, ?_, ?_, ?_, ?_, ?_, ?_⟩
  · rintro pre W W' ⟨l, ts, h1, h2, h3, h4, h5, h6, h7⟩ hc
    obtain ⟨_, _, _, _, hbb, hBl, _⟩ := hit
    have hb1 := hBs b hbb
    have hb2 := hBl b hbb
    exact ⟨l, ts, h1, h2, h3.chg hc (by omega), h4.chg hc hb2, h5.chg hc (by omega), h6.chg hc (by omega), h7.chg hc (by omega)⟩
  · rintro pre W W' row ⟨l, ts, h1, h2, h3, h4, h5, h6, h7⟩ hg hr
    exact ⟨l, ts, h1, h2, row_turn h3 hg hr (by omega), own_turn h4 hg hr, row_turn h5 hg hr (by omega), row_turn h6 hg hr (by omega), h7.grown hg fun k e => by have := (hr k e).1; omega⟩
  · rintro _ W W' row ⟨h1, h5, h6, h7⟩ hg hr
    exact ⟨h1, row_turn h5 hg hr (by omega), row_turn h6 hg hr (by omega), h7.grown hg fun k e => by have := (hr k e).1; omega⟩
  · exact ⟨⟨none, 0, 0⟩, [], rfl, by simp, rc.ext e9, Vc.Own.nil _ _ _ _, (ra.ext e7).ext e9, (rb.ext e7).ext e9, e09⟩
  · rintro pre x post W hparts ⟨l, ts, h1, h2, h3, h4, h5, h6, h7⟩ hszW Wa
    have hts := okWords_len h1
    have hll := h4.len cS_len (by decide)
    have hlen : (partsOf s).length = pre.length + 1 + post.length := by rw [hparts]; simp; omega
    -- how a round is left early
    have rej : ∀ W', Ext W W' → readI s = none → (Wr W' (⟨pa, 0, none⟩ : Addr) ∧ letW (W'.setCell (⟨pa, 0, none⟩ : Addr) (.slice none 0 0)) (fun w16 => Wr w16 (⟨pb, 0, none⟩ : Addr) ∧ letW (w16.setCell (⟨pb, 0, none⟩ : Addr) (.bool false)) (fun w17 =>
        KeepsFrom w9.heap.size W w17 ∧ br true (readI s = none ∧ Row w17 pa [.slice none 0 0] 22 ∧ Row w17 pb [.bool false] 4 ∧ Ext w w17)
          ((∃ (l : Sl) (ts : List ByteArray), okWords (pre ++ [x]) = some ts ∧ (pre ++ [x]).length ≤ 4 ∧ Row w17 pc [.slice l.a l.len l.cap] 22 ∧ Vc.Own w9.heap.size 9 1 w17 l (ts.flatMap cS) ∧ Row w17 pa [.slice none 0 0] 22 ∧ Row w17 pb [.bool false] 4 ∧ Ext w w17) ∧ ∀ k, Bs k → w17.heap[k]? = W.heap[k]?)))) := by
      intro W' eW hI
      obtain ⟨p1, q1⟩ := (h5.ext eW).setMid (A := []) (B := []) (p := (⟨pa, 0, none⟩ : Addr)) rfl (.slice none 0 0)
      refine ⟨p1, letW_i fun w3 hw3 => ?_⟩
      rw [← hw3] at q1
      have c3 : Chg pa W' w3 := by rw [hw3]; exact (Chg.refl _ _).set rfl _
      clear hw3
      obtain ⟨p2, q2⟩ := ((h6.ext eW).chg c3 (by omega)).setMid (A := []) (B := []) (p := (⟨pb, 0, none⟩ : Addr)) rfl (.bool false)
      refine ⟨p2, letW_i fun w4 hw4 => ?_⟩
      rw [← hw4] at q2
      have c4 : Chg pb w3 w4 := by rw [hw4]; exact (Chg.refl _ _).set rfl _
      clear hw4
      exact ⟨((keepsFrom_ext eW).trans (keepsFrom_chg c3 (by omega))).trans (keepsFrom_chg c4 (by omega)), hI, Row.chg q1 c4 (by omega), q2, ((h7.trans eW).chg c3 (by omega)).chg c4 (by omega)⟩
    have acc : ∀ (W' : World) (t : ByteArray), Ext W W' → wordOf x = some t → pre.length < 4 → (∃ l29 : Sl, W'.cell? (⟨pc, 0, none⟩ : Addr) = some (.slice l29.a l29.len l29.cap) ∧ letW (W'.alloc (.cells #[.string t] 9)) (fun w30 => sAppend 9 1 16 ⟨l29.a, l29.len, l29.cap⟩ ⟨(some (⟨W'.heap.size, 0, none⟩ : Addr)), 1, 1⟩ w30 (fun l31 w32 =>
        Wr w32 (⟨pc, 0, none⟩ : Addr) ∧ letW (w32.setCell (⟨pc, 0, none⟩ : Addr) (.slice l31.a l31.len l31.cap)) (fun w33 =>
        KeepsFrom w9.heap.size W w33 ∧ br false (readI s = none ∧ Row w33 pa [.slice none 0 0] 22 ∧ Row w33 pb [.bool false] 4 ∧ Ext w w33)
          ((∃ (l : Sl) (ts : List ByteArray), okWords (pre ++ [x]) = some ts ∧ (pre ++ [x]).length ≤ 4 ∧ Row w33 pc [.slice l.a l.len l.cap] 22 ∧ Vc.Own w9.heap.size 9 1 w33 l (ts.flatMap cS) ∧ Row w33 pa [.slice none 0 0] 22 ∧ Row w33 pb [.bool false] 4 ∧ Ext w w33) ∧ ∀ k, Bs k → w33.heap[k]? = W.heap[k]?))))) := by
      intro W' t eW ht h4'
      have o' := h4.ext eW
      have zW := eW.size
      refine ⟨l, Row.cell0 (h3.ext eW), push1 (c := cS) (x := t) cS_len (by decide) (fun u hu => by simp [cS] at hu; subst hu; rfl) o' (by omega) (by omega) (by decide) fun l2 wm w3 _ o3 em om gr => ?_⟩
      have lp : ∀ p, p < w9.heap.size → l.v.ownBlock ≠ some p := fun p hp => Vc.Own.row_ne om hp
      have rr : ∀ {p : Nat} {vs : List Value} {T : TypeId}, Row W p vs T → p < w9.heap.size → Row w3 p vs T := fun hrow hp => ((hrow.ext eW).ext em).grown gr (lp _ hp)
      obtain ⟨p1, q1⟩ := (rr h3 (by omega)).setMid (A := []) (B := []) (p := (⟨pc, 0, none⟩ : Addr)) rfl (.slice l2.a l2.len l2.cap)
      refine ⟨p1, letW_i fun w4 hw4 => ?_⟩
      rw [← hw4] at q1
      have c4 : Chg pc w3 w4 := by rw [hw4]; exact (Chg.refl _ _).set rfl _
      clear hw4
      refine ⟨((((keepsFrom_ext eW).trans (keepsFrom_ext em)).trans (keepsFrom_own om gr)).trans (keepsFrom_chg c4 (by omega))), ⟨l2, ts ++ [t], ?_, ?_, q1, o3.chg c4 (by omega), (rr h5 (by omega)).chg c4 (by omega), (rr h6 (by omega)).chg c4 (by omega), ?_⟩, fun k hk => ?_⟩
      · rw [okWords_snoc, h1, ht]; rfl
      · simp; omega
      · exact (((h7.trans eW).trans em).own om gr (by omega)).chg c4 (by omega)
      · obtain ⟨_, _, _, _, _, hBl, _⟩ := hit
        have k1 := hBs k hk
        have k2 := hBl k hk
        have zm := em.size
        have zg := gr.size
        have s1 : w4.heap[k]? = w3.heap[k]? := c4.block k (by omega) (by simp; omega)
        have s2 : w3.heap[k]? = wm.heap[k]? := gr.block k (by omega) (fun e => lp k k2 e.symm)
        have s3 : wm.heap[k]? = W'.heap[k]? := em.block k (by omega)
        have s4 : W'.heap[k]? = W.heap[k]? := eW.block k (by omega)
        exact s1.trans (s2.trans (s3.trans s4))
    refine ⟨rfl, l, Row.cell0 h3, br_i (fun g4 => ?_) (fun g4 => ?_)⟩
    · have : pre.length = 4 := by simp at g4; omega
      exact rej W (Ext.refl _) (readI_long (by omega))
    have hp4 : pre.length < 4 := by simp at g4; omega
    refine br_i (fun gs => ?_) (fun gs => ?_)
    · have hns : x ≠ star := by
        rw [seqB_eq] at gs
        exact of_decide_eq_false (nott gs)
      have bad : ¬ (x.size = 6 ∧ byteAt x 0 = 34 ∧ byteAt x 5 = 34 ∧ vTag (x.extract 1 5) = true) → readI s = none := fun hn => readI_bad hparts (by unfold wordOf; rw [if_neg hns, if_neg hn]) hse
      refine br_i (fun g6 => ?_) (fun g6 => ?_)
      · exact rej W (Ext.refl _) (bad fun h => by simp [h.1] at g6)
      have h6' : x.size = 6 := by simp at g6; omega
      refine ⟨⟨by omega, by omega⟩, br_i (fun g0 => ?_) (fun g0 => ?_)⟩
      · exact rej W (Ext.refl _) (bad fun h => by simp [h.2.1] at g0)
      have h0' : byteAt x 0 = 34 := by simpa using g0
      refine ⟨⟨by omega, by omega⟩, br_i (fun g5 => ?_) (fun g5 => ?_)⟩
      · exact rej W (Ext.refl _) (bad fun h => by simp [h.2.2.1] at g5)
      have h5' : byteAt x 5 = 34 := by simpa using g5
      refine ⟨⟨by omega, by omega, by omega⟩, (c_isSum _ W).go fun w25 e25 => ⟨_, rfl, br_i (fun gv => ?_) (fun gv => ?_)⟩⟩
      · exact rej w25 e25 (bad fun h => by have hv := nott gv; rw [show (1 : Int).toNat = 1 from rfl, show (5 : Int).toNat = 5 from rfl, h.2.2.2] at hv; cases hv)
      have hv := notf gv
      exact ⟨⟨by omega, by omega, by omega⟩, acc w25 _ e25 (by unfold wordOf; rw [if_neg hns, if_pos ⟨h6', h0', h5', hv⟩]; rfl) hp4⟩
    · have hx : x = star := by rw [seqB_eq] at gs; exact of_decide_eq_true (notf gs)
      exact acc W x (Ext.refl _) (by rw [hx]; simp [wordOf]) hp4
  · rintro D W ⟨l, ts, h1, h2, h3, h4, h5, h6, h7⟩ hD hdef
    have hI : readI s = some ts := by unfold readI; rw [if_neg hse, if_pos h2, h1]
    rw [hI] at hΦ
    refine br_f rfl ⟨l, Row.cell0 h3, ?_⟩
    obtain ⟨p1, q1⟩ := h5.setMid (A := []) (B := []) (p := (⟨pa, 0, none⟩ : Addr)) rfl (.slice l.a l.len l.cap)
    refine ⟨p1, letW_i fun w3 hw3 => ?_⟩
    rw [← hw3] at q1
    have c3 : Chg pa W w3 := by rw [hw3]; exact (Chg.refl _ _).set rfl _
    clear hw3
    obtain ⟨p2, q2⟩ := (h6.chg c3 (by omega)).setMid (A := []) (B := []) (p := (⟨pb, 0, none⟩ : Addr)) rfl (.bool true)
    refine ⟨p2, letW_i fun w4 hw4 => ?_⟩
    rw [← hw4] at q2
    have c4 : Chg pb w3 w4 := by rw [hw4]; exact (Chg.refl _ _).set rfl _
    clear hw4
    have d3 : w3.heap[D]? = some (.deferred (some [])) := (c3.block D (Array.getElem?_eq_some_iff.1 hdef).1 (by simp; omega)).trans hdef
    have d4 : w4.heap[D]? = some (.deferred (some [])) := (c4.block D (Array.getElem?_eq_some_iff.1 d3).1 (by simp; omega)).trans d3
    refine ⟨d4, letW_i fun w5 hw5 => ?_⟩
    have c5 : Chg D w4 w5 := by rw [hw5]; exact grownBy_putObj' w4 D _
    clear hw5
    have o4 := (h4.chg c3 (by omega)).chg c4 (by omega)
    have o5 : Vc.Own w9.heap.size 9 1 w5 l (ts.flatMap cS) := own_keep o4 fun k hk => c5.block k (o4.lt k hk).2 fun e => by
      obtain ⟨cs, hc⟩ := own_cells o4 hk
      have : k = D := by simpa using e
      rw [this, d4] at hc
      cases hc
    exact ⟨l, Row.cell0 ((Row.chg q1 c4 (by omega)).chg c5 (by omega)), true, Row.cell0 (Row.chg q2 c5 (by omega)), hΦ l w5 (o5.base_le (by omega)) (((h7.chg c3 (by omega)).chg c4 (by omega)).chg c5 (by omega))⟩
  · rintro D W ⟨hI, h5, h6, h7⟩ hD hdef
    rw [hI] at hΦ
    refine br_t rfl ⟨hdef, letW_i fun w5 hw5 => ?_⟩
    have c5 : Chg D W w5 := by rw [hw5]; exact grownBy_putObj' W D _
    clear hw5
    exact ⟨⟨none, 0, 0⟩, Row.cell0 (h5.chg c5 (by omega)), false, Row.cell0 (h6.chg c5 (by omega)), hΦ ⟨none, 0, 0⟩ w5 (Vc.Own.nil _ _ _ _) (h7.chg c5 (by omega))⟩
end Go.Proofs

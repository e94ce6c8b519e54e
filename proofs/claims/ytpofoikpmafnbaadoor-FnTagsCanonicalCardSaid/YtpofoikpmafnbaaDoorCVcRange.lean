/-
  What functions of this seat compute, part 'VcRange': contracts over their readable predicates. Conditions: each theorem's own hypotheses.
-/
import Derived.Test.YtpofoikpmafnbaaDoorBase
import Derived.Test.YtpofoikpmafnbaaDoorOpen
import Derived.Test.YtpofoikpmafnbaaDoorGen
import Derived.Test.YtpofoikpmafnbaaDoorCVcIn
import Derived.RangeFuncFrom
import Derived.RangeFuncCalls
import Derived.RangeFuncLeaves
import Derived.CallsIn
import Derived.TacticsIn
import Derived.RangeFuncWrites
namespace Go.Proofs
open Go Go.Vc Go.RowKit
set_option maxRecDepth 100000
set_option linter.unusedVariables false
--! C:VcIn M:Derived.RangeFuncFrom M:Derived.RangeFuncCalls M:Derived.RangeFuncLeaves M:Derived.CallsIn M:Derived.TacticsIn M:Derived.RangeFuncWrites
/-! ## A range over a function that hands over texts and keeps its place in a variable of its own -/

section
variable (P : Program)

/-- What the iterator 'v' does with whatever loop body keeps its word. -/
def IterS (v : Value) (w : World) (parts : List ByteArray) (b : Nat) (Bs : Nat → Prop) : Prop :=
  ∃ gf lb, v = .func (.func gf) #[] lb ∧ callable P gf = true ∧ Bs b ∧ (∀ k, Bs k → k < w.heap.size) ∧
    ∀ (l : Nat) (J : List ByteArray → World → Prop) (Jx : World → Prop) (W : World), w.heap.size ≤ W.heap.size → (∀ k, Bs k → W.heap[k]? = w.heap[k]?) → (∀ pre W1 W2, J pre W1 → Chg b W1 W2 → J pre W2) →
      (∀ pre x post W1, parts = pre ++ x :: post → J pre W1 → YieldV P l [.string x] W1 fun u W' =>
        (u = .bool true ∧ J (pre ++ [x]) W' ∧ (∀ k, Bs k → W'.heap[k]? = W1.heap[k]?) ∧ W1.heap.size ≤ W'.heap.size) ∨ (u = .bool false ∧ Jx W')) →
      J [] W → CallR P gf (.func (.yield l) #[] #[] :: lb.toList) W fun _ W' => J parts W' ∨ Jx W'

/-- The statement: what the body does in a round; what follows. -/
def RangeS (v : Value) (rnd : ByteArray → World → (Bool → World → Prop) → Prop) (w : World) (K : Bool → Nat → World → Prop) : Prop :=
  ∃ (parts : List ByteArray) (b : Nat) (Bs : Nat → Prop) (I : List ByteArray → World → Prop) (Ix : World → Prop),
    IterS P v w parts b Bs ∧ (∀ pre W W', I pre W → Chg b W W' → I pre W') ∧ OwnFrom w.heap.size I ∧ OwnFrom w.heap.size (fun (_ : Unit) => Ix) ∧ I [] w ∧
    (∀ pre x post W, parts = pre ++ x :: post → I pre W → w.heap.size ≤ W.heap.size → rnd x W fun out W' => KeepsFrom w.heap.size W W' ∧ br out (Ix W') (I (pre ++ [x]) W' ∧ ∀ k, Bs k → W'.heap[k]? = W.heap[k]?)) ∧
    (∀ D W', I parts W' → w.heap.size ≤ D → W'.heap[D]? = some (.deferred (some [])) → K false D W') ∧
    (∀ D W', Ix W' → w.heap.size ≤ D → W'.heap[D]? = some (.deferred (some [])) → K true D W')

def rangeRF (g : Operand) (ps : List Tmp) (asg bd : Code) (F : Fr) (w : World) (K : Bool → Nat → World → Prop) : Prop :=
  match ps with
  | [p] => RangeS P (ev F g) (fun x W KR => ∀ Wa : World, codeIn P (annOf []) 0 asg (fun e F1 W1 => match e with
      | .normal => W1 = Wa ∧ codeIn P (annOf []) 0 bd (fun e' F' W' => match e' with
        | .normal => KR false W'
        | .exit _ => False
        | .ret => KR true W') F1 W
      | .exit _ => False
      | .ret => False) (upd F p (.string x)) Wa) w K
  | _ => False

def markOf (D : Nat) : Deferred := { target := .collected D, args := #[] }

/-- Code that holds such statements, and no loops. -/
def codeR : Code → (Ex → List Deferred → Fr → World → Prop) → List Deferred → Fr → World → Prop
  | .skip, Q, ds, F, w => Q .normal ds F w
  | .region _ ops false, Q, ds, F, w => opsIn P ops.toList ops.toList F w (Q .normal ds)
  | .seq x y, Q, ds, F, w => codeR x (fun e ds' F' w' => match e with | .normal => codeR y Q ds' F' w' | .exit i => Q (.exit i) ds' F' w' | .ret => Q .ret ds' F' w') ds F w
  | .cond c x y, Q, ds, F, w => match ev F c with | .bool t => br t (codeR x Q ds F w) (codeR y Q ds F w) | _ => False
  | .block id c, Q, ds, F, w => codeR c (fun e ds' F' w' => match e with
      | .normal => Q .normal ds' F' w'
      | .exit i => cond (Nat.beq i id) (Q .normal ds' F' w') (Q (.exit i) ds' F' w')
      | .ret => Q .ret ds' F' w') ds F w
  | .exit id, Q, ds, F, w => Q (.exit id) ds F w
  | .ret, Q, ds, F, w => Q .ret ds F w
  | .rangeFunc g ps asg bd, Q, ds, F, w => rangeRF P g ps.toList asg bd F w fun out D w' => br out (Q .ret (markOf D :: ds) F w') (Q .normal (markOf D :: ds) F w')
  | _, _, _, _, _ => False

def rangeOk (n : Nat) : Code → Bool
  | .rangeFunc _ ps asg bd => allLt n ps.toList && allLt n (writes asg) && allLt n (writes bd)
  | .seq x y => rangeOk n x && rangeOk n y
  | .cond _ x y => rangeOk n x && rangeOk n y
  | .block _ c => rangeOk n c
  | _ => true

/-- What a function hands back, the marks of its loops taken off. -/
def leaveR (fn : Func) (Φ : Value → World → Prop) (ds : List Deferred) (F : Fr) (w : World) : Prop :=
  match ds with
  | [] => vcRes P fn.results.toList F w fun vs => Φ (oneOrTuple vs) w
  | [d] => match d.target with
    | .collected D => w.heap[D]? = some (.deferred (some [])) ∧ letW (w.putObj D (.deferred none)) fun w' => vcRes P fn.results.toList F w' fun vs => Φ (oneOrTuple vs) w'
    | _ => False
  | _ => False

def bodyR (fn : Func) (args : List Value) (w : World) (Φ : Value → World → Prop) : Prop :=
  match fn.body with
  | some c => codeR P c (fun e ds F w' => match e with
      | .normal => leaveR P fn Φ ds F w'
      | .exit _ => False
      | .ret => leaveR P fn Φ ds F w') [] (frOf args) w
  | none => False

variable {P}

def PostR (n : Nat) (ms : List Nat) (F : Fr) (Q : Ex → List Deferred → Fr → World → Prop) : Exit → Act → World → Prop
  | .normal, a, w => ∃ F', Rep n a F' ∧ Kept ms F F' ∧ Q .normal a.defers F' w
  | .exit id, a, w => ∃ F', Rep n a F' ∧ Kept ms F F' ∧ Q (.exit id) a.defers F' w
  | .ret, a, w => ∃ F', Rep n a F' ∧ Kept ms F F' ∧ Q .ret a.defers F' w
  | _, _, _ => False

theorem PostR.mono {n : Nat} {ms ms' : List Nat} {F F' : Fr} {Q : Ex → List Deferred → Fr → World → Prop} (hF : Kept ms' F F') (hm : ∀ G, Kept ms F' G → Kept ms' F' G) :
    ∀ (e : Exit) (a : Act) (w : World), PostR n ms F' Q e a w → PostR n ms' F Q e a w
  | .normal, _, _, ⟨G, h1, h2, h4⟩ => ⟨G, h1, hF.trans (hm G h2), h4⟩
  | .exit _, _, _, ⟨G, h1, h2, h4⟩ => ⟨G, h1, hF.trans (hm G h2), h4⟩
  | .ret, _, _, ⟨G, h1, h2, h4⟩ => ⟨G, h1, hF.trans (hm G h2), h4⟩

theorem rep_defers {n : Nat} {a : Act} {F : Fr} (h : Rep n a F) (ds : List Deferred) : Rep n { a with defers := ds } F := h

set_option maxHeartbeats 1000000 in
theorem rangeS_spec {n m : Nat} {g : Operand} {p : Tmp} {asg bd : Code} {Q : Exit → Act → World → Prop} {a : Act} {w : World} {F : Fr} (hr : Rep n a F) (hp : p < n) (hla : allLt n (writes asg) = true) (hlb : allLt n (writes bd) = true)
    (h : rangeRF P g [p] asg bd F w fun out D w' => br out (Q .ret { a with defers := markOf D :: a.defers } w') (Q .normal { a with defers := markOf D :: a.defers } w')) :
    (Code.rangeFunc g #[p] asg bd).wpIn (FE none) m P Q a w := by
  obtain ⟨parts, b, Bs, I, Ix, ⟨gf, lb, hg, hc, hbb, hBs, hit⟩, hI1, hI2, hIx, h0, hrnd, hdone, hstop⟩ := h
  refine wpIn_rangeFunc ?_
  intro fn hfn
  obtain ⟨rec, hrec⟩ : ∃ rec : LoopState → Option Code → Loop, rec = fun st pe => { state := st, pending := pe, fn, tmps := a.tmps, params := #[p], assign := asg, body := bd, defers := w.heap.size } := ⟨_, rfl⟩
  obtain ⟨W1, hW1⟩ : ∃ W1, (w.alloc (.deferred (some []))).alloc (.loop (rec .ready none)) = W1 := ⟨_, rfl⟩
  have hL1 : W1.heap[w.heap.size + 1]? = some (.loop (rec .ready none)) := by
    rw [← hW1]; have := World.alloc_heap_new (w.alloc (.deferred (some []))) (.loop (rec .ready none)); rwa [World.size_alloc] at this
  have hK1 : W1.heap[w.heap.size]? = some (.deferred (some [])) := by
    rw [← hW1]; exact (Below.heap_alloc _ _ _ (by simp)).trans (World.alloc_heap_new w _)
  have hI0 : I [] W1 := by rw [← hW1]; exact hI2.alloc _ (hI2.alloc _ h0)
  have hb1 : Below w.heap.size w W1 := by
    rw [← hW1]; exact ((Below.refl _ w).alloc (Nat.le_refl _) _).alloc (by simp) _
  have hev : a.eval g = .func (.func gf) #[] lb := by rw [hr.eval]; exact hg
  refine ⟨w.heap.size + 1, [{ target := .collected w.heap.size, args := #[] }], W1, { target := .fn (.func gf) lb, args := #[.func (.yield (w.heap.size + 1)) #[] #[]] }, W1, gf,
    #[.func (.yield (w.heap.size + 1)) #[] #[]] ++ lb, W1, ?_, ?_, ?_, ?_, fun e => by simp [Fence.wide] at e, ?_⟩
  · rw [← hW1, hrec]; exact run_enterLoop_outer _ _ _ _ _
  · simp only [resolve, hev]
    simp [go_sem]
  · intro f' _; trivial
  · have := run_callFunc (args := #[Value.func (.yield (w.heap.size + 1)) #[] #[]] ++ lb) (w := W1) hc
    simp [invoke, this]
  · have hbl : b < w.heap.size := hBs b hbb
    have hcall := hit (w.heap.size + 1)
      (fun pre W => I pre W ∧ W.heap[w.heap.size + 1]? = some (.loop (rec .ready none)) ∧ W.heap[w.heap.size]? = some (.deferred (some [])))
      (fun W => Ix W ∧ W.heap[w.heap.size + 1]? = some (.loop (rec .done (some .ret))) ∧ W.heap[w.heap.size]? = some (.deferred (some [])))
      W1 hb1.size (fun k hk => hb1.block k (hBs k hk))
      (fun pre A B ⟨q1, q2, q3⟩ hg' => ⟨hI1 pre A B q1 hg', (hg'.block _ (Array.getElem?_eq_some_iff.1 q2).1 (by simp; omega)).trans q2, (hg'.block _ (Array.getElem?_eq_some_iff.1 q3).1 (by simp; omega)).trans q3⟩)
      ?_ ⟨hI0, hL1, hK1⟩
    · have hlist : (Value.func (.yield (w.heap.size + 1)) #[] #[] :: lb.toList).toArray = #[Value.func (.yield (w.heap.size + 1)) #[] #[]] ++ lb := by
        apply Array.ext'; simp
      have := hcall.calls (P := P) hc
      rw [hlist] at this
      refine CallsIn.mono (callsIn_FE (r := none) this) ?_
      rintro e W2 ⟨v, rfl, hJ⟩
      rcases hJ with ⟨hi, hl, hk⟩ | ⟨hi, hl, hk⟩
      · refine ⟨none, _, by have := run_endLoop (P := P) hl (by rw [hrec]; simp); rw [hrec] at this; exact this, ?_⟩
        exact hdone w.heap.size _ (hI2.putObj _ hi (by omega) hl rfl) (Nat.le_refl _) ((World.putObj_heap_other (by omega)).trans hk)
      · refine ⟨some .ret, _, by have := run_endLoop (P := P) hl (by rw [hrec]; simp); rw [hrec] at this; exact this, ?_⟩
        refine wpIn_ret ?_
        exact hstop w.heap.size _ (hIx.putObj (s := ()) _ hi (by omega) hl rfl) (Nat.le_refl _) ((World.putObj_heap_other (by omega)).trans hk)
    · -- ONE ROUND
      rintro pre x post W hparts ⟨hi, hl, hk⟩
      have hlt : w.heap.size + 1 < W.heap.size := (Array.getElem?_eq_some_iff.1 hl).1
      have hy := run_yield (P := P) (args := #[.string x]) hl (by rw [hrec]; rfl)
      rw [hrec] at hy
      refine ⟨fn, _, asg, bd, hy, roundIn_wide' (r := none) (m := 0) (n := 0) (roundIn_of_wpIn (F := FE none) trivial ?_)⟩
      have hrep0 : Rep n ({ tmps := (#[p].zip #[Value.string x]).foldl (fun t (q, v) => t.setIfInBounds q v) a.tmps, defers := [] } : Act) (upd F p (.string x)) := by
        have := (rep_defers hr []).put (d := some p) (v := .string x) (fun i hi => by cases hi; exact hp)
        simpa [Act.put, updo] using this
      have hl2 : (W.putObj (w.heap.size + 1) (.loop { rec .ready none with state := .busy })).heap[w.heap.size + 1]? = some (.loop { rec .ready none with state := .busy }) := World.putObj_heap_same hlt
      have hk2 : (W.putObj (w.heap.size + 1) (.loop { rec .ready none with state := .busy })).heap[w.heap.size]? = some (.deferred (some [])) := (World.putObj_heap_other (by omega)).trans hk
      have hBs2 : ∀ k, Bs k → (W.putObj (w.heap.size + 1) (.loop { rec .ready none with state := .busy })).heap[k]? = W.heap[k]? := fun k hk' => World.putObj_heap_other (by have := hBs k hk'; omega)
      have hsz2 : W.heap.size ≤ (W.putObj (w.heap.size + 1) (.loop { rec .ready none with state := .busy })).heap.size := by simp [World.putObj]
      have hbody := hrnd pre x post (W.putObj (w.heap.size + 1) (.loop { rec .ready none with state := .busy })) hparts (hI2.putObj _ hi (by omega) hl rfl) (by omega) W
      refine wpIn_mono (codeIn_spec (P := P) (n := n) (m := 0) (r := some (w.heap.size + 1)) (ann := annOf []) (ds := []) asg 0 _ _ W _ hla hrep0 rfl hbody) ?_
      rintro e a1 W3 hp1
      cases e with
      | normal =>
        obtain ⟨F1, hr1, _, hd1, hW3, hcode⟩ := hp1
        rw [hW3]
        refine ⟨_, run_beginRound hl (by rw [hrec]), ?_⟩
        refine wpIn_mono (codeIn_spec (P := P) (n := n) (m := 0) (r := some (w.heap.size + 1)) (ann := annOf []) (ds := []) bd 0 _ _ _ _ hlb hr1 hd1 hcode) ?_
        have fin : ∀ (jump : Option Code) (W3 : World), KeepsFrom w.heap.size (W.putObj (w.heap.size + 1) (.loop { rec .ready none with state := .busy })) W3 →
            (Instr.endRound (w.heap.size + 1) jump).run P W3 = .ok (.bool jump.isNone) (W3.putObj (w.heap.size + 1) (.loop (rec (if jump.isNone then .ready else .done) jump))) ∧
            W3.heap[w.heap.size + 1]? = some (.loop { rec .ready none with state := .busy }) ∧
            (W3.putObj (w.heap.size + 1) (.loop (rec (if jump.isNone then .ready else .done) jump))).heap[w.heap.size + 1]? = some (.loop (rec (if jump.isNone then .ready else .done) jump)) ∧
            (W3.putObj (w.heap.size + 1) (.loop (rec (if jump.isNone then .ready else .done) jump))).heap[w.heap.size]? = some (.deferred (some [])) := fun jump W3 hk3 => by
          have hl3 := hk3.same _ _ (by omega) hl2 rfl
          have := run_endRound (P := P) jump hl3
          rw [hrec] at this ⊢
          exact ⟨this, by rw [hrec] at hl3; exact hl3, World.putObj_heap_same (Array.getElem?_eq_some_iff.1 hl3).1, (World.putObj_heap_other (by omega)).trans (hk3.same _ _ (by omega) hk2 rfl)⟩
        rintro e a3 W3 hp
        cases e with
        | normal =>
          obtain ⟨F', _, _, _, hk3, hi3, hbs3⟩ := hp
          obtain ⟨hr, hl3, hl4, hk4⟩ := fin none W3 hk3
          refine ⟨_, _, hr, _, rfl, .inl ⟨rfl, ⟨hI2.putObj _ hi3 (by omega) hl3 rfl, hl4, hk4⟩, fun k hk' => ?_, ?_⟩⟩
          · exact ((World.putObj_heap_other (by have := hBs k hk'; omega)).trans (hbs3 k hk')).trans (hBs2 k hk')
          · have := hk3.size
            simp only [World.putObj, Array.size_setIfInBounds] at this ⊢
            omega
        | ret =>
          obtain ⟨F', _, _, _, hk3, hi3⟩ := hp
          obtain ⟨hr, hl3, hl4, hk4⟩ := fin (some .ret) W3 hk3
          exact ⟨_, _, hr, _, rfl, .inr ⟨rfl, hIx.putObj (s := ()) _ hi3 (by omega) hl3 rfl, hl4, hk4⟩⟩
        | exit id => obtain ⟨F', _, _, _, hf⟩ := hp; exact hf.elim
        | _ => exact hp.elim
      | exit id => obtain ⟨F1, _, _, _, hf⟩ := hp1; exact hf.elim
      | ret => obtain ⟨F1, _, _, _, hf⟩ := hp1; exact hf.elim
      | _ => exact hp1.elim

theorem codeR_spec {n m : Nat} (c : Code) :
    ∀ (Q : Ex → List Deferred → Fr → World → Prop) (F : Fr) (w : World) (a : Act), allLt n (writes c) = true → rangeOk n c = true → Rep n a F → codeR P c Q a.defers F w → c.wpIn (FE none) m P (PostR n (writes c) F Q) a w := by
  induction c with
  | skip => intro Q F w a _ _ hr h; exact wpIn_skip ⟨F, hr, Kept.refl _ _, h⟩
  | region id ops draw =>
    intro Q F w a hlt _ hr h
    cases draw with
    | false =>
      refine wpIn_region_list ?_
      have := opsIn_spec (P := P) (n := n) (m := m) (r := none) (all := ops.toList) (F0 := F) (ds := a.defers) (K := Q .normal a.defers) (Q := PostR n (writesOps ops.toList) F Q) hlt
        (fun a' F' w' h1 h2 h3 h4 => ⟨F', h1, h2, by rw [h3]; exact h4⟩) ops.toList F w a (fun _ h => h) hr (Kept.refl _ _) rfl h
      simp only [Array.toArray_toList] at this
      exact this
    | true => exact h.elim
  | seq x y ihx ihy =>
    intro Q F w a hlt hok hr h
    obtain ⟨h1, h2⟩ := allLt_append hlt
    simp only [rangeOk, Bool.and_eq_true] at hok
    refine wpIn_seq (Code.wpIn_mono ?_ (ihx _ F w a h1 hok.1 hr h))
    intro e a' w' hp
    cases e with
    | normal =>
      obtain ⟨F', hr', hk', h'⟩ := hp
      exact Code.wpIn_mono (PostR.mono (Kept.left hk') fun G hG => Kept.right hG) (ihy Q F' w' a' h2 hok.2 hr' h')
    | exit i => obtain ⟨F', hr', hk', h'⟩ := hp; exact ⟨F', hr', Kept.left hk', h'⟩
    | ret => obtain ⟨F', hr', hk', h'⟩ := hp; exact ⟨F', hr', Kept.left hk', h'⟩
    | _ => exact hp.elim
  | cond c x y ihx ihy =>
    intro Q F w a hlt hok hr h
    obtain ⟨h1, h2⟩ := allLt_append hlt
    simp only [rangeOk, Bool.and_eq_true] at hok
    unfold codeR at h
    split at h
    · rename_i t ht
      refine wpIn_cond (t := t) (by rw [hr.eval, ht]) ?_
      rcases br_spec h with ⟨rfl, h⟩ | ⟨rfl, h⟩
      · exact Code.wpIn_mono (PostR.mono (Kept.refl _ _) fun G hG => Kept.left hG) (ihx Q F w a h1 hok.1 hr h)
      · exact Code.wpIn_mono (PostR.mono (Kept.refl _ _) fun G hG => Kept.right hG) (ihy Q F w a h2 hok.2 hr h)
    · exact h.elim
  | block id c ih =>
    intro Q F w a hlt hok hr h
    refine wpIn_block (Code.wpIn_mono ?_ (ih _ F w a hlt hok hr h))
    intro e a' w' hp
    cases e with
    | normal => exact hp
    | exit i =>
      obtain ⟨F', hr', hk', h'⟩ := hp
      show (if i = id then _ else _)
      by_cases hi : i = id
      · subst hi
        rw [if_pos rfl]
        have : Nat.beq i i = true := Nat.beq_refl i
        simp only [this, cond_true] at h'
        exact ⟨F', hr', hk', h'⟩
      · rw [if_neg hi]
        have : Nat.beq i id = false := by
          cases hb : Nat.beq i id with
          | true => exact absurd (Nat.eq_of_beq_eq_true hb) hi
          | false => rfl
        simp only [this, cond_false] at h'
        exact ⟨F', hr', hk', h'⟩
    | ret => exact hp
    | _ => exact hp.elim
  | exit id => intro Q F w a _ _ hr h; exact wpIn_exit ⟨F, hr, Kept.refl _ _, h⟩
  | ret => intro Q F w a _ _ hr h; exact wpIn_ret ⟨F, hr, Kept.refl _ _, h⟩
  | rangeFunc g ps asg bd =>
    intro Q F w a hlt hok hr h
    simp only [rangeOk, Bool.and_eq_true] at hok
    have h' : rangeRF P g ps.toList asg bd F w fun out D w' => br out (Q .ret (markOf D :: a.defers) F w') (Q .normal (markOf D :: a.defers) F w') := h
    match hps : ps.toList, h' with
    | [p], h' =>
      have hps' : ps = #[p] := by apply Array.ext'; rw [hps]
      subst hps'
      refine rangeS_spec hr ?_ hok.1.2 hok.2 ?_
      · have := allLt_mem hok.1.1 p (by simp)
        exact this
      · have e : (fun (out : Bool) D w' => br out (Q .ret (markOf D :: a.defers) F w') (Q .normal (markOf D :: a.defers) F w')) = fun out D w' => br out (Q .ret (markOf D :: a.defers) F w') (Q .normal (markOf D :: a.defers) F w') := rfl
        obtain ⟨parts, b, Bs, I, Ix, q1, q2, q3, q4, q5, q6, q7, q8⟩ := h'
        refine ⟨parts, b, Bs, I, Ix, q1, q2, q3, q4, q5, q6, fun D W' r1 r2 r3 => ?_, fun D W' r1 r2 r3 => ?_⟩
        · exact ⟨F, rep_defers hr _, Kept.refl _ _, q7 D W' r1 r2 r3⟩
        · exact ⟨F, rep_defers hr _, Kept.refl _ _, q8 D W' r1 r2 r3⟩
    | [], h' => exact h'.elim
    | _ :: _ :: _, h' => exact h'.elim
  | _ => intro Q F w a _ _ hr h; exact h.elim

/-- THE STEP FROM THE COMPUTED PREDICATE TO THE CALL, where the body holds a range over a function. -/
theorem fn_of_range {f : FuncId} {fn : Func} {args : List Value} {w : World} {Φ : Value → World → Prop}
    (hf : P.funcs[f]? = some fn) (hok : okFn P fn args.length = true) (hro : (match fn.body with | some c => rangeOk fn.ntmps c | none => false) = true) (h : bodyR P fn args w Φ) : CallR P f args w Φ := by
  unfold okFn at hok
  split at hok
  · rename_i c hb
    simp only [Bool.and_eq_true, Bool.not_eq_true'] at hok
    obtain ⟨⟨⟨hlt, hle⟩, hnm⟩, hm⟩ := hok
    rw [hb] at hro
    refine .inl ⟨by simp [callable, hf, hb, hnm], (callsIn_wide (n := 0)).1 (callsIn_of_wp_marks hf hb trivial ?_)⟩
    unfold bodyR at h
    rw [hb] at h
    have hrep := rep_args fn.ntmps args (Nat.le_of_ble_eq_true hle)
    refine Code.wpIn_mono ?_ (codeR_spec (P := P) (n := fn.ntmps) (m := 0) c _ _ w _ hlt hro hrep h)
    have leave : ∀ (a' : Act) (F' : Fr) (w' : World), Rep fn.ntmps a' F' → leaveR P fn Φ a'.defers F' w' → LeavesInM Fence.wide 0 P fn a'.tmps (fun e w' => ∃ v, e = .returned v ∧ Φ v w') a'.defers .returning w' := by
      intro a' F' w' hr' h'
      generalize hds : a'.defers = ds at h'
      unfold leaveR at h'
      match ds, h' with
      | [], h' =>
        obtain ⟨vs, h1, h2⟩ := results_run (P := P) (fn := fn) hr' h'
        exact ⟨_, h1, _, rfl, h2⟩
      | [d], h' =>
        simp only at h'
        split at h'
        · rename_i D ht
          obtain ⟨hD, h'⟩ := h'
          obtain ⟨vs, h1, h2⟩ := results_run (P := P) (fn := fn) (w := w'.putObj D (.deferred none)) hr' h'
          exact ⟨by simp, .inl ⟨D, _, ht, run_takeDeferred hD, ⟨_, h1, _, rfl, h2⟩⟩⟩
        · exact h'.elim
      | _ :: _ :: _, h' => exact h'.elim
    intro e a' w' hp
    cases e with
    | normal =>
      obtain ⟨F', hr', _, h'⟩ := hp
      exact leave a' F' w' hr' h'
    | ret =>
      obtain ⟨F', hr', _, h'⟩ := hp
      exact leave a' F' w' hr' h'
    | exit i => obtain ⟨F', hr', _, h'⟩ := hp; exact h'.elim
    | _ => exact hp.elim
  · cases hok

end
end Go.Proofs

/-
  What functions of this seat compute, part 'VcIn': contracts over their readable predicates. Conditions: each theorem's own hypotheses.
-/
import Derived.Test.YtpofoikpmafnbaaDoorBase
import Derived.Test.YtpofoikpmafnbaaDoorOpen
import Derived.Test.YtpofoikpmafnbaaDoorGen
import Derived.RangeFuncFrom
import Derived.RangeFuncCalls
import Derived.RangeFuncLeaves
import Derived.CallsIn
import Derived.TacticsIn
import Derived.Deep.LoopGhost
namespace Go.Proofs
open Go Go.Vc Go.RowKit
set_option maxRecDepth 100000
set_option linter.unusedVariables false
--! M:Derived.RangeFuncFrom M:Derived.RangeFuncCalls M:Derived.RangeFuncLeaves M:Derived.CallsIn M:Derived.TacticsIn M:Derived.Deep.LoopGhost
/-! ## Code in a round of a range over a function; calls of its body -/

section
variable {P : Program}

/-- The fence without walls, in a round or not. -/
abbrev FE (r : Option Nat) : Fence := { Fence.wide with round := r }

/-- A CALL OF A LOOP'S BODY. -/
def YieldV (P : Program) (l : Nat) (args : List Value) (w : World) (K : Value → World → Prop) : Prop :=
  ∃ fn tmps assign body, (Instr.yield l args.toArray).run P w = .ok (.round l fn tmps assign body) w ∧ RoundIn Fence.wide 0 P l fn tmps assign body w fun e w' => ∃ v, e = .returned v ∧ K v w'

theorem YieldV.mono {l : Nat} {args : List Value} {w : World} {K K' : Value → World → Prop} (h : YieldV P l args w K) (hk : ∀ v w', K v w' → K' v w') : YieldV P l args w K' := by
  obtain ⟨fn, tmps, assign, body, h1, h2⟩ := h
  exact ⟨fn, tmps, assign, body, h1, h2.mono fun e w' ⟨v, he, hv⟩ => ⟨v, he, hk v w' hv⟩⟩

def RunsIn (P : Program) (s : Sem Next) (w : World) (K : Value → World → Prop) : Prop :=
  match s.run P w with
  | .ok (.value v) w' => K v w'
  | .ok .skip w' => K undef w'
  | .ok (.enter f args) w' => Calls P f args w' fun e w'' => ∃ v, e = .returned v ∧ K v w''
  | .ok (.round l f tmps assign body) w' => RoundIn Fence.wide 0 P l f tmps assign body w' fun e w'' => ∃ v, e = .returned v ∧ K v w''
  | _ => False

theorem runsIn_of {s : Sem Next} {w : World} {K : Value → World → Prop} (h : RunsTo P s w K) : RunsIn P s w K := by
  unfold RunsTo RunsIn at *
  generalize s.run P w = r at *
  cases r with
  | ok n w' => cases n <;> first | exact h | exact h.elim
  | halt x w' => exact h.elim

theorem roundIn_wide {r : Option Nat} {n m : Nat} {l : Nat} {f : FuncId} {tmps : Array Value} {assign body : Code} {w : World} {R : Ending → World → Prop} (h : RoundIn Fence.wide n P l f tmps assign body w R) :
    RoundIn (FE r) m P l f tmps assign body w R := ⟨trivial, fun c cs _ => h.2 c cs (room_wide _)⟩
theorem roundIn_wide' {r : Option Nat} {n m : Nat} {l : Nat} {f : FuncId} {tmps : Array Value} {assign body : Code} {w : World} {R : Ending → World → Prop} (h : RoundIn (FE r) n P l f tmps assign body w R) :
    RoundIn Fence.wide m P l f tmps assign body w R := ⟨trivial, fun c cs _ => h.2 c cs (room_wide _)⟩

theorem callsIn_FE {r : Option Nat} {m : Nat} {f : FuncId} {args : Array Value} {w : World} {R : Ending → World → Prop} (h : Calls P f args w R) : CallsIn (FE r) m P f args w R := by
  cases r with
  | none => exact callsIn_wide.2 h
  | some l => exact CallsIn.inRound l (callsIn_wide.2 h)

theorem wpIn_of_runsIn {o : Oper} {a : Act} {w : World} {r : Option Nat} {m : Nat} {K : Value → World → Prop} {nx : Act → World → Prop} {Q : Exit → Act → World → Prop} (hnd : ∀ c, o.op ≠ .defer c)
    (h : RunsIn P (execOp a.eval o) w K) (hk : ∀ v w', K v w' → nx (a.put o.dst v) w') : o.wpIn (FE r) m P a w nx Q := by
  have hs : Oper.semAt (FE r).round a.eval o = execOp a.eval o := by
    cases r with
    | none => exact Oper.semAt_none _ _
    | some l => exact Oper.semAt_some l _ _ hnd
  refine ⟨fun _ _ => trivial, ?_⟩
  rw [hs]
  unfold RunsIn at h
  generalize (execOp a.eval o).run P w = r at *
  cases r with
  | ok n w' =>
    cases n <;> first
      | exact h.elim
      | exact hk _ _ h
      | exact ⟨fun e => by simp [Fence.wide] at e, CallsIn.mono (callsIn_FE h) fun e w'' ⟨v, he, hv⟩ => by subst he; exact hk _ _ hv⟩
      | exact ⟨fun e => by simp [Fence.wide] at e, RoundIn.mono (roundIn_wide h) fun e w'' ⟨v, he, hv⟩ => by subst he; exact hk _ _ hv⟩
  | halt x w' => exact h.elim

def opIn (P : Program) (F : Fr) (o : Oper) (w : World) (K : Value → World → Prop) : Prop :=
  match o.op with
  | .call c =>
    match c.callee with
    | .value f =>
      match ev F f with
      | .func (.yield l) first _ => YieldV P l (first.toList ++ c.args.toList.map (ev F)) w fun v w' => exRet P o.type v fun u => K u w'
      | _ => vcOp P F o w K
    | _ => vcOp P F o w K
  | _ => vcOp P F o w K

theorem vcOp_nd {F : Fr} {o : Oper} {w : World} {K : Value → World → Prop} (h : vcOp P F o w K) : ∀ c, o.op ≠ .defer c := by
  intro c hc
  unfold vcOp at h
  rw [hc] at h
  simp only [vcPure, hc] at h

theorem opIn_spec {F : Fr} {o : Oper} {w : World} {K : Value → World → Prop} (h : opIn P F o w K) : RunsIn P (execOp (ev F) o) w K ∧ ∀ c, o.op ≠ .defer c := by
  unfold opIn at h
  split at h
  · rename_i c hop
    split at h
    · rename_i f hf
      split at h
      · rename_i l first cap hev
        refine ⟨?_, fun d hd => by rw [hop] at hd; cases hd⟩
        obtain ⟨fn, tmps, assign, body, h1, h2⟩ := h
        have e1 : first ++ c.args.map (ev F) = (first.toList ++ c.args.toList.map (ev F)).toArray := by
          apply Array.ext'; simp
        have hr : (execOp (ev F) o).run P w = .ok (.round l fn tmps assign body) w := by
          simp only [execOp, hop, resolve, hf, hev, Deferred.ofValue, Sem.run_bind, Sem.run_pure, Result.andThen_ok, invoke]
          rw [e1]
          exact h1
        unfold RunsIn
        rw [hr]
        exact h2.mono fun e w' ⟨v, he, hv⟩ => ⟨v, he, exRet_spec P hv⟩
      · exact ⟨runsIn_of (vcOp_spec h), vcOp_nd h⟩
    · exact ⟨runsIn_of (vcOp_spec h), vcOp_nd h⟩
  · exact ⟨runsIn_of (vcOp_spec h), vcOp_nd h⟩

variable (P)

def opsIn (all : List Oper) : List Oper → Fr → World → (Fr → World → Prop) → Prop
  | [], F, w, K => K F w
  | o :: rest, F, w, K =>
    match o.guard with
    | none => opIn P F o w fun v w' => opsIn all rest (updo F o.dst v) w' K
    | some (j, want) =>
      match dstOf all j with
      | none => False
      | some d =>
        match F d with
        | .bool b =>
          br b
            (cond want (opIn P (upd F d (.bool true)) o w fun v w' => opsIn all rest (updo (upd F d (.bool true)) o.dst v) w' K) (opsIn all rest (updo (upd F d (.bool true)) o.dst undef) w K))
            (cond want (opsIn all rest (updo (upd F d (.bool false)) o.dst undef) w K) (opIn P (upd F d (.bool false)) o w fun v w' => opsIn all rest (updo (upd F d (.bool false)) o.dst v) w' K))
        | _ => opsIn all rest (updo F o.dst undef) w K

def codeIn (ann : Nat → List (Nat × Sc)) : Nat → Code → (Ex → Fr → World → Prop) → Fr → World → Prop
  | _, .skip, Q, F, w => Q .normal F w
  | _, .region _ ops false, Q, F, w => opsIn P ops.toList ops.toList F w (Q .normal)
  | b, .seq x y, Q, F, w => codeIn ann b x (fun e F' w' => match e with | .normal => codeIn ann b y Q F' w' | .exit i => Q (.exit i) F' w' | .ret => Q .ret F' w') F w
  | b, .cond c x y, Q, F, w => match ev F c with | .bool t => br t (codeIn ann b x Q F w) (codeIn ann b y Q F w) | _ => False
  | b, .loop c, Q, F, w =>
    withSt (ann b) F fun s0 => sLoop s0 w fun K s w' => ∀ H : Fr,
      codeIn ann b c (fun e F' w'' => match e with
        | .normal => withSt (ann b) F' fun s' => K s' w''
        | .exit i => Q (.exit i) F' w''
        | .ret => Q .ret F' w'') (setSt (ann b) s (mix F H (writes c))) w'
  | _, .block id c, Q, F, w => codeIn ann id c (fun e F' w' => match e with
      | .normal => Q .normal F' w'
      | .exit i => cond (Nat.beq i id) (Q .normal F' w') (Q (.exit i) F' w')
      | .ret => Q .ret F' w') F w
  | _, .exit id, Q, F, w => Q (.exit id) F w
  | _, .ret, Q, F, w => Q .ret F w
  | _, _, _, _, _ => False

variable {P}

theorem opsIn_spec {n m : Nat} {r : Option Nat} {all : List Oper} {F0 : Fr} {ds : List Deferred} {K : Fr → World → Prop} {Q : Exit → Act → World → Prop} (hlt : allLt n (writesOps all) = true)
    (hQ : ∀ a F w, Rep n a F → Kept (writesOps all) F0 F → a.defers = ds → K F w → Q .normal a w) :
    ∀ (l : List Oper) (F : Fr) (w : World) (a : Act), (∀ o ∈ l, o ∈ all) → Rep n a F → Kept (writesOps all) F0 F → a.defers = ds → opsIn P all l F w K → wpListIn (FE r) m P all.toArray Q l a w
  | [], F, w, a, _, hr, hk, hd, h => hQ a F w hr hk hd h
  | o :: rest, F, w, a, hmem, hr, hk, hd, h => by
    have ho : o ∈ all := hmem o (List.mem_cons_self)
    have hmem' : ∀ o ∈ rest, o ∈ all := fun x hx => hmem x (List.mem_cons_of_mem _ hx)
    have hdst : ∀ i, o.dst = some i → i < n := fun i hi => allLt_mem hlt i (writesOps_mem ho hi)
    have hmemd : ∀ i, o.dst = some i → i ∈ writesOps all := fun i hi => writesOps_mem ho hi
    have next : ∀ F, Rep n a F → Kept (writesOps all) F0 F → ∀ v w', opsIn P all rest (updo F o.dst v) w' K → wpListIn (FE r) m P all.toArray Q rest (a.put o.dst v) w' := fun F hr hk v w' h' =>
      opsIn_spec hlt hQ rest _ w' _ hmem' (hr.put hdst) (hk.trans (updo_kept hmemd)) (by rw [put_defers, hd]) h'
    have doit : ∀ F, Rep n a F → Kept (writesOps all) F0 F → opIn P F o w (fun v w' => opsIn P all rest (updo F o.dst v) w' K) → ∀ K' : Act → World → Prop, (∀ a w, wpListIn (FE r) m P all.toArray Q rest a w → K' a w) → o.wpIn (FE r) m P a w K' Q := fun F hr hk h' K' hK' =>
      wpIn_of_runsIn (opIn_spec h').2 (by rw [hr.eval]; exact (opIn_spec h').1) fun v w' hv => hK' _ _ (next F hr hk v w' hv)
    unfold opsIn at h
    split at h
    · rename_i hg
      exact wpListIn_plain hg fun K' hK' => doit F hr hk h K' hK'
    · rename_i j want hg
      split at h
      · exact h.elim
      · rename_i d hdo
        have hdn : d < n := by
          have : ∃ o', all[j]? = some o' ∧ o'.dst = some d := by
            unfold dstOf at hdo
            cases ho' : all[j]? with
            | none => rw [ho'] at hdo; cases hdo
            | some o' => rw [ho'] at hdo; exact ⟨o', rfl, hdo⟩
          obtain ⟨o', h1, h2⟩ := this
          exact allLt_mem hlt d (writesOps_mem (List.mem_of_getElem? h1) h2)
        have hy := hr.yielded hdo hdn
        have hwant : Region.wanted o (yielded all.toArray a.tmps) = (yielded all.toArray a.tmps j == some want) := by simp [Region.wanted, hg]
        unfold wpListIn
        split at h
        · rename_i b hb
          rw [hb] at hy
          rw [hwant, hy]
          rcases br_spec h with ⟨rfl, h⟩ | ⟨rfl, h⟩
          · rw [upd_self hb] at h
            cases want with
            | true => simp only [beq_self_eq_true, if_true]; exact doit F hr hk h _ fun _ _ h => h
            | false => exact ⟨fun _ _ => trivial, next F hr hk _ _ h⟩
          · rw [upd_self hb] at h
            cases want with
            | true => exact ⟨fun _ _ => trivial, next F hr hk _ _ h⟩
            | false => simp only [beq_self_eq_true, if_true]; exact doit F hr hk h _ fun _ _ h => h
        · rename_i hnb
          have : yielded all.toArray a.tmps j = none := by
            rw [hy]
            split
            · rename_i b hb; exact (hnb b hb).elim
            · rfl
          rw [hwant, this]
          exact ⟨fun _ _ => trivial, next F hr hk _ _ h⟩

/-- A LOOP: an invariant that bears a number, which every round lowers. -/
theorem wpIn_loop_ghost {F : Fence} {m : Nat} {Q : Exit → Act → World → Prop} {a : Act} {w : World} {c : Code} (I : Nat → Act → World → Prop) (n₀ : Nat) (h₀ : I n₀ a w)
    (round : ∀ n a w, I n a w → c.wpIn F m P (Exit.then (fun a' w' => ∃ n', n' < n ∧ I n' a' w') Q) a w) : (Code.loop c).wpIn F m P Q a w := by
  refine wpIn_loop (fun a w => ∃ n, I n a w) (fun a w => leastOf (fun n => I n a w)) ⟨n₀, h₀⟩ ?_
  intro a w hI
  refine wpIn_mono (round _ a w (leastOf_spec hI).1) ?_
  intro e a' w' hq
  cases e with
  | normal =>
    obtain ⟨n', hlt, hI'⟩ := hq
    exact show (∃ n, I n a' w') ∧ leastOf (fun n => I n a' w') < leastOf (fun n => I n a w) from ⟨⟨n', hI'⟩, Nat.lt_of_le_of_lt ((leastOf_spec ⟨n', hI'⟩).2 n' hI') hlt⟩
  | exit id => exact hq
  | goto l => exact hq
  | ret => exact hq
  | panic ch => exact hq
  | outgrown => exact hq

theorem codeIn_spec {n m : Nat} {r : Option Nat} {ann : Nat → List (Nat × Sc)} {ds : List Deferred} (c : Code) :
    ∀ (b : Nat) (Q : Ex → Fr → World → Prop) (F : Fr) (w : World) (a : Act), allLt n (writes c) = true → Rep n a F → a.defers = ds → codeIn P ann b c Q F w → c.wpIn (FE r) m P (Post n (writes c) F ds Q) a w := by
  induction c with
  | skip => intro b Q F w a _ hr hd h; exact wpIn_skip ⟨F, hr, Kept.refl _ _, hd, h⟩
  | region id ops draw =>
    intro b Q F w a hlt hr hd h
    cases draw with
    | false =>
      refine wpIn_region_list ?_
      have := opsIn_spec (P := P) (n := n) (m := m) (r := r) (all := ops.toList) (F0 := F) (ds := ds) (K := Q .normal) (Q := Post n (writesOps ops.toList) F ds Q) hlt
        (fun a' F' w' h1 h2 h3 h4 => ⟨F', h1, h2, h3, h4⟩) ops.toList F w a (fun _ h => h) hr (Kept.refl _ _) hd h
      simp only [Array.toArray_toList] at this
      exact this
    | true => exact h.elim
  | seq x y ihx ihy =>
    intro b Q F w a hlt hr hd h
    obtain ⟨h1, h2⟩ := allLt_append hlt
    refine wpIn_seq (Code.wpIn_mono ?_ (ihx b _ F w a h1 hr hd h))
    intro e a' w' hp
    cases e with
    | normal =>
      obtain ⟨F', hr', hk', hd', h'⟩ := hp
      exact Code.wpIn_mono (Post.mono (Kept.left hk') fun G hG => Kept.right hG) (ihy b Q F' w' a' h2 hr' hd' h')
    | exit i => obtain ⟨F', hr', hk', hd', h'⟩ := hp; exact ⟨F', hr', Kept.left hk', hd', h'⟩
    | ret => obtain ⟨F', hr', hk', hd', h'⟩ := hp; exact ⟨F', hr', Kept.left hk', hd', h'⟩
    | _ => exact hp.elim
  | cond c x y ihx ihy =>
    intro b Q F w a hlt hr hd h
    obtain ⟨h1, h2⟩ := allLt_append hlt
    unfold codeIn at h
    split at h
    · rename_i t ht
      refine wpIn_cond (t := t) (by rw [hr.eval, ht]) ?_
      rcases br_spec h with ⟨rfl, h⟩ | ⟨rfl, h⟩
      · exact Code.wpIn_mono (Post.mono (Kept.refl _ _) fun G hG => Kept.left hG) (ihx b Q F w a h1 hr hd h)
      · exact Code.wpIn_mono (Post.mono (Kept.refl _ _) fun G hG => Kept.right hG) (ihy b Q F w a h2 hr hd h)
    · exact h.elim
  | block id c ih =>
    intro b Q F w a hlt hr hd h
    refine wpIn_block (Code.wpIn_mono ?_ (ih id _ F w a hlt hr hd h))
    intro e a' w' hp
    cases e with
    | normal => exact hp
    | exit i =>
      obtain ⟨F', hr', hk', hd', h'⟩ := hp
      show (if i = id then _ else _)
      by_cases hi : i = id
      · subst hi
        rw [if_pos rfl]
        have : Nat.beq i i = true := Nat.beq_refl i
        simp only [this, cond_true] at h'
        exact ⟨F', hr', hk', hd', h'⟩
      · rw [if_neg hi]
        have : Nat.beq i id = false := by
          cases hb : Nat.beq i id with
          | true => exact absurd (Nat.eq_of_beq_eq_true hb) hi
          | false => rfl
        simp only [this, cond_false] at h'
        exact ⟨F', hr', hk', hd', h'⟩
    | ret => exact hp
    | _ => exact hp.elim
  | loop c ih =>
    intro b Q F w a hlt hr hd h
    obtain ⟨s0, hs0, I, μ, hI, hround⟩ := withSt_spec h
    refine wpIn_loop_ghost (fun k a' w' => ∃ s F', I s w' ∧ μ s w' = k ∧ Rep n a' F' ∧ Kept (writes c) F F' ∧ a'.defers = ds ∧ setSt (ann b) s F' = F') (μ s0 w) ⟨s0, F, hI, rfl, hr, Kept.refl _ _, hd, hs0⟩ ?_
    rintro k a' w' ⟨s, F', hIs, rfl, hr', hk', hd', hs'⟩
    have hv := hround s w' hIs F'
    rw [mix_self hk', hs'] at hv
    refine Code.wpIn_mono ?_ (ih b _ F' w' a' hlt hr' hd' hv)
    intro e a'' w'' hp
    cases e with
    | normal =>
      obtain ⟨F'', hr'', hk'', hd'', h''⟩ := hp
      obtain ⟨s', hs'', hIs', hlt'⟩ := withSt_spec h''
      exact ⟨μ s' w'', hlt', s', F'', hIs', rfl, hr'', hk'.trans hk'', hd'', hs''⟩
    | exit i => obtain ⟨F'', hr'', hk'', hd'', h''⟩ := hp; exact ⟨F'', hr'', hk'.trans hk'', hd'', h''⟩
    | ret => obtain ⟨F'', hr'', hk'', hd'', h''⟩ := hp; exact ⟨F'', hr'', hk'.trans hk'', hd'', h''⟩
    | _ => exact hp.elim
  | exit id => intro b Q F w a _ hr hd h; exact wpIn_exit ⟨F, hr, Kept.refl _ _, hd, h⟩
  | ret => intro b Q F w a _ hr hd h; exact wpIn_ret ⟨F, hr, Kept.refl _ _, hd, h⟩
  | _ => intro b Q F w a _ hr hd h; exact h.elim

variable (P)

def bodyIn (fn : Func) (ann : Nat → List (Nat × Sc)) (args : List Value) (w : World) (Φ : Value → World → Prop) : Prop :=
  match fn.body with
  | some c => codeIn P ann 0 c (fun e F w' => match e with
      | .normal => vcRes P fn.results.toList F w' fun vs => Φ (oneOrTuple vs) w'
      | .exit _ => False
      | .ret => vcRes P fn.results.toList F w' fun vs => Φ (oneOrTuple vs) w') (frOf args) w
  | none => False

variable {P}

theorem rep_args (n : Nat) (args : List Value) (hle : args.length ≤ n) : Rep n { tmps := args.toArray ++ Array.replicate (n - args.toArray.size) undef, defers := [] } (frOf args) := by
  refine ⟨by simp; omega, fun i => ?_⟩
  have hfr : ∀ (l : List Value) (i : Nat), frOf l i = l.getD i undef := by
    intro l
    induction l with
    | nil => intro i; rfl
    | cons v l ih => intro i; cases i with
      | zero => rfl
      | succ i => exact ih i
  rw [hfr]
  simp only [Array.getD_eq_getD_getElem?, Array.getElem?_append, List.getD_eq_getElem?_getD, List.size_toArray, List.getElem?_toArray]
  split
  · rfl
  · rename_i hi
    rw [List.getElem?_eq_none (by omega)]
    simp only [Array.getElem?_replicate]
    split <;> rfl

/-- THE STEP FROM THE COMPUTED PREDICATE TO THE CALL, where the body calls a loop's body. -/
theorem fn_of_in {f : FuncId} {fn : Func} {ann : Nat → List (Nat × Sc)} {args : List Value} {w : World} {Φ : Value → World → Prop}
    (hf : P.funcs[f]? = some fn) (hok : okFn P fn args.length = true) (h : bodyIn P fn ann args w Φ) : CallR P f args w Φ := by
  unfold okFn at hok
  split at hok
  · rename_i c hb
    simp only [Bool.and_eq_true, Bool.not_eq_true'] at hok
    obtain ⟨⟨⟨hlt, hle⟩, hnm⟩, hm⟩ := hok
    refine .inl ⟨by simp [callable, hf, hb, hnm], calls_of_wp hf hb ?_⟩
    unfold bodyIn at h
    rw [hb] at h
    have hrep := rep_args fn.ntmps args (Nat.le_of_ble_eq_true hle)
    refine Code.wp_mono ?_ ((wpIn_wide (n := 0)).1 (codeIn_spec (n := fn.ntmps) (m := 0) (r := none) (ds := []) c 0 _ _ w _ hlt hrep rfl h))
    intro e a' w' hp
    cases e with
    | normal =>
      obtain ⟨F', hr', _, hd', h'⟩ := hp
      obtain ⟨vs, h1, h2⟩ := results_run (P := P) (fn := fn) hr' h'
      exact ⟨hd', _, h1, _, rfl, h2⟩
    | ret =>
      obtain ⟨F', hr', _, hd', h'⟩ := hp
      obtain ⟨vs, h1, h2⟩ := results_run (P := P) (fn := fn) hr' h'
      exact ⟨hd', _, h1, _, rfl, h2⟩
    | exit i => obtain ⟨F', hr', _, hd', h'⟩ := hp; exact h'.elim
    | _ => exact hp.elim
  · cases hok

end
end Go.Proofs

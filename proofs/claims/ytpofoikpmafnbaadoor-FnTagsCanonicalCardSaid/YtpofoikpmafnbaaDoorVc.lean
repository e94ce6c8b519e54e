/-
  A predicate computed from the model's code ('vcFn'), and the proof that it suffices for 'Calls'. Conditions: none of its own.
  Frames are functions of the slot's number; every value is taken apart by its type as soon as it is read; a test is 'br'; a loop is 'sLoop'; a call is 'Fn'.
-/
import Derived.Deep.Quiet
import Derived.Deep.LoopGhost
import Derived.KernelRfl
import Derived.WalkKit
import Derived.Laws.AppendOwnNone
import Derived.Maps.AppendAt
import Derived.Laws.StructEq
import Derived.Laws.Cover3
import Derived.ChangeKeysEq
import Derived.Lib.AppendZerosOnto
import Derived.Laws.CopyRow
import Derived.Laws.BytesArg
import Derived.Laws.BytesString
namespace Go.Vc
open Go Go.RowKit

/-! ## The words of the computed predicate -/

abbrev Fr := Nat → Value

def upd (F : Fr) (i : Nat) (v : Value) : Fr := fun j => cond (Nat.beq j i) v (F j)

def updo (F : Fr) : Option Nat → Value → Fr
  | some i, v => upd F i v
  | none, _ => F

def ev (F : Fr) : Operand → Value
  | .tmp t => F t
  | .const v => v
  | .global g => .pointer (some ⟨g, 0, none⟩)
  | .func f => .func (.func f) #[] #[]

/-- A test. -/
def br (b : Bool) (A B : Prop) : Prop := match b with | true => A | false => B

/-- A world under a name. -/
def letW (w : World) (K : World → Prop) : Prop := K w

/-- An address that must be there. -/
def onSome {α : Type} (o : Option α) (K : α → Prop) : Prop := match o with | some a => K a | none => False

structure Sl where
  a : Option Addr
  len : Nat
  cap : Nat

def Sl.v (s : Sl) : Value := .slice s.a s.len s.cap

inductive Sc where
  | int (k : IntKind) | bool | str | slice | ptr | raw

def Sc.T : Sc → Type
  | .int _ => Int
  | .bool => Bool
  | .str => ByteArray
  | .slice => Sl
  | .ptr => Option Addr
  | .raw => Value

def Sc.enc : (s : Sc) → s.T → Value
  | .int k => fun n => .int k n
  | .bool => fun b => .bool b
  | .str => fun s => .string s
  | .slice => fun s => .slice s.a s.len s.cap
  | .ptr => fun a => .pointer a
  | .raw => fun v => v

def eqKind : IntKind → IntKind → Bool
  | .i8, .i8 | .i16, .i16 | .i32, .i32 | .i64, .i64 | .u8, .u8 | .u16, .u16 | .u32, .u32 | .u64, .u64 => true
  | _, _ => false

theorem eqKind_eq {a b : IntKind} (h : eqKind a b = true) : a = b := by cases a <;> cases b <;> first | rfl | (simp [eqKind] at h)

/-- The value taken apart. -/
def Sc.dec : (s : Sc) → Value → (s.T → Prop) → Prop
  | .int k => fun v K => match v with | .int k' n => cond (eqKind k k') (K n) False | _ => False
  | .bool => fun v K => match v with | .bool b => K b | _ => False
  | .str => fun v K => match v with | .string s => K s | _ => False
  | .slice => fun v K => match v with | .slice a l c => K ⟨a, l, c⟩ | _ => False
  | .ptr => fun v K => match v with | .pointer a => K a | _ => False
  | .raw => fun v K => K v

theorem Sc.dec_spec {s : Sc} {v : Value} {K : s.T → Prop} (h : s.dec v K) : ∃ x, v = s.enc x ∧ K x := by
  cases s with
  | int k =>
    cases v with
    | int k' n =>
      simp only [Sc.dec] at h
      cases hk : eqKind k k' with
      | true => rw [hk] at h; obtain rfl := eqKind_eq hk; exact ⟨n, rfl, h⟩
      | false => rw [hk] at h; exact h.elim
    | _ => exact h.elim
  | bool => cases v <;> first | exact ⟨_, rfl, h⟩ | exact h.elim
  | str => cases v <;> first | exact ⟨_, rfl, h⟩ | exact h.elim
  | slice => cases v <;> first | exact ⟨⟨_, _, _⟩, rfl, h⟩ | exact h.elim
  | ptr => cases v <;> first | exact ⟨_, rfl, h⟩ | exact h.elim
  | raw => exact ⟨v, rfl, h⟩

/-- There is a value of the type. -/
def Sc.ex : Sc → (Value → Prop) → Prop
  | .int k, K => ∃ n : Int, K (.int k n)
  | .bool, K => ∃ b : Bool, K (.bool b)
  | .str, K => ∃ s : ByteArray, K (.string s)
  | .slice, K => ∃ s : Sl, K (.slice s.a s.len s.cap)
  | .ptr, K => ∃ a : Option Addr, K (.pointer a)
  | .raw, K => ∃ v, K v

theorem Sc.ex_spec {s : Sc} {K : Value → Prop} (h : s.ex K) : ∃ v, K v := by
  cases s <;> exact ⟨_, h.choose_spec⟩

inductive Ty where
  | sc (s : Sc)
  | agg (l : List Sc)

def exL : List Sc → (List Value → Prop) → Prop
  | [], K => K []
  | s :: r, K => s.ex fun v => exL r fun vs => K (v :: vs)

theorem exL_spec {l : List Sc} : ∀ {K : List Value → Prop}, exL l K → ∃ vs, K vs := by
  induction l with
  | nil => exact fun h => ⟨_, h⟩
  | cons s r ih => exact fun h => let ⟨_, hv⟩ := Sc.ex_spec h; let ⟨_, hvs⟩ := ih hv; ⟨_, hvs⟩

def Ty.ex : Ty → (Value → Prop) → Prop
  | .sc s, K => s.ex K
  | .agg l, K => exL l fun vs => K (.agg vs.toArray)

theorem Ty.ex_spec {t : Ty} {K : Value → Prop} (h : t.ex K) : ∃ v, K v := by
  cases t with
  | sc s => exact Sc.ex_spec h
  | agg l => exact let ⟨_, hv⟩ := exL_spec h; ⟨_, hv⟩

def exT : List Ty → (List Value → Prop) → Prop
  | [], K => K []
  | t :: r, K => t.ex fun v => exT r fun vs => K (v :: vs)

theorem exT_spec {l : List Ty} : ∀ {K : List Value → Prop}, exT l K → ∃ vs, K vs := by
  induction l with
  | nil => exact fun h => ⟨_, h⟩
  | cons s r ih => exact fun h => let ⟨_, hv⟩ := Ty.ex_spec h; let ⟨_, hvs⟩ := ih hv; ⟨_, hvs⟩

section
variable (P : Program)

def scOf (t : TypeId) : Sc :=
  match P.underlying t with
  | some (.int k) => .int k
  | some .bool => .bool
  | some .string => .str
  | some (.slice _) => .slice
  | some (.pointer _) => .ptr
  | _ => .raw

def flat : Nat → TypeId → List Sc
  | 0, _ => []
  | n + 1, t =>
    match P.underlying t with
    | some (.struct fs) => fs.toList.flatMap fun f => flat n f.type
    | some (.array m e) => (List.replicate m (flat n e)).flatten
    | _ => [scOf P t]

def aggB (t : TypeId) : Bool :=
  match P.underlying t with
  | some (.struct _) => true
  | some (.array _ _) => true
  | _ => false

def tyOf (t : TypeId) : Ty := cond (aggB P t) (.agg (flat P 6 t)) (.sc (scOf P t))

/-- What a call hands back, taken apart by its type. -/
def exRet (t : TypeId) (v : Value) (K : Value → Prop) : Prop :=
  match P.underlying t with
  | some (.tuple ts) => exT (ts.toList.map (tyOf P)) fun vs => v = .tuple vs.toArray ∧ K (.tuple vs.toArray)
  | _ => (tyOf P t).ex fun u => v = u ∧ K u

theorem exRet_spec {t : TypeId} {v : Value} {K : Value → Prop} (h : exRet P t v K) : K v := by
  unfold exRet at h
  split at h
  · obtain ⟨vs, rfl, hk⟩ := exT_spec h; exact hk
  · obtain ⟨u, rfl, hk⟩ := Ty.ex_spec h; exact hk

def callable (f : FuncId) : Bool :=
  match P.funcs[f]? with
  | some fn => fn.body.isSome && !(fn.name == "runtime.NumGoroutine")
  | none => false

/-- A CALL THAT RETURNS, of a function with a body. -/
structure CallB (f : FuncId) (args : List Value) (w : World) (Φ : Value → World → Prop) : Prop where
  ok : callable P f = true
  run : Calls P f args.toArray w fun e w' => ∃ v, e = .returned v ∧ Φ v w'

/-- A CALL THAT RETURNS: 'Φ' of what it hands back; or one that the model answers itself. -/
inductive CallR (f : FuncId) (args : List Value) (w : World) (Φ : Value → World → Prop) : Prop where
  | inl (h : CallB P f args w Φ) : CallR f args w Φ
  | inr (h : ∃ v w', (callFunc f args.toArray).run P w = .ok (.value v) w' ∧ Φ v w') : CallR f args w Φ

theorem CallB.mono {P : Program} {f : FuncId} {args : List Value} {w : World} {Φ Ψ : Value → World → Prop} (h : CallB P f args w Φ) (hm : ∀ v w', Φ v w' → Ψ v w') : CallB P f args w Ψ :=
  ⟨h.1, h.2.mono fun _ _ ⟨v, he, hv⟩ => ⟨v, he, hm v _ hv⟩⟩

theorem CallR.mono {P : Program} {f : FuncId} {args : List Value} {w : World} {Φ Ψ : Value → World → Prop} (h : CallR P f args w Φ) (hm : ∀ v w', Φ v w' → Ψ v w') : CallR P f args w Ψ :=
  match h with
  | .inl h => .inl (h.mono hm)
  | .inr ⟨v, w', h1, h2⟩ => .inr ⟨v, w', h1, hm _ _ h2⟩

theorem run_callFunc {P : Program} {f : FuncId} {args : Array Value} {w : World} (h : callable P f = true) : (callFunc f args).run P w = .ok (.enter f args) w := by
  unfold callable at h
  split at h
  · rename_i fn hf
    simp only [Bool.and_eq_true, Bool.not_eq_true'] at h
    have hb : fn.body.isNone = false := by
      cases hb : fn.body <;> simp_all
    unfold callFunc
    simp only [program, Sem.run_bind, Sem.run, Result.andThen_ok, hf, h.2, hb, Bool.false_eq_true, if_false]
    rfl
  · cases h

theorem CallR.body {P : Program} {f : FuncId} {args : List Value} {w : World} {Φ : Value → World → Prop} (h : CallR P f args w Φ) (hc : callable P f = true) : CallB P f args w Φ := by
  rcases h with h | ⟨v, w', h1, h2⟩
  · exact h
  · rw [run_callFunc hc] at h1; simp at h1

theorem CallR.calls {P : Program} {f : FuncId} {args : List Value} {w : World} {Φ : Value → World → Prop} (h : CallR P f args w Φ) (hc : callable P f = true) : Calls P f args.toArray w fun e w' => ∃ v, e = .returned v ∧ Φ v w' := (h.body hc).2

end

/-! ## Single operations -/

/-- The kind holds the number. -/
def InR (k : IntKind) (n : Int) : Prop := k.wrap n = n

theorem inR_i64 {n : Int} (h1 : -9223372036854775808 ≤ n) (h2 : n ≤ 9223372036854775807) : InR .i64 n := IntWalk.i64_in n ⟨h1, h2⟩
theorem inR_u8 {n : Int} (h1 : 0 ≤ n) (h2 : n ≤ 255) : InR .u8 n := IntWalk.u8_in n ⟨h1, h2⟩

def seqB (a b : ByteArray) : Bool := a.toList == b.toList
def sltB (a b : ByteArray) : Bool := Op.bytesLess a.toList b.toList

def vcInt (op : BinOp) (k : IntKind) (a b : Int) (K : Value → Prop) : Prop :=
  match op with
  | .add => InR k (a + b) ∧ K (.int k (a + b))
  | .sub => InR k (a - b) ∧ K (.int k (a - b))
  | .mul => InR k (a * b) ∧ K (.int k (a * b))
  | .quo => (0 ≤ a ∧ 0 < b ∧ InR k (a / b)) ∧ K (.int k (a / b))
  | .rem => (0 ≤ a ∧ 0 < b) ∧ K (.int k (a % b))
  | .and => K (.int k (bits .and k a b))
  | .or => K (.int k (bits .or k a b))
  | .xor => K (.int k (bits .xor k a b))
  | .andNot => K (.int k (bits .andNot k a b))
  | .eql => K (.bool (a == b))
  | .neq => K (.bool (a != b))
  | .lss => K (.bool (decide (a < b)))
  | .leq => K (.bool (decide (a ≤ b)))
  | .gtr => K (.bool (decide (a > b)))
  | .geq => K (.bool (decide (a ≥ b)))
  | _ => False

def vcStr (op : BinOp) (a b : ByteArray) (K : Value → Prop) : Prop :=
  match op with
  | .add => (a.size + b.size ≤ 4611686018427387904) ∧ K (.string (a ++ b))
  | .eql => K (.bool (seqB a b))
  | .neq => K (.bool (!(seqB a b)))
  | .lss => K (.bool (sltB a b))
  | .leq => K (.bool (sltB a b || seqB a b))
  | .gtr => K (.bool (!(sltB a b || seqB a b)))
  | .geq => K (.bool (!(sltB a b)))
  | _ => False

variable (P : Program)

def eqC (t : TypeId) (x y : Value) (K : Bool → Prop) : Prop :=
  match P.underlying t, x, y with
  | some (.int _), .int k a, .int k' b => cond (eqKind k k') (K (a == b)) False
  | some .bool, .bool a, .bool b => K (a == b)
  | some .string, .string a, .string b => K (seqB a b)
  | _, _, _ => False

/-- Structs of plain cells, cell by cell. -/
def eqFs : List Field → Nat → List Value → List Value → (Bool → Prop) → Prop
  | [], _, [], [], K => K true
  | f :: fs, i, x :: xs, y :: ys, K => cond (!(f.name == "_") && Nat.beq f.offset i && P.plainKey f.type) (eqC P f.type x y fun b => eqFs fs (i + 1) xs ys fun c => K (b && c)) False
  | _, _, _, _, _ => False

def vcBin (t : TypeId) (op : BinOp) (x y : Value) (K : Value → Prop) : Prop :=
  match x, y with
  | .int k a, .int k' b =>
    match op with
    | .shl => 0 ≤ b ∧ K (.int k (k.wrap (a * 2 ^ (min b.toNat k.bits))))
    | .shr => 0 ≤ b ∧ K (.int k (a.fdiv (2 ^ (min b.toNat k.bits))))
    | op => cond (eqKind k k') (vcInt op k a b K) False
  | .string a, .string b => vcStr op a b K
  | .bool a, .bool b =>
    match P.underlying t with
    | some .bool =>
      match op with
      | .eql => K (.bool (a == b))
      | .neq => K (.bool (!(a == b)))
      | _ => False
    | _ => False
  | .slice a _ _, .slice b l c =>
    match P.underlying t, b, l, c with
    | some (.slice _), none, 0, 0 =>
      match op with
      | .eql => K (.bool a.isNone)
      | .neq => K (.bool (!a.isNone))
      | _ => False
    | _, _, _, _ => False
  | .agg xs, .agg ys =>
    match P.underlying t with
    | some (.struct fs) =>
      cond (!(P.eqGuardType P.depth t) && !(P.stoodInHeld t))
        (match op with
         | .eql => eqFs P fs.toList 0 xs.toList ys.toList fun b => K (.bool b)
         | .neq => eqFs P fs.toList 0 xs.toList ys.toList fun b => K (.bool !b)
         | _ => False) False
    | _ => False
  | _, _ => False

def szOf (t : TypeId) : Nat := ((P.info? t).map (·.size)).getD 0

def byteAt (s : ByteArray) (n : Int) : Int := (((s[n.toNat]?).map (·.toNat)).getD 0 : Nat)

def resl (a : Option Addr) (cap l size : Nat) : Option Addr := if cap = l then a else a.map (·.add (l * size))

def optInt (F : Fr) (o : Option Operand) (d : Int) : Int := match o with | none => d | some x => match ev F x with | .int _ n => n | _ => -1

def lenOf : Value → Option Nat
  | .slice _ n _ => some n
  | .string s => some s.size
  | _ => none

/-- The parts of a struct's literal laid over its zero value. -/
def fillL (place : Nat → Option (Nat × Nat)) : List Value → List (Nat × Value) → Option (List Value)
  | cs, [] => some cs
  | cs, (i, v) :: r =>
    match place i with
    | none => none
    | some (off, size) => cond (Nat.beq v.cells.toList.length size && Nat.ble (off + size) cs.length) (fillL place (cs.take off ++ (v.cells.toList ++ cs.drop (off + size))) r) none

def vcBuild (t : TypeId) (parts : List (Nat × Value)) (K : Value → Prop) : Prop :=
  match P.underlying t with
  | some (.struct fs) =>
    match P.info? t with
    | some i =>
      match i.zero with
      | some z =>
        cond (fs.toList.all fun f => (P.info? f.type).isSome)
          (match fillL (fun j => (fs.toList[j]?).map fun f => (f.offset, szOf P f.type)) z.cells.toList parts with
           | some cs => K (.agg cs.toArray)
           | none => False) False
      | none => False
    | none => False
  | _ => False

/-- Operations that neither read nor write memory. -/
def vcPure (F : Fr) (o : Oper) (K : Value → Prop) : Prop :=
  match o.op with
  | .move x => K (ev F x)
  | .assign x => K (ev F x)
  | .pick c a b => match ev F c with | .bool t => br t (K (ev F a)) (K (ev F b)) | _ => False
  | .binOp op t x y _ => vcBin P t op (ev F x) (ev F y) K
  | .unOp op _ x =>
    match op, ev F x with
    | .not, .bool t => K (.bool !t)
    | .neg, .int k n => InR k (0 - n) ∧ K (.int k (0 - n))
    | _, _ => False
  | .index t x i =>
    match P.underlying t, ev F x, ev F i with
    | some .string, .string s, .int _ n => (0 ≤ n ∧ n < s.size) ∧ K (.int .u8 (byteAt s n))
    | _, _, _ => False
  | .indexAddr t x i =>
    match P.underlying t, ev F x, ev F i with
    | some (.slice e), .slice base len _, .int _ n =>
      cond ((P.info? e).isSome) (onSome base fun a => (0 ≤ n ∧ n < len) ∧ K (.pointer (some (a.add (n.toNat * szOf P e))))) False
    | some (.array len e), .pointer base, .int _ n =>
      cond ((P.info? e).isSome) (onSome base fun a => (0 ≤ n ∧ n < len) ∧ K (.pointer (some (a.add (n.toNat * szOf P e))))) False
    | _, _, _ => False
  | .nilCheck x => match ev F x with | .pointer p => onSome p fun a => K (.pointer (some a)) | _ => False
  | .fieldAddr s x f =>
    match P.underlying s, ev F x with
    | some (.struct fs), .pointer p =>
      match fs[f]? with
      | some fd => cond ((P.info? fd.type).isSome && !(Nat.beq (szOf P fd.type) 0)) (onSome p fun a => K (.pointer (some (a.add fd.offset)))) False
      | none => False
    | _, _ => False
  | .field t x f =>
    match P.underlying t, ev F x with
    | some (.struct fs), .agg vs =>
      match fs[f]? with
      | some fd =>
        match aggB P fd.type with
        | true => cond ((P.info? fd.type).isSome) (K (.agg (vs.extract fd.offset (fd.offset + szOf P fd.type)))) False
        | false => cond ((P.underlying fd.type).isSome) (match vs[fd.offset]? with | some v => K v | none => False) False
      | none => False
    | _, _ => False
  | .extract t i => match ev F t with | .tuple vs => (match vs[i]? with | some v => K v | none => False) | _ => False
  | .slice t x lo hi none =>
    match P.underlying t, ev F x with
    | some .string, .string s =>
      (0 ≤ optInt F lo 0 ∧ optInt F lo 0 ≤ optInt F hi s.size ∧ optInt F hi s.size ≤ s.size) ∧ K (.string (s.extract (optInt F lo 0).toNat (optInt F hi s.size).toNat))
    | some (.slice e), .slice a len cap =>
      cond ((P.info? e).isSome) ((0 ≤ optInt F lo 0 ∧ optInt F lo 0 ≤ optInt F hi len ∧ optInt F hi len ≤ cap) ∧
        K (.slice (resl a cap (optInt F lo 0).toNat (szOf P e)) ((optInt F hi len).toNat - (optInt F lo 0).toNat) (cap - (optInt F lo 0).toNat))) False
    | some (.array m e), .pointer p =>
      cond ((P.info? e).isSome) (onSome p fun a => (0 ≤ optInt F lo 0 ∧ optInt F lo 0 ≤ optInt F hi m ∧ optInt F hi m ≤ m) ∧
        K (.slice (resl (some a) m (optInt F lo 0).toNat (szOf P e)) ((optInt F hi m).toNat - (optInt F lo 0).toNat) (m - (optInt F lo 0).toNat))) False
    | _, _ => False
  | .slice t x lo hi (some mx) =>
    match P.underlying t, ev F x with
    | some (.slice e), .slice a _ cap =>
      cond ((P.info? e).isSome && hi.isSome) ((0 ≤ optInt F lo 0 ∧ optInt F lo 0 ≤ optInt F hi (-1) ∧ optInt F hi (-1) ≤ optInt F (some mx) (-1) ∧ optInt F (some mx) (-1) ≤ cap) ∧
        K (.slice (resl a (optInt F (some mx) (-1)).toNat (optInt F lo 0).toNat (szOf P e)) ((optInt F hi (-1)).toNat - (optInt F lo 0).toNat) ((optInt F (some mx) (-1)).toNat - (optInt F lo 0).toNat))) False
    | _, _ => False
  | .build t parts => vcBuild P t (parts.toList.map fun p => (p.1, ev F p.2)) K
  | .convert src dst x =>
    match P.underlying src, P.underlying dst, ev F x with
    | some _, some (.int k), .int _ n => InR k n ∧ K (.int k n)
    | _, _, _ => False
  | .makeFunc fn first captured => K (.func fn (first.toList.map (ev F)).toArray (captured.toList.map (ev F)).toArray)
  | .call { callee := .builtin .len, args, argTypes } =>
    match args.toList, argTypes.toList with
    | [x], [t] =>
      match P.underlying t, ev F x with
      | some (.slice _), .slice _ n _ => K (.int .i64 n)
      | some .string, .string s => K (.int .i64 s.size)
      | _, _ => False
    | _, _ => False
  | .call { callee := .builtin .cap, args, argTypes } =>
    match args.toList, argTypes.toList with
    | [x], [t] =>
      match P.underlying t, ev F x with
      | some (.slice _), .slice _ _ n => K (.int .i64 n)
      | _, _ => False
    | _, _ => False
  | .call { callee := .builtin .max, args, .. } =>
    match args.toList with
    | [x, y] => (match ev F x, ev F y with | .int k a, .int k' b => cond (eqKind k k') (K (.int k (max a b))) False | _, _ => False)
    | _ => False
  | .call { callee := .builtin .min, args, .. } =>
    match args.toList with
    | [x, y] => (match ev F x, ev F y with | .int k a, .int k' b => cond (eqKind k k') (K (.int k (min a b))) False | _, _ => False)
    | _ => False
  | _ => False

/-! ### Memory -/

def ldF : List Sc → Nat → Addr → World → (List Value → Prop) → Prop
  | [], _, _, _, K => K []
  | s :: r, i, a, w, K => s.ex fun v => w.cell? (a.add i) = some v ∧ ldF r (i + 1) a w fun vs => K (v :: vs)

/-- What a variable of type 't' at 'a' holds. -/
def vcLoad (t : TypeId) (a : Addr) (w : World) (K : Value → Prop) : Prop :=
  match aggB P t with
  | true => cond (Nat.beq (szOf P t) (flat P 6 t).length && (P.info? t).isSome) (ldF (flat P 6 t) 0 a w fun vs => K (.agg vs.toArray)) False
  | false => cond ((P.underlying t).isSome) ((scOf P t).ex fun v => w.cell? a = some v ∧ K v) False

/-- The cell is there and may be written. -/
def Wr (w : World) (a : Addr) : Prop := (w.cell? a).isSome = true ∧ w.frozen? a = false

def plainV : Value → Bool
  | .agg _ => false
  | .tuple _ => false
  | _ => true

def stF : List Value → Nat → Addr → World → (World → Prop) → Prop
  | [], _, _, w, K => K w
  | v :: r, i, a, w, K => cond (plainV v) (Wr w (a.add i) ∧ stF r (i + 1) a (w.setCell (a.add i) v) K) False

def vcStore (t : TypeId) (p v : Value) (w : World) (K : World → Prop) : Prop :=
  match p with
  | .pointer q => cond ((P.info? t).isSome && Nat.beq v.cells.size (szOf P t)) (onSome q fun a => stF v.cells.toList 0 a w K) False
  | _ => False

def vcAlloc (t : TypeId) (w : World) (K : Value → World → Prop) : Prop :=
  match P.info? t with
  | some i => (match i.zero with | some z => K (.pointer (some ⟨w.heap.size, 0, none⟩)) (w.alloc (.cells z.cells t)) | none => False)
  | none => False

def vcMake (t : TypeId) (l c : Value) (w : World) (K : Value → World → Prop) : Prop :=
  match P.underlying t, l, c with
  | some (.slice e), .int _ n, .int _ m =>
    match P.info? e with
    | some i =>
      match i.zero with
      | some z => (0 ≤ n ∧ n ≤ m ∧ (i.bytes : Int) * m ≤ 281474976710656 ∧ m ≤ 9223372036854775807) ∧
          K (.slice (some ⟨w.heap.size, 0, none⟩) n.toNat m.toNat) (w.alloc (.cells (madeCells z.cells (m.toNat * i.size)) e))
      | none => False
    | none => False
  | _, _, _ => False

/-- All parts of a slice's literal, in order. -/
def inOrder (size : Nat) : Nat → List (Nat × Value) → Bool
  | _, [] => true
  | k, (i, v) :: r => Nat.beq i k && Nat.beq v.cells.size size && inOrder size (k + 1) r

def partCells : List (Nat × Value) → List Value
  | [] => []
  | (_, v) :: r => v.cells.toList ++ partCells r

def vcBuildSl (t : TypeId) (len : Nat) (parts : List (Nat × Value)) (w : World) (K : Value → World → Prop) : Prop :=
  match P.underlying t with
  | some (.slice e) =>
    match P.info? e with
    | some i => cond (Nat.beq parts.length len && inOrder i.size 0 parts && Nat.ble (len * i.size) 16777216 && i.zero.isSome) (K (.slice (some ⟨w.heap.size, 0, none⟩) len len) (w.alloc (.cells (partCells parts).toArray e))) False
    | none => False
  | _ => False

/-- The source of an append: its cells. -/
def Src (w : World) (x : Sl) (size : Nat) (ys : List Value) : Prop :=
  ys.length = x.len * size ∧ (∀ u ∈ ys, u.oneCell' = true) ∧ ((x.a = none ∧ x.len = 0 ∧ x.cap = 0) ∨ ∃ a, x.a = some a ∧ ∀ j u, ys[j]? = some u → w.cell? (a.add j) = some u)

/-- AN APPEND to a slice that is nil or the call's own; or one into a row that has room. -/
def sAppend (e : TypeId) (size bytes : Nat) (s x : Sl) (w : World) (K : Sl → World → Prop) : Prop :=
  (∃ base xs ys, w.ownsRow base e size s.v s.len xs ∧ Src w x size ys ∧ s.len + x.len ≤ maxLen ∧ (s.len + x.len) * bytes ≤ 140737488355328 ∧ base ≤ w.heap.size ∧
    ∀ s' w', s'.len = s.len + x.len → w'.ownsRow base e size s'.v s'.len (xs ++ ys) → w.grownBy w' s.v.ownBlock → (s'.v = .slice none 0 0 ↔ s.v = .slice none 0 0 ∧ x.len = 0) → (s'.v.ownBlock = s.v.ownBlock ∨ s'.v.ownBlock = some w.heap.size) → K s' w') ∨
  ∃ (g : Nat) (cur ys : List Value) (a : Addr), s.a = some ⟨g, 0, none⟩ ∧ w.heap[g]? = some (.cells cur.toArray e (0, 0)) ∧ ys.length = x.len * size ∧ (∀ u ∈ ys, u.oneCell' = true) ∧ x.a = some a ∧
    (∀ j u, ys[j]? = some u → w.cell? (a.add j) = some u) ∧ s.len + x.len ≤ s.cap ∧ s.len * size + ys.length ≤ cur.length ∧
    K ⟨s.a, s.len + x.len, s.cap⟩ (w.setRow g (cur.take (s.len * size) ++ ys ++ cur.drop (s.len * size + ys.length)).toArray)

/-- Zero cells, 'n' times. -/
def zeroCs (z : Array Value) (n : Nat) : Array Value := Builtin.zeroCells z n

/-- AN APPEND of zeros to a slice that has no room. -/
def sZeros (e : TypeId) (size bytes : Nat) (z : Array Value) (s : Sl) (n : Int) (w : World) (K : Sl → World → Prop) : Prop :=
  ∃ olds : List Value, (olds.length = s.len * size ∧ ((s.a = none ∧ s.len = 0) ∨ ∃ a, s.a = some a ∧ ∀ j u, olds[j]? = some u → w.cell? (a.add j) = some u)) ∧
    (0 < n ∧ (s.cap : Int) < s.len + n ∧ (s.len + n) ≤ 9223372036854775807 ∧ (s.len + n) * bytes ≤ 140737488355328) ∧
    ∀ c, s.len + n.toNat ≤ c → (s.len + n.toNat ≤ maxLen → c ≤ maxLen) → K ⟨some ⟨w.heap.size, 0, none⟩, s.len + n.toNat, c⟩ (w.drew.alloc (.cells (olds.toArray ++ zeroCs z n.toNat ++ zeroCs z (c - (s.len + n.toNat))) e))

/-- A COPY into a row. -/
def sCopy (size : Nat) (d x : Sl) (w : World) (K : Nat → World → Prop) : Prop :=
  ∃ (g o : Nat) (cur : List Value) (t : TypeId) (cs : List Value), d.a = some ⟨g, o, none⟩ ∧ w.heap[g]? = some (.cells cur.toArray t (0, 0)) ∧ cs.length = Nat.min x.len d.len * size ∧ (∀ u ∈ cs, u.oneCell' = true) ∧
    ((x.a = none ∧ x.len = 0) ∨ ∃ a, x.a = some a ∧ ∀ j u, cs[j]? = some u → w.cell? (a.add j) = some u) ∧ o + cs.length ≤ cur.length ∧
    K (Nat.min x.len d.len) (w.setRow g (cur.take o ++ cs ++ cur.drop (o + cs.length)).toArray)

/-- A slice's cells become zeros. -/
def sClear (z : Array Value) (d : Sl) (w : World) (K : World → Prop) : Prop :=
  (d.len = 0 ∧ K w) ∨
  ∃ (g o : Nat) (cur : List Value) (t : TypeId), 0 < d.len ∧ d.a = some ⟨g, o, none⟩ ∧ w.heap[g]? = some (.cells cur.toArray t (0, 0)) ∧ o + (zeroCs z d.len).size ≤ cur.length ∧
    K (w.setRow g (cur.take o ++ (zeroCs z d.len).toList ++ cur.drop (o + (zeroCs z d.len).size)).toArray)

/-- The bytes of a slice as a string. -/
def sStr (s : Sl) (w : World) (K : ByteArray → Prop) : Prop :=
  ∃ bs : List UInt8, bs.length = s.len ∧ (∀ j (c : UInt8), bs[j]? = some c → ∃ a, s.a = some a ∧ w.cell? (a.add j) = some (.int .u8 c.toNat)) ∧ K ⟨bs.toArray⟩

def vcAppend (ts : List TypeId) (xs : List Value) (w : World) (K : Value → World → Prop) : Prop :=
  match ts, xs with
  | [t, t'], [.slice sa sl sc, .slice xa xl xc] =>
    match P.underlying t with
    | some (.slice e) =>
      match P.info? e with
      | some i =>
        match i.zero with
        | some z => cond (Nat.beq t t' && Nat.beq z.cells.size i.size && Nat.ble 1 i.size) (sAppend e i.size i.bytes ⟨sa, sl, sc⟩ ⟨xa, xl, xc⟩ w fun s' w' => K (.slice s'.a s'.len s'.cap) w') False
        | none => False
      | none => False
    | _ => False
  | [t, tn], [.slice sa sl sc, .int .i64 n] =>
    match P.underlying t, P.underlying tn with
    | some (.slice e), some (.int _) =>
      match P.info? e with
      | some i =>
        match i.zero with
        | some z => cond (Nat.beq z.cells.size i.size && Nat.ble 1 i.size) (sZeros e i.size i.bytes z.cells ⟨sa, sl, sc⟩ n w fun s' w' => K (.slice s'.a s'.len s'.cap) w') False
        | none => False
      | none => False
    | _, _ => False
  | _, _ => False

def vcCopy (ts : List TypeId) (xs : List Value) (w : World) (K : Value → World → Prop) : Prop :=
  match ts, xs with
  | [t, t'], [.slice da dl dc, .slice xa xl xc] =>
    match P.underlying t with
    | some (.slice e) =>
      match P.info? e with
      | some i => cond (Nat.beq t t' && Nat.ble 1 i.size) (sCopy i.size ⟨da, dl, dc⟩ ⟨xa, xl, xc⟩ w fun n w' => K (.int .i64 n) w') False
      | none => False
    | _ => False
  | _, _ => False

def vcClear (ts : List TypeId) (xs : List Value) (w : World) (K : Value → World → Prop) : Prop :=
  match ts, xs with
  | [t], [.slice da dl dc] =>
    match P.underlying t with
    | some (.slice e) =>
      match P.info? e with
      | some i =>
        match i.zero with
        | some z => cond (z.cells.toList.all plainV) (sClear z.cells ⟨da, dl, dc⟩ w fun w' => K (.tuple #[]) w') False
        | none => False
      | none => False
    | _ => False
  | _, _ => False

def bytesB (t : TypeId) : Bool :=
  match P.underlying t with
  | some (.slice e) => (match P.underlying e with | some (.int .u8) => true | _ => false)
  | _ => false

def strB (t : TypeId) : Bool := match P.underlying t with | some .string => true | _ => false

/-- Conversions that read memory. -/
def vcConv (src dst : TypeId) (x : Value) (w : World) (K : Value → Prop) : Prop :=
  match x with
  | .slice a l c => cond (bytesB P src && strB P dst) (sStr ⟨a, l, c⟩ w fun s => K (.string s)) False
  | _ => False

def memConv (src : TypeId) : Bool := bytesB P src

def vcCall (F : Fr) (c : Call) (ty : TypeId) (w : World) (K : Value → World → Prop) : Prop :=
  match c.callee with
  | .value f =>
    match ev F f with
    | .func (.func fid) first cap => CallR P fid (first.toList ++ c.args.toList.map (ev F) ++ cap.toList) w fun v w' => exRet P ty v fun u => K u w'
    | _ => False
  | .builtin .append => vcAppend P c.argTypes.toList (c.args.toList.map (ev F)) w K
  | .builtin .copy => vcCopy P c.argTypes.toList (c.args.toList.map (ev F)) w K
  | .builtin .clear => vcClear P c.argTypes.toList (c.args.toList.map (ev F)) w K
  | _ => False

def isPureCall : Callee → Bool
  | .builtin .cap => true
  | .builtin .len => true
  | .builtin .max => true
  | .builtin .min => true
  | _ => false

/-- One operation. -/
def vcOp (F : Fr) (o : Oper) (w : World) (K : Value → World → Prop) : Prop :=
  match o.op with
  | .load t a => (match ev F a with | .pointer q => onSome q fun ad => vcLoad P t ad w fun v => K v w | _ => False)
  | .store t a v => vcStore P t (ev F a) (ev F v) w fun w' => K undef w'
  | .alloc t => vcAlloc P t w K
  | .box t v => K (.pointer (some ⟨w.heap.size, 0, none⟩)) (w.alloc (.cells (ev F v).cells t))
  | .makeSlice t l c => vcMake P t (ev F l) (ev F c) w K
  | .buildSlice t len parts => vcBuildSl P t len (parts.toList.map fun p => (p.1, ev F p.2)) w K
  | .call c => cond (isPureCall c.callee) (vcPure P F o fun v => K v w) (vcCall P F c o.type w K)
  | .convert src dst x => cond (memConv P src) (vcConv P src dst (ev F x) w fun v => K v w) (vcPure P F o fun v => K v w)
  | _ => vcPure P F o fun v => K v w

/-- An operation that only computes. -/
def pureO (o : Oper) : Bool :=
  match o.op with
  | .move _ => true
  | .assign _ => true
  | .pick _ _ _ => true
  | .binOp _ _ _ _ _ => true
  | .unOp _ _ _ => true
  | .index _ _ _ => true
  | .indexAddr _ _ _ => true
  | .nilCheck _ => true
  | .fieldAddr _ _ _ => true
  | .extract _ _ => true
  | .field _ _ _ => true
  | .slice _ _ _ _ _ => true
  | .build _ _ => true
  | .makeFunc _ _ _ => true
  | .convert src _ _ => !memConv P src
  | .call c => isPureCall c.callee
  | _ => false

/-- An operation of a region that draws its order: it reads, computes, or calls what only reads; 'w0': the world ahead of the region. -/
def qOpV (F : Fr) (o : Oper) (w0 : World) (K : Value → Prop) : Prop :=
  match o.op with
  | .load t a => (match ev F a with | .pointer q => onSome q fun ad => vcLoad P t ad w0 K | _ => False)
  | .convert src dst x => cond (memConv P src) (vcConv P src dst (ev F x) w0 K) (vcPure P F o K)
  | .call c =>
    match isPureCall c.callee with
    | true => vcPure P F o K
    | false =>
      match c.callee with
      | .value f =>
        match ev F f with
        | .func (.func fid) first cap =>
          (tyOf P o.type).ex fun u => (∀ w, Below w0.heap.size w0 w → CallB P fid (first.toList ++ c.args.toList.map (ev F) ++ cap.toList) w fun v w' => v = u ∧ Below w0.heap.size w0 w') ∧ K u
        | _ => False
      | _ => False
  | _ => vcPure P F o K

/-! ## Regions -/

def dstOf (all : List Oper) (j : Nat) : Option Nat := (all[j]?).bind (·.dst)

def vcOps (all : List Oper) : List Oper → Fr → World → (Fr → World → Prop) → Prop
  | [], F, w, K => K F w
  | o :: rest, F, w, K =>
    match o.guard with
    | none => vcOp P F o w fun v w' => vcOps all rest (updo F o.dst v) w' K
    | some (j, want) =>
      match dstOf all j with
      | none => False
      | some d =>
        match F d with
        | .bool b =>
          br b
            (cond want (vcOp P (upd F d (.bool true)) o w fun v w' => vcOps all rest (updo (upd F d (.bool true)) o.dst v) w' K) (vcOps all rest (updo (upd F d (.bool true)) o.dst undef) w K))
            (cond want (vcOps all rest (updo (upd F d (.bool false)) o.dst undef) w K) (vcOp P (upd F d (.bool false)) o w fun v w' => vcOps all rest (updo (upd F d (.bool false)) o.dst v) w' K))
        | _ => vcOps all rest (updo F o.dst undef) w K

def vcQ (all : List Oper) (w0 : World) : List Oper → Fr → (Fr → Prop) → Prop
  | [], F, K => K F
  | o :: rest, F, K =>
    match o.guard with
    | none => qOpV P F o w0 fun v => vcQ all w0 rest (updo F o.dst v) K
    | some (j, want) =>
      match dstOf all j with
      | none => False
      | some d =>
        match F d with
        | .bool b =>
          br b
            (cond want (qOpV P (upd F d (.bool true)) o w0 fun v => vcQ all w0 rest (updo (upd F d (.bool true)) o.dst v) K) (vcQ all w0 rest (updo (upd F d (.bool true)) o.dst undef) K))
            (cond want (vcQ all w0 rest (updo (upd F d (.bool false)) o.dst undef) K) (qOpV P (upd F d (.bool false)) o w0 fun v => vcQ all w0 rest (updo (upd F d (.bool false)) o.dst v) K))
        | _ => vcQ all w0 rest (updo F o.dst undef) K

/-! ## Loops -/

def StOf : List (Nat × Sc) → Type
  | [] => Unit
  | (_, s) :: r => s.T × StOf r

def setSt : (l : List (Nat × Sc)) → StOf l → Fr → Fr
  | [], _, F => F
  | (i, s) :: r, x, F => upd (setSt r x.2 F) i (s.enc x.1)

def withSt : (l : List (Nat × Sc)) → Fr → (StOf l → Prop) → Prop
  | [], _, K => K ()
  | (i, s) :: r, F, K => s.dec (F i) fun x => withSt r F fun y => K (x, y)

def memb (i : Nat) : List Nat → Bool
  | [] => false
  | j :: r => cond (Nat.beq i j) true (memb i r)

def mix (F H : Fr) (ms : List Nat) : Fr := fun i => cond (memb i ms) (H i) (F i)

/-- A LOOP: an invariant, a measure, a round. -/
def sLoop {σ : Type} (s0 : σ) (w0 : World) (round : (σ → World → Prop) → σ → World → Prop) : Prop :=
  ∃ (I : σ → World → Prop) (μ : σ → World → Nat), I s0 w0 ∧ ∀ s w, I s w → round (fun s' w' => I s' w' ∧ μ s' w' < μ s w) s w

theorem sLoop.intro {σ : Type} {s0 : σ} {w0 : World} {round : (σ → World → Prop) → σ → World → Prop} (I : σ → World → Prop) (μ : σ → World → Nat) (h0 : I s0 w0)
    (h : ∀ (s : σ) (w : World) (K : σ → World → Prop), I s w → (∀ s' w', I s' w' → μ s' w' < μ s w → K s' w') → round K s w) : sLoop s0 w0 round :=
  ⟨I, μ, h0, fun s w hI => h s w _ hI fun _ _ h1 h2 => ⟨h1, h2⟩⟩

def writesOps : List Oper → List Nat
  | [] => []
  | o :: r => match o.dst with | some d => d :: writesOps r | none => writesOps r

def writes : Code → List Nat
  | .region _ ops _ => writesOps ops.toList
  | .seq a b => writes a ++ writes b
  | .cond _ a b => writes a ++ writes b
  | .block _ c => writes c
  | .loop c => writes c
  | .scope c => writes c
  | _ => []

inductive Ex where
  | normal
  | exit (id : Nat)
  | ret

/-! ### Regions that draw their order -/

/-- How an operation takes part: it computes · it reads, and no effect is unordered with it · it reads, and one is · an effect with which a reading is unordered · another effect. -/
inductive Cls where
  | p | l | f | e | w

/-- What an operation waits for, one bit each ('acc': the same of those ahead). -/
def maskOf (acc : List Nat) (o : Oper) : Nat := o.after.toList.foldl (fun m e => cond (Region.binds .any e) (m ||| (1 <<< e.on ||| acc.getD e.on 0)) m) 0

def masksFrom : List Oper → List Nat → List Nat
  | [], acc => acc
  | o :: r, acc => masksFrom r (acc ++ [maskOf acc o])

def waitsM (M : List Nat) (j i : Nat) : Bool := (M.getD j 0).testBit i

def loadO (o : Oper) : Bool :=
  match o.op with
  | .load _ _ => true
  | .convert src _ _ => memConv P src
  | _ => false

/-- What an operation is by itself: computing, reading, an effect. -/
def kindO (o : Oper) : Cls := cond (pureO P o) .p (cond (loadO P o) .l .w)

def looseM (M : List Nat) (k j : Nat) : Bool := !(Nat.beq k j) && !(waitsM M k j) && !(waitsM M j k)

def anyLoose (M : List Nat) (k : Nat) (want : Cls → Bool) : List Oper → Nat → Bool
  | [], _ => false
  | o :: r, j => (want (kindO P o) && looseM M k j) || anyLoose M k want r (j + 1)

def isW : Cls → Bool
  | .w => true
  | _ => false

def isL : Cls → Bool
  | .l => true
  | _ => false

def clsOf (M : List Nat) (all : List Oper) (k : Nat) (o : Oper) : Cls :=
  match kindO P o with
  | .p => .p
  | .l => cond (anyLoose P M k isW all 0) .f .l
  | _ => cond (anyLoose P M k isL all 0) .e .w

def okPair : Cls → Cls → Bool
  | .p, _ => true
  | _, .p => true
  | .l, .l => true
  | .l, .f => true
  | .f, .l => true
  | .f, .f => true
  | .f, .e => true
  | .e, .f => true
  | _, _ => false

def backOnly (o : Oper) (k : Nat) : Bool := o.after.toList.all fun e => !(Region.binds .any e) || Nat.blt e.on k

def pairsOk (ops : Array Oper) (M : List Nat) (k : Nat) (o : Oper) (c : Cls) : List Oper → List Cls → Nat → Bool
  | o' :: r, c' :: cs, j => (waitsM M j k || (o.apart ops o' && okPair c c')) && pairsOk ops M k o c r cs (j + 1)
  | [], _, _ => true
  | _, [], _ => false

def lexC (ops : Array Oper) (M : List Nat) : List Oper → List Cls → Nat → Bool
  | o :: r, c :: cs, k => backOnly o k && pairsOk ops M k o c r cs (k + 1) && lexC ops M r cs (k + 1)
  | [], _, _ => true
  | _, [], _ => false

def clsList (M : List Nat) (all : List Oper) : List Oper → Nat → List Cls
  | [], _ => []
  | o :: r, k => clsOf P M all k o :: clsList M all r (k + 1)

def mixB (ops : Array Oper) (M : List Nat) (cl : List Cls) : Bool := Region.noSelect ops && lexC ops M ops.toList cl 0

def plainCls : Cls → Bool
  | .f => false
  | .e => false
  | _ => true

def ldC : List Sc → Nat → Addr → (World → Prop) → (List Value → Prop) → Prop
  | [], _, _, _, K => K []
  | s :: r, i, a, C, K => s.ex fun v => (∀ w, C w → w.cell? (a.add i) = some v) ∧ ldC r (i + 1) a C fun vs => K (v :: vs)

/-- What a variable holds in every world of a class. -/
def vcLoadC (t : TypeId) (a : Addr) (C : World → Prop) (K : Value → Prop) : Prop :=
  match aggB P t with
  | true => cond (Nat.beq (szOf P t) (flat P 6 t).length && (P.info? t).isSome) (ldC (flat P 6 t) 0 a C fun vs => K (.agg vs.toArray)) False
  | false => cond ((P.underlying t).isSome) ((scOf P t).ex fun v => (∀ w, C w → w.cell? a = some v) ∧ K v) False

def sStrC (s : Sl) (C : World → Prop) (K : ByteArray → Prop) : Prop :=
  ∃ bs : List UInt8, bs.length = s.len ∧ (∀ j (c : UInt8), bs[j]? = some c → ∃ a, s.a = some a ∧ ∀ w, C w → w.cell? (a.add j) = some (.int .u8 c.toNat)) ∧ K ⟨bs.toArray⟩

def vcConvC (src dst : TypeId) (x : Value) (C : World → Prop) (K : Value → Prop) : Prop :=
  match x with
  | .slice a l c => cond (bytesB P src && strB P dst) (sStrC ⟨a, l, c⟩ C fun s => K (.string s)) False
  | _ => False

/-- A reading with which an effect is unordered: in every world of the class. -/
def fOp (F : Fr) (o : Oper) (C : World → Prop) (K : Value → Prop) : Prop :=
  match o.op with
  | .load t a => (match ev F a with | .pointer q => onSome q fun ad => vcLoadC P t ad C K | _ => False)
  | .convert src dst x => vcConvC P src dst (ev F x) C K
  | _ => False

def mOpV (C : World → Prop) (c : Cls) (F : Fr) (o : Oper) (w : World) (K : Value → World → Prop) : Prop :=
  match c with
  | .f => C w ∧ fOp P F o C fun v => K v w
  | .e => C w ∧ vcOp P F o w fun v w' => C w' ∧ K v w'
  | _ => vcOp P F o w K

def vcM (all : List Oper) (C : World → Prop) : List Oper → List Cls → Fr → World → (Fr → World → Prop) → Prop
  | o :: rest, c :: cs, F, w, K =>
    match o.guard with
    | none => mOpV P C c F o w fun v w' => vcM all C rest cs (updo F o.dst v) w' K
    | some (j, want) =>
      match dstOf all j with
      | none => False
      | some d =>
        match F d with
        | .bool b =>
          br b
            (cond want (mOpV P C c (upd F d (.bool true)) o w fun v w' => vcM all C rest cs (updo (upd F d (.bool true)) o.dst v) w' K) (vcM all C rest cs (updo (upd F d (.bool true)) o.dst undef) w K))
            (cond want (vcM all C rest cs (updo (upd F d (.bool false)) o.dst undef) w K) (mOpV P C c (upd F d (.bool false)) o w fun v w' => vcM all C rest cs (updo (upd F d (.bool false)) o.dst v) w' K))
        | _ => vcM all C rest cs (updo F o.dst undef) w K
  | [], _, F, w, K => K F w
  | _, [], _, _, _ => False

/-- A class of worlds that holds what comes behind here. -/
def sClass (w : World) (B : (World → Prop) → Prop) : Prop := ∃ C : World → Prop, (∀ w', Below w.heap.size w w' → C w') ∧ B C

/-! ### Regions that draw their order, walked in every order -/

/-- The classes in such a region: only a plain load is taken for all worlds of the class. -/
def clsT (M : List Nat) (all : List Oper) (k : Nat) (o : Oper) : Cls :=
  match kindO P o with
  | .p => .p
  | .l => match o.op with | .load _ _ => cond (anyLoose P M k isW all 0) .f .l | _ => .l
  | _ => cond (anyLoose P M k isL all 0) .e .w

def clsListT (M : List Nat) (all : List Oper) : List Oper → Nat → List Cls
  | [], _ => []
  | o :: r, k => clsT P M all k o :: clsListT M all r (k + 1)

def freeAt (ops : Array Oper) (M : List Nat) (k : Nat) (o : Oper) (c : Cls) : List Oper → List Cls → Nat → Bool
  | o' :: r, c' :: cs, j => (Nat.beq j k || waitsM M j k || waitsM M k j || (o.apart ops o' && okPair c c')) && freeAt ops M k o c r cs (j + 1)
  | [], _, _ => true
  | _, [], _ => false

def freeList (ops : Array Oper) (M : List Nat) (cl : List Cls) : List Oper → List Cls → Nat → List Bool
  | o :: r, c :: cs, k => freeAt ops M k o c ops.toList cl 0 :: freeList ops M cl r cs (k + 1)
  | _, _, _ => []

def readyB (m : Nat) (o : Oper) : Bool := o.after.toList.all fun e => !(Region.binds .any e) || m.testBit e.on

def readyL (m : Nat) : List Oper → Nat → List Nat
  | [], _ => []
  | o :: r, k => cond (!(m.testBit k) && readyB m o) (k :: readyL m r (k + 1)) (readyL m r (k + 1))

def findFree (fr : List Bool) : List Nat → Option Nat
  | [] => none
  | i :: r => cond (fr.getD i false) (some i) (findFree fr r)

def allOf (G : Nat → Prop) : List Nat → Prop
  | [] => True
  | [i] => G i
  | i :: j :: r => G i ∧ allOf G (j :: r)

def stepM (all : List Oper) (C : World → Prop) (cl : List Cls) (i : Nat) (F : Fr) (w : World) (K : Fr → World → Prop) : Prop :=
  match all[i]? with
  | none => False
  | some o =>
    match o.guard with
    | none => mOpV P C (cl.getD i .p) F o w fun v w' => K (updo F o.dst v) w'
    | some (j, want) =>
      match dstOf all j with
      | none => False
      | some d =>
        match F d with
        | .bool b =>
          br b
            (cond want (mOpV P C (cl.getD i .p) (upd F d (.bool true)) o w fun v w' => K (updo (upd F d (.bool true)) o.dst v) w') (K (updo (upd F d (.bool true)) o.dst undef) w))
            (cond want (K (updo (upd F d (.bool false)) o.dst undef) w) (mOpV P C (cl.getD i .p) (upd F d (.bool false)) o w fun v w' => K (updo (upd F d (.bool false)) o.dst v) w'))
        | _ => K (updo F o.dst undef) w

def vcT (all : List Oper) (C : World → Prop) (cl : List Cls) (fr : List Bool) (K : Fr → World → Prop) : Nat → Nat → Fr → World → Prop
  | 0, m, F, w => match readyL m all 0 with | [] => K F w | _ => False
  | f + 1, m, F, w =>
    match findFree fr (readyL m all 0) with
    | some i => stepM P all C cl i F w fun F' w' => vcT all C cl fr K f (m ||| 1 <<< i) F' w'
    | none =>
      match readyL m all 0 with
      | [] => K F w
      | i :: r => allOf (fun j => stepM P all C cl j F w fun F' w' => vcT all C cl fr K f (m ||| 1 <<< j) F' w') (i :: r)

/-- What holds behind a region, whatever its order; then the rest. -/
def sJoin {σ : Type} (A : (σ → World → Prop) → Prop) (B : σ → World → Prop) : Prop := ∃ R : σ → World → Prop, A R ∧ ∀ s w, R s w → B s w

def treeA (l : List (Nat × Sc)) (ops : Array Oper) (M : List Nat) (cl : List Cls) (C : World → Prop) (F : Fr) (w : World) (R : StOf l → World → Prop) : Prop :=
  ∀ w', Below w.heap.size w w' → vcT P ops.toList C cl (freeList ops M cl ops.toList cl 0) (fun F' w'' => withSt l F' fun s => R s w'') ops.toList.length 0 F w'

def vcTree (l : List (Nat × Sc)) (ops : Array Oper) (M : List Nat) (cl : List Cls) (F : Fr) (w : World) (K : Fr → World → Prop) : Prop :=
  cond (Region.noSelect ops)
    (sJoin (σ := StOf l)
      (fun R =>
        match cl.all plainCls with
        | true => treeA P l ops M cl (fun _ => True) F w R
        | false => sClass w fun C => treeA P l ops M cl C F w R)
      (fun s w' => ∀ H : Fr, K (setSt l s (mix F H (writesOps ops.toList))) w')) False

/-- A region of which no operation writes. -/
def quietO (o : Oper) : Bool :=
  pureO P o || loadO P o || (match o.op with | .call c => (match c.callee with | .value _ => true | _ => false) | _ => false)

def vcDrawM (l : List (Nat × Sc)) (ops : Array Oper) (M : List Nat) (cl : List Cls) (F : Fr) (w : World) (K : Fr → World → Prop) : Prop :=
  match mixB ops M cl with
  | true =>
    match cl.all plainCls with
    | true => ∀ w', Below w.heap.size w w' → vcM P ops.toList (fun _ => True) ops.toList cl F w' K
    | false => sClass w fun C => ∀ w', Below w.heap.size w w' → vcM P ops.toList C ops.toList cl F w' K
  | false =>
    match ops.toList.all (quietO P) with
    | true => cond (Region.lexB .any ops) (vcQ P ops.toList w ops.toList F fun F' => ∀ w', Below w.heap.size w w' → K F' w') False
    | false => vcTree P l ops M (clsListT P M ops.toList ops.toList 0) F w K

def vcDraw (l : List (Nat × Sc)) (ops : Array Oper) (F : Fr) (w : World) (K : Fr → World → Prop) : Prop :=
  vcDrawM P l ops (masksFrom ops.toList []) (clsList P (masksFrom ops.toList []) ops.toList ops.toList 0) F w K

def vcCode (ann : Nat → List (Nat × Sc)) : Nat → Code → (Ex → Fr → World → Prop) → Fr → World → Prop
  | _, .skip, Q, F, w => Q .normal F w
  | _, .region _ ops false, Q, F, w => vcOps P ops.toList ops.toList F w (Q .normal)
  | _, .region id ops true, Q, F, w => vcDraw P (ann (1000000 + id)) ops F w (Q .normal)
  | b, .seq x y, Q, F, w => vcCode ann b x (fun e F' w' => match e with | .normal => vcCode ann b y Q F' w' | .exit i => Q (.exit i) F' w' | .ret => Q .ret F' w') F w
  | b, .cond c x y, Q, F, w => match ev F c with | .bool t => br t (vcCode ann b x Q F w) (vcCode ann b y Q F w) | _ => False
  | b, .loop c, Q, F, w =>
    withSt (ann b) F fun s0 => sLoop s0 w fun K s w' => ∀ H : Fr,
      vcCode ann b c (fun e F' w'' => match e with
        | .normal => withSt (ann b) F' fun s' => K s' w''
        | .exit i => Q (.exit i) F' w''
        | .ret => Q .ret F' w'') (setSt (ann b) s (mix F H (writes c))) w'
  | _, .block id c, Q, F, w => vcCode ann id c (fun e F' w' => match e with
      | .normal => Q .normal F' w'
      | .exit i => cond (Nat.beq i id) (Q .normal F' w') (Q (.exit i) F' w')
      | .ret => Q .ret F' w') F w
  | _, .exit id, Q, F, w => Q (.exit id) F w
  | _, .ret, Q, F, w => Q .ret F w
  | _, _, _, _, _ => False

def annOf (l : List (Nat × List (Nat × Sc))) (b : Nat) : List (Nat × Sc) :=
  match l with
  | [] => []
  | (i, x) :: r => cond (Nat.beq i b) x (annOf r b)

/-! ## Functions -/

def vcRes : List ResultVar → Fr → World → (List Value → Prop) → Prop
  | [], _, _, K => K []
  | .tmp t :: r, F, w, K => vcRes r F w fun vs => K (F t :: vs)
  | .cell a t :: r, F, w, K => (match F a with | .pointer q => onSome q fun ad => vcLoad P t ad w fun v => vcRes r F w fun vs => K (v :: vs) | _ => False)

def oneOrTuple : List Value → Value
  | [v] => v
  | vs => .tuple vs.toArray

def frOf : List Value → Fr
  | [] => fun _ => undef
  | v :: r => fun i => match i with | 0 => v | i + 1 => frOf r i

def vcBody (fn : Func) (ann : Nat → List (Nat × Sc)) (args : List Value) (w : World) (Φ : Value → World → Prop) : Prop :=
  match fn.body with
  | some c => vcCode P ann 0 c (fun e F w' => match e with
      | .normal => vcRes P fn.results.toList F w' fun vs => Φ (oneOrTuple vs) w'
      | .exit _ => False
      | .ret => vcRes P fn.results.toList F w' fun vs => Φ (oneOrTuple vs) w') (frOf args) w
  | none => False

def allLt (n : Nat) : List Nat → Bool
  | [] => true
  | i :: r => Nat.blt i n && allLt n r

def okFn (fn : Func) (k : Nat) : Bool :=
  match fn.body with
  | some c => allLt fn.ntmps (writes c) && Nat.ble k fn.ntmps && !(fn.name == "runtime.NumGoroutine") && P.follows .mixedOrders
  | none => false

/-! ## Soundness: single operations -/

section
variable {P : Program}

def RunsTo (P : Program) (s : Sem Next) (w : World) (K : Value → World → Prop) : Prop :=
  match s.run P w with
  | .ok (.value v) w' => K v w'
  | .ok .skip w' => K undef w'
  | .ok (.enter f args) w' => Calls P f args w' fun e w'' => ∃ v, e = .returned v ∧ K v w''
  | _ => False

theorem wp_of_runsTo {o : Oper} {a : Act} {w : World} {K : Value → World → Prop} {nx : Act → World → Prop} {Q : Exit → Act → World → Prop}
    (h : RunsTo P (execOp a.eval o) w K) (hk : ∀ v w', K v w' → nx (a.put o.dst v) w') : o.wp P a w nx Q := by
  unfold Oper.wp RunsTo at *
  generalize (execOp a.eval o).run P w = r at *
  cases r with
  | ok n w' =>
    cases n <;> first
      | exact h.elim
      | exact hk _ _ h
      | exact Calls.mono h fun e w'' ⟨v, he, hv⟩ => by subst he; exact hk _ _ hv
  | halt x w' => exact h.elim

theorem runsTo_value {s : Sem Next} {w w' : World} {v : Value} {K : Value → World → Prop} (h : s.run P w = .ok (.value v) w') (hk : K v w') : RunsTo P s w K := by
  unfold RunsTo; rw [h]; exact hk
theorem runsTo_skip {s : Sem Next} {w w' : World} {K : Value → World → Prop} (h : s.run P w = .ok .skip w') (hk : K undef w') : RunsTo P s w K := by
  unfold RunsTo; rw [h]; exact hk
theorem runsTo_enter {s : Sem Next} {w w' : World} {f : FuncId} {args : Array Value} {K : Value → World → Prop} (h : s.run P w = .ok (.enter f args) w')
    (hk : Calls P f args w' fun e w'' => ∃ v, e = .returned v ∧ K v w'') : RunsTo P s w K := by
  unfold RunsTo; rw [h]; exact hk

theorem onSome_spec {α : Type} {o : Option α} {K : α → Prop} (h : onSome o K) : ∃ a, o = some a ∧ K a := by
  cases o with
  | none => exact h.elim
  | some a => exact ⟨a, rfl, h⟩

theorem br_spec {b : Bool} {A B : Prop} (h : br b A B) : (b = true ∧ A) ∨ (b = false ∧ B) := by
  cases b with
  | true => exact .inl ⟨rfl, h⟩
  | false => exact .inr ⟨rfl, h⟩

theorem cond_spec {b : Bool} {A : Prop} (h : cond b A False) : b = true ∧ A := by
  cases b with
  | true => exact ⟨rfl, h⟩
  | false => exact h.elim

theorem info_of_isSome {t : TypeId} (h : (P.info? t).isSome = true) : ∃ i, P.info? t = some i ∧ szOf P t = i.size := by
  cases hi : P.info? t with
  | none => rw [hi] at h; cases h
  | some i => exact ⟨i, rfl, by simp [szOf, hi]⟩

theorem vcInt_spec {t : TypeId} {op : BinOp} {k : IntKind} {a b : Int} {K : Value → Prop} (h : vcInt op k a b K) : ∃ v, K v ∧ ∀ w : World, (binOp op t (.int k a) (.int k b)).run P w = .ok v w := by
  cases op <;> simp only [vcInt] at h
  case add => exact ⟨_, h.2, fun w => by simp [binOp, Op.intArith, show k.wrap _ = _ from h.1]⟩
  case sub => exact ⟨_, h.2, fun w => by simp [binOp, Op.intArith, show k.wrap _ = _ from h.1]⟩
  case mul => exact ⟨_, h.2, fun w => by simp [binOp, Op.intArith, show k.wrap _ = _ from h.1]⟩
  case quo =>
    obtain ⟨⟨h1, h2, h3⟩, h4⟩ := h
    refine ⟨_, h4, fun w => ?_⟩
    have hb : b ≠ 0 := by omega
    have ht : a.tdiv b = a / b := by rw [Int.tdiv_eq_ediv_of_nonneg h1]
    simp [binOp, Op.intDiv, hb, ht, show k.wrap _ = _ from h3]
  case rem =>
    obtain ⟨⟨h1, h2⟩, h4⟩ := h
    refine ⟨_, h4, fun w => ?_⟩
    have hb : b ≠ 0 := by omega
    have ht : a.tmod b = a % b := Int.tmod_eq_emod_of_nonneg h1
    simp [binOp, Op.intDiv, hb, ht]
  case and => exact ⟨_, h, fun w => by rw [binOp_and, intBits_and]; rfl⟩
  case or => exact ⟨_, h, fun w => by rw [binOp_or, intBits_or]; rfl⟩
  case xor => exact ⟨_, h, fun w => by rw [binOp_xor, intBits_xor]; rfl⟩
  case andNot => exact ⟨_, h, fun w => by rw [binOp_andNot, intBits_andNot]; rfl⟩
  case eql => exact ⟨_, h, fun w => by simp [binOp, Op.intCmp]⟩
  case neq => exact ⟨_, h, fun w => by simp [binOp, Op.intCmp]⟩
  case lss => exact ⟨_, h, fun w => by simp [binOp, Op.intCmp]⟩
  case leq => exact ⟨_, h, fun w => by simp [binOp, Op.intCmp]⟩
  case gtr => exact ⟨_, h, fun w => by simp [binOp, Op.intCmp]⟩
  case geq => exact ⟨_, h, fun w => by simp [binOp, Op.intCmp]⟩

theorem vcStr_spec {t : TypeId} {op : BinOp} {a b : ByteArray} {K : Value → Prop} (h : vcStr op a b K) : ∃ v, K v ∧ ∀ w : World, (binOp op t (.string a) (.string b)).run P w = .ok v w := by
  cases op <;> simp only [vcStr] at h <;> first
    | exact h.elim
    | exact ⟨_, h, fun w => by simp [binOp, Op.stringOp, seqB, sltB]⟩
    | (refine ⟨_, h.2, fun w => ?_⟩
       have h1 : ¬ (((a.size + b.size : Nat) : Int) > IntKind.i64.max) := by have := h.1; rw [IntKind.max_i64]; omega
       simp only [binOp, Op.stringOp, if_neg h1]
       rfl)

theorem run_equal_bool {t : TypeId} {a b : Bool} (hu : P.underlying t = some .bool) (w : World) : (Op.equal t (.bool a) (.bool b)).run P w = .ok (a == b) w := by
  unfold Op.equal Op.maxDepth Op.equalIn
  rw [Sem.run_bind, run_underlying hu]
  rfl

theorem eqC_spec {t : TypeId} {x y : Value} {K : Bool → Prop} (h : eqC P t x y K) : ∃ b, K b ∧ ∀ w : World, (Op.equalIn 9999 t x y).run P w = .ok b w := by
  unfold eqC at h
  split at h
  · rename_i k0 k a k' b hu
    obtain ⟨hk, hh⟩ := cond_spec h
    clear h
    obtain rfl := eqKind_eq hk
    exact ⟨_, hh, fun w => run_equalIn_int w 9998 t k k0 a b hu⟩
  · rename_i a b hu
    exact ⟨_, h, fun w => run_equalIn_bool' w 9998 t a b hu⟩
  · rename_i a b hu
    exact ⟨_, h, fun w => run_equalIn_string w 9998 t a b hu⟩
  · exact h.elim

theorem eqFs_spec {xs ys : Array Value} : ∀ {fs : List Field} {i : Nat} {l r : List Value} {K : Bool → Prop}, (∀ j, l[j]? = xs[i + j]?) → (∀ j, r[j]? = ys[i + j]?) → eqFs P fs i l r K →
    ∃ b, K b ∧ ∀ w : World, (Op.eqFields 9999 xs ys fs).run P w = .ok b w
  | [], i, [], [], K, _, _, h => ⟨true, h, fun w => rfl⟩
  | f :: fs, i, x :: l, y :: r, K, hl, hr, h => by
    unfold eqFs at h
    obtain ⟨hc, h⟩ := cond_spec h
    simp only [Bool.and_eq_true, Bool.not_eq_true', beq_eq_false_iff_ne, ne_eq] at hc
    obtain ⟨⟨hn, ho⟩, hp⟩ := hc
    replace ho : f.offset = i := Nat.eq_of_beq_eq_true ho
    obtain ⟨b, h, hrun⟩ := eqC_spec h
    obtain ⟨c, h, hrest⟩ := eqFs_spec (i := i + 1) (fun j => by have := hl (j + 1); simpa [Nat.add_assoc, Nat.add_comm 1 j] using this) (fun j => by have := hr (j + 1); simpa [Nat.add_assoc, Nat.add_comm 1 j] using this) h
    refine ⟨_, h, fun w => ?_⟩
    have hx : xs[f.offset]? = some x := by rw [ho]; have := hl 0; simpa using this.symm
    have hy : ys[f.offset]? = some y := by rw [ho]; have := hr 0; simpa using this.symm
    unfold Op.eqFields
    rw [if_pos hn]
    simp only [Sem.run_bind, run_part_plain w hp hx, run_part_plain w hp hy, Result.andThen_ok, hrun w]
    cases b with
    | false => simp
    | true => simpa using hrest w
  | [], _, _ :: _, _, _, _, _, h => (by unfold eqFs at h; exact h.elim)
  | [], _, [], _ :: _, _, _, _, h => (by unfold eqFs at h; exact h.elim)
  | _ :: _, _, [], _, _, _, _, h => (by unfold eqFs at h; exact h.elim)
  | _ :: _, _, _ :: _, [], _, _, _, h => (by unfold eqFs at h; exact h.elim)

theorem vcBin_spec {t : TypeId} {op : BinOp} {x y : Value} {ox oy : Operand} {K : Value → Prop} (h : vcBin P t op x y K) :
    ∃ v, K v ∧ ∀ w : World, (do eqGuard op t ox oy x y; binOp op t x y : Sem Value).run P w = .ok v w := by
  unfold vcBin at h
  split at h
  · rename_i k a k' b
    have hg : eqGuard op t ox oy (.int k a) (.int k' b) = pure () := eqGuard_at_int ..
    split at h
    · refine ⟨_, h.2, fun w => ?_⟩
      have : ¬ b < 0 := by have := h.1; omega
      simp [eqGuard_at_int, binOp, Op.shift, this]
    · refine ⟨_, h.2, fun w => ?_⟩
      have : ¬ b < 0 := by have := h.1; omega
      simp [eqGuard_at_int, binOp, Op.shift, this]
    · obtain ⟨hk, hi⟩ := cond_spec h
      clear h
      obtain rfl := eqKind_eq hk
      obtain ⟨v, hv, hr⟩ := vcInt_spec (P := P) (t := t) hi
      exact ⟨v, hv, fun w => by rw [hg]; exact hr w⟩
  · rename_i a b
    have hg : eqGuard op t ox oy (.string a) (.string b) = pure () := eqGuard_at_string ..
    obtain ⟨v, hv, hr⟩ := vcStr_spec (P := P) (t := t) h
    exact ⟨v, hv, fun w => by rw [hg]; exact hr w⟩
  · rename_i a b
    have hg : eqGuard op t ox oy (.bool a) (.bool b) = pure () := eqGuard_at_bool ..
    split at h
    · rename_i hu
      split at h
      · exact ⟨_, h, fun w => by rw [eqGuard_at_bool]; simp only [binOp, Sem.run_bind, Sem.run_pure, Result.andThen_ok, run_equal_bool hu]⟩
      · exact ⟨_, h, fun w => by rw [eqGuard_at_bool]; simp only [binOp, Sem.run_bind, Sem.run_pure, Result.andThen_ok, run_equal_bool hu]⟩
      · exact h.elim
    · exact h.elim
  · rename_i a la ca b l c
    split at h
    · rename_i e hu
      have hg : eqGuard op t ox oy (.slice a la ca) (.slice none 0 0) = pure () := by cases op <;> rfl
      split at h
      · exact ⟨_, h, fun w => by rw [hg]; simp only [binOp, Sem.run_bind, Sem.run_pure, Result.andThen_ok, run_equal_slice_nil w t e a la ca hu]⟩
      · exact ⟨_, h, fun w => by rw [hg]; simp only [binOp, Sem.run_bind, Sem.run_pure, Result.andThen_ok, run_equal_slice_nil w t e a la ca hu]⟩
      · exact h.elim
    · exact h.elim
  · rename_i xs ys
    split at h
    · rename_i fs hu
      obtain ⟨hc, h⟩ := cond_spec h
      simp only [Bool.and_eq_true, Bool.not_eq_true'] at hc
      have hfs : P.fieldsOf t = fs := by simp [Program.fieldsOf, hu]
      have hu' : P.underlying t = some (.struct (P.fieldsOf t)) := by rw [hfs]; exact hu
      have key : ∀ K : Bool → Prop, eqFs P fs.toList 0 xs.toList ys.toList K → ∃ b, K b ∧ ∀ w : World, (Op.equalIn 10000 t (.agg xs) (.agg ys)).run P w = .ok b w := fun K hk => by
        obtain ⟨b, hb, hr⟩ := eqFs_spec (xs := xs) (ys := ys) (by simp) (by simp) hk
        exact ⟨b, hb, fun w => by rw [run_equalIn_agg w 9999 t xs ys hu' hc.2, hfs]; exact hr w⟩
      split at h
      · obtain ⟨b, hb, hr⟩ := key _ h
        exact ⟨_, hb, fun w => by rw [Sem.run_bind, run_eqGuard_agg w .eql t ox oy xs ys hc.1, Result.andThen_ok, run_eql_struct, hr w]; rfl⟩
      · obtain ⟨b, hb, hr⟩ := key _ h
        exact ⟨_, hb, fun w => by rw [Sem.run_bind, run_eqGuard_agg w .neq t ox oy xs ys hc.1, Result.andThen_ok, run_neq_struct, hr w]; rfl⟩
      · exact h.elim
    · exact h.elim
  · exact h.elim

theorem run_loadVar_scalar {t : TypeId} {a : Addr} {w : World} {v : Value} (hu : (P.underlying t).isSome = true) (hagg : aggB P t = false) (hc : w.cell? a = some v) : (loadVar t a).run P w = .ok v w := by
  cases hd : P.underlying t with
  | none => rw [hd] at hu; cases hu
  | some d =>
    have : (isAgg t).run P w = .ok false w := by
      unfold aggB at hagg
      rw [hd] at hagg
      cases d <;> first | (simp at hagg; done) | simp [isAgg, run_underlying hd]
    simp [loadVar, this, hc]

theorem ldF_spec : ∀ {l : List Sc} {i : Nat} {a : Addr} {w : World} {K : List Value → Prop}, ldF l i a w K →
    ∃ vs, vs.length = l.length ∧ (∀ j u, vs[j]? = some u → w.cell? (a.add (i + j)) = some u) ∧ K vs
  | [], _, _, _, _, h => ⟨[], rfl, by simp, h⟩
  | s :: r, i, a, w, K, h => by
    obtain ⟨v, hv, h'⟩ := Sc.ex_spec (s := s) h
    obtain ⟨vs, hl, hc, hk⟩ := ldF_spec h'
    refine ⟨v :: vs, by simp [hl], ?_, hk⟩
    intro j u hu
    cases j with
    | zero => simp at hu; subst hu; simpa using hv
    | succ j => simp at hu; have := hc j u hu; rwa [Nat.add_assoc, Nat.add_comm 1 j] at this

theorem run_loadVar_agg {t : TypeId} {a : Addr} {w : World} {vs : List Value} (hagg : aggB P t = true) (hb : (Nat.beq (szOf P t) (flat P 6 t).length && (P.info? t).isSome) = true) (hl : vs.length = (flat P 6 t).length)
    (hc : ∀ j u, vs[j]? = some u → w.cell? (a.add (0 + j)) = some u) : (loadVar t a).run P w = .ok (.agg vs.toArray) w := by
  simp only [Bool.and_eq_true] at hb
  obtain ⟨i, hi, hs⟩ := info_of_isSome hb.2
  have hn : i.size = vs.length := by rw [hl, ← hs]; exact Nat.eq_of_beq_eq_true hb.1
  have hagg' : (isAgg t).run P w = .ok true w := by
    unfold aggB at hagg
    split at hagg
    · rename_i hd; simp [isAgg, run_underlying hd]
    · rename_i hd; simp [isAgg, run_underlying hd]
    · cases hagg
  have hld := run_loadCells_list (P := P) w a vs (by simpa using hc)
  simp [loadVar, hagg', sizeOf, typeInfo, hi, hn, hld]

theorem vcLoad_spec {t : TypeId} {a : Addr} {w : World} {K : Value → Prop} (h : vcLoad P t a w K) : ∃ v, (loadVar t a).run P w = .ok v w ∧ K v := by
  unfold vcLoad at h
  split at h
  · rename_i hagg
    obtain ⟨hb0, h⟩ := cond_spec h
    obtain ⟨vs, hl, hc, hk⟩ := ldF_spec h
    exact ⟨_, run_loadVar_agg hagg hb0 hl hc, hk⟩
  · rename_i hagg
    obtain ⟨hu, h⟩ := cond_spec h
    obtain ⟨v, hc, hk⟩ := Sc.ex_spec h
    exact ⟨v, run_loadVar_scalar hu hagg hc, hk⟩

theorem stF_spec (P : Program) : ∀ {l : List Value} {i : Nat} {a : Addr} {w : World} {K : World → Prop}, stF l i a w K → ∃ w', (storeCells a l i).run P w = .ok () w' ∧ K w'
  | [], _, _, w, _, h => ⟨w, by simp [storeCells], h⟩
  | v :: r, i, a, w, K, h => by
    obtain ⟨hp, hw, h'⟩ := cond_spec h
    obtain ⟨w', hr, hk⟩ := stF_spec P h'
    refine ⟨w', ?_, hk⟩
    have hst : (store (a.add i) v).run P w = .ok () (w.setCell (a.add i) v) := by
      obtain ⟨u, hu⟩ := Option.isSome_iff_exists.1 hw.1
      cases v <;> first | (simp [plainV] at hp; done) | simp [store, Sem.run, hu, hw.2]
    simp [storeCells, hst, hr]

theorem foldl_splice (off : Nat) (vs : List Value) : ∀ (j : Nat) (cs : List Value), off + j + vs.length ≤ cs.length →
    (vs.zipIdx j).foldl (fun (acc : Array Value) (x : Value × Nat) => acc.setIfInBounds (off + x.2) x.1) cs.toArray = (cs.take (off + j) ++ (vs ++ cs.drop (off + j + vs.length))).toArray := by
  induction vs with
  | nil => intro j cs _; simp
  | cons v vs ih =>
    intro j cs h
    simp only [List.length_cons] at h
    simp only [List.zipIdx_cons, List.foldl_cons, List.setIfInBounds_toArray]
    rw [ih (j + 1) (cs.set (off + j) v) (by simp; omega)]
    congr 1
    have e1 : (cs.set (off + j) v).take (off + (j + 1)) = cs.take (off + j) ++ [v] := by
      rw [show off + (j + 1) = (off + j) + 1 by omega, List.take_succ_eq_append_getElem (by simp; omega)]
      simp [List.take_set]
      apply List.set_eq_of_length_le
      simp; omega
    have e2 : (cs.set (off + j) v).drop (off + (j + 1) + vs.length) = cs.drop (off + j + (vs.length + 1)) := by
      rw [List.drop_set_of_lt (by omega)]
      congr 1; omega
    rw [e1, e2]
    simp

theorem fill_step {place : Nat → Option (Nat × Nat)} {cs : List Value} {i : Nat} {v : Value} {r : List (Nat × Value)} {off size : Nat} (hp : place i = some (off, size))
    (hv : v.cells.toList.length = size) (hle : off + size ≤ cs.length) :
    Instr.fill place cs.toArray ((i, v) :: r) = Instr.fill place (cs.take off ++ (v.cells.toList ++ cs.drop (off + size))).toArray r := by
  have hz : v.cells.zipIdx.foldl (fun cs (c, j) => cs.setIfInBounds (off + j) c) cs.toArray = (cs.take off ++ (v.cells.toList ++ cs.drop (off + size))).toArray := by
    have h1 := foldl_splice off v.cells.toList 0 cs (by omega)
    simp only [Nat.add_zero, hv] at h1
    rw [← h1, ← Array.foldl_toList, Array.toList_zipIdx]
  have hvs : v.cells.size = size := by simpa using hv
  have hsz : ¬ (v.cells.size ≠ size) := by simp [hvs]
  have hle' : ¬ (off + v.cells.size > cs.toArray.size) := by simp [hvs]; omega
  simp only [Instr.fill, hp, hsz, hle', decide_false, Bool.or_self, Bool.false_eq_true, if_false, hz]

theorem fillL_spec {place : Nat → Option (Nat × Nat)} : ∀ {parts : List (Nat × Value)} {cs out : List Value}, fillL place cs parts = some out → Instr.fill place cs.toArray parts = some out.toArray
  | [], cs, out, h => by simp only [fillL, Option.some.injEq] at h; subst h; rfl
  | (i, v) :: r, cs, out, h => by
    unfold fillL at h
    cases hp : place i with
    | none => rw [hp] at h; cases h
    | some os =>
      obtain ⟨off, size⟩ := os
      rw [hp] at h
      dsimp only at h
      cases hb : (Nat.beq v.cells.toList.length size && Nat.ble (off + size) cs.length) with
      | false => rw [hb] at h; cases h
      | true =>
        rw [hb] at h
        simp only [Bool.and_eq_true] at hb
        rw [fill_step hp (Nat.eq_of_beq_eq_true hb.1) (Nat.le_of_ble_eq_true hb.2)]
        exact fillL_spec h

theorem fill_inOrder (size : Nat) : ∀ (parts : List (Nat × Value)) (k : Nat) (pre post : List Value), inOrder size k parts = true → pre.length = k * size → post.length = parts.length * size →
    Instr.fill (fun i => some (i * size, size)) (pre ++ post).toArray parts = some (pre ++ partCells parts).toArray
  | [], k, pre, post, _, _, hpost => by
    have : post = [] := List.eq_nil_of_length_eq_zero (by simpa using hpost)
    subst this
    simp [Instr.fill, partCells]
  | (i, v) :: r, k, pre, post, h, hpre, hpost => by
    simp only [inOrder, Bool.and_eq_true] at h
    obtain ⟨⟨hi, hv⟩, hr⟩ := h
    obtain rfl : i = k := Nat.eq_of_beq_eq_true hi
    have hvs : v.cells.toList.length = size := by simpa using Nat.eq_of_beq_eq_true hv
    have hpl : post.length = size + r.length * size := by simp only [List.length_cons, Nat.add_mul, Nat.one_mul] at hpost; omega
    rw [fill_step (off := i * size) (size := size) rfl hvs (by simp [hpre, hpl])]
    have e1 : (pre ++ post).take (i * size) = pre := by rw [← hpre]; simp
    have e2 : (pre ++ post).drop (i * size + size) = post.drop size := by rw [← hpre]; simp [List.drop_append]
    rw [e1, e2, ← List.append_assoc]
    have ih := fill_inOrder size r (i + 1) (pre ++ v.cells.toList) (post.drop size) hr (by simp only [List.length_append, hpre, hvs, Nat.add_mul, Nat.one_mul]) (by simp [hpl])
    rw [ih]
    simp [partCells]

theorem map_toArray (F : Fr) (l : Array Operand) : l.map (ev F) = (l.toList.map (ev F)).toArray := by
  rw [← Array.toList_map]

theorem optInt_spec {F : Fr} {o : Option Operand} {d : Int} (h : 0 ≤ optInt F o d) (_hd : 0 ≤ d) : (o = none ∧ optInt F o d = d) ∨ ∃ x k, o = some x ∧ ev F x = .int k (optInt F o d) := by
  cases o with
  | none => exact .inl ⟨rfl, rfl⟩
  | some x =>
    right
    unfold optInt at h ⊢
    dsimp only at h ⊢
    cases hx : ev F x <;> rw [hx] at h <;> first | (simp at h; done) | exact ⟨x, _, rfl, hx⟩

theorem run_sliceBounds {b : Bool} {F : Fr} {lo hi : Option Operand} {len cap : Nat} {w : World} 
    (h0 : 0 ≤ optInt F lo 0) (h1 : optInt F lo 0 ≤ optInt F hi len) (h2 : optInt F hi len ≤ cap) :
    (Instr.sliceBounds b len cap (lo.map (ev F)) (hi.map (ev F)) none).run P w = .ok ((optInt F lo 0).toNat, (optInt F hi len).toNat, cap) w := by
  rcases optInt_spec (F := F) (o := hi) (d := len) (by omega) (by omega) with ⟨rfl, hh⟩ | ⟨x, k, rfl, hx⟩
  · rcases optInt_spec (F := F) (o := lo) (d := 0) h0 (Int.le_refl 0) with ⟨rfl, hl⟩ | ⟨y, k', rfl, hy⟩
    · simp [Instr.sliceBounds, optInt]
    · simp only [Instr.sliceBounds, Option.map_some, Option.map_none, hy]
      have e1 : optInt F none (len : Int) = len := rfl
      rw [e1] at h1 ⊢
      simp [Instr.sliceBound, asIntOf, h0, h1]
  · rcases optInt_spec (F := F) (o := lo) (d := 0) h0 (Int.le_refl 0) with ⟨rfl, hl⟩ | ⟨y, k', rfl, hy⟩
    · have e1 : optInt F none (0 : Int) = 0 := rfl
      rw [e1] at h1 ⊢
      simp only [Instr.sliceBounds, Option.map_some, Option.map_none, hx]
      simp [Instr.sliceBound, asIntOf, h1, h2]
    · simp only [Instr.sliceBounds, Option.map_some, hx, hy]
      generalize optInt F (some x) (len : Int) = p at *
      generalize optInt F (some y) 0 = q at *
      have e3 : 0 ≤ p := by omega
      have e4 : q ≤ ((p.toNat : Nat) : Int) := by omega
      have e5 : (Instr.sliceBound (.int k p) cap (if b = true then .sliceAcap else .sliceAlen)).run P w = .ok p.toNat w := by
        simp [Instr.sliceBound, asIntOf, e3, h2]
      have e6 : (Instr.sliceBound (.int k' q) p.toNat .sliceB).run P w = .ok q.toNat w := by
        unfold Instr.sliceBound
        simp only [asIntOf, Sem.run_bind, Sem.run_pure, Result.andThen_ok]
        rw [if_pos ⟨h0, e4⟩]
        rfl
      simp [e5, e6]

theorem run_sliceBounds3 {F : Fr} {lo hi : Option Operand} {mx : Operand} {len cap : Nat} {w : World}
    (h0 : 0 ≤ optInt F lo 0) (h1 : optInt F lo 0 ≤ optInt F hi (-1)) (h2 : optInt F hi (-1) ≤ optInt F (some mx) (-1)) (h3 : optInt F (some mx) (-1) ≤ cap) :
    (Instr.sliceBounds true len cap (lo.map (ev F)) (hi.map (ev F)) (some (ev F mx))).run P w = .ok ((optInt F lo 0).toNat, (optInt F hi (-1)).toNat, (optInt F (some mx) (-1)).toNat) w := by
  obtain ⟨km, hm⟩ : ∃ k, ev F mx = .int k (optInt F (some mx) (-1)) := by
    have : 0 ≤ optInt F (some mx) (-1) := by omega
    unfold optInt at this ⊢
    dsimp only at this ⊢
    cases hx : ev F mx <;> rw [hx] at this <;> first | (simp at this; done) | exact ⟨_, rfl⟩
  generalize optInt F (some mx) (-1) = m at *
  cases hi with
  | none =>
    have e1 : optInt F none (-1) = -1 := rfl
    rw [e1] at h1
    omega
  | some x =>
    obtain ⟨k, hx⟩ : ∃ k, ev F x = .int k (optInt F (some x) (-1)) := by
      have : 0 ≤ optInt F (some x) (-1) := by omega
      unfold optInt at this ⊢
      dsimp only at this ⊢
      cases hx : ev F x <;> rw [hx] at this <;> first | (simp at this; done) | exact ⟨_, rfl⟩
    generalize optInt F (some x) (-1) = p at *
    have em : (Instr.sliceBound (.int km m) cap .slice3Acap).run P w = .ok m.toNat w := by
      have : 0 ≤ m := by omega
      simp [Instr.sliceBound, asIntOf, this, h3]
    have ep : (Instr.sliceBound (.int k p) m.toNat .slice3B).run P w = .ok p.toNat w := by
      have : 0 ≤ p := by omega
      have : p ≤ ((m.toNat : Nat) : Int) := by omega
      unfold Instr.sliceBound
      simp only [asIntOf, Sem.run_bind, Sem.run_pure, Result.andThen_ok]
      rw [if_pos ⟨by omega, this⟩]
      rfl
    rcases optInt_spec (F := F) (o := lo) (d := 0) h0 (Int.le_refl 0) with ⟨rfl, hl⟩ | ⟨y, k', rfl, hy⟩
    · simp only [Instr.sliceBounds, Option.map_some, Option.map_none, hx, hm, if_true]
      simp [em, ep, optInt]
    · simp only [Instr.sliceBounds, Option.map_some, hx, hy, hm, if_true]
      generalize optInt F (some y) 0 = q at *
      have e4 : q ≤ ((p.toNat : Nat) : Int) := by omega
      have eq : (Instr.sliceBound (.int k' q) p.toNat .slice3C).run P w = .ok q.toNat w := by
        unfold Instr.sliceBound
        simp only [asIntOf, Sem.run_bind, Sem.run_pure, Result.andThen_ok]
        rw [if_pos ⟨h0, e4⟩]
        rfl
      simp [em, ep, eq]

theorem run_mapM_cons {α β : Type} {f : α → Sem β} {x : α} {l : List α} {w : World} {a : β} {r : List β} (h1 : (f x).run P w = .ok a w) (h2 : (l.mapM f).run P w = .ok r w) :
    ((x :: l).mapM f).run P w = .ok (a :: r) w := by
  rw [List.mapM_cons, Sem.run_bind, h1, Result.andThen_ok, Sem.run_bind, h2]
  rfl

theorem parts_map (F : Fr) (l : Array (Nat × Operand)) : (l.map fun (i, x) => (i, ev F x)).toList = l.toList.map fun p => (p.1, ev F p.2) := by
  simp

theorem vcBuild_spec {t : TypeId} {parts : Array (Nat × Value)} {K : Value → Prop} (h : vcBuild P t parts.toList K) :
    ∃ v, K v ∧ ∀ w : World, (Instr.build t parts).run P w = .ok v w := by
  unfold vcBuild at h
  split at h
  · rename_i fs hu
    split at h
    · rename_i i hi
      split at h
      · rename_i z hz
        obtain ⟨hb, h⟩ := cond_spec h
        split at h
        · rename_i cs hcs
          refine ⟨_, h, fun w => ?_⟩
          have hpl : ∀ (l : List Field), (l.all fun f => (P.info? f.type).isSome) = true → (l.mapM (fun f => do pure (f.offset, ← sizeOf f.type) : Field → Sem (Nat × Nat))).run P w = .ok (l.map fun f : Field => (f.offset, szOf P f.type)) w := by
            intro l
            induction l with
            | nil => intro _; simp
            | cons f l ih =>
              intro hl
              simp only [List.all_cons, Bool.and_eq_true] at hl
              obtain ⟨j, hj, hs⟩ := info_of_isSome hl.1
              have h1 : (sizeOf f.type).run P w = .ok (szOf P f.type) w := by simp [sizeOf, typeInfo, hj, hs]
              exact run_mapM_cons (by rw [Sem.run_bind, h1]; rfl) (ih hl.2)
          have hpl' := hpl fs.toList hb
          have hfill := fillL_spec hcs
          have e1 : (fun j : Nat => (fs.toList[j]?).map fun f : Field => (f.offset, szOf P f.type)) = (fun j => ((fs.toList.map fun f : Field => (f.offset, szOf P f.type)).toArray)[j]?) := by
            funext j; simp
          rw [e1] at hfill
          simp only [Array.toArray_toList] at hfill
          have hz' : (zeroValue t).run P w = .ok z w := by simp [zeroValue, typeInfo, hi, hz]
          have hplaces : (fs.mapM (fun f => do pure (f.offset, ← sizeOf f.type) : Field → Sem (Nat × Nat))).run P w = .ok (fs.toList.map fun f : Field => (f.offset, szOf P f.type)).toArray w := by
            rw [Array.mapM_eq_mapM_toList, Sem.run_map, hpl']
            rfl
          unfold Instr.build
          rw [Sem.run_bind, hz', Result.andThen_ok, Sem.run_bind, run_underlying hu, Result.andThen_ok]
          dsimp only
          rw [Sem.run_bind, hplaces, Result.andThen_ok, hfill]
          rfl
        · exact h.elim
      · exact h.elim
    · exact h.elim
  · exact h.elim

set_option maxHeartbeats 1000000 in
/-- A pure operation: its value, in every world. -/
theorem vcPure_spec {F : Fr} {o : Oper} {K : Value → Prop} (h : vcPure P F o K) : ∃ v, K v ∧ ∀ w : World, (execOp (ev F) o).run P w = .ok (.value v) w := by
  unfold vcPure at h
  split at h
  · rename_i x hop; exact ⟨_, h, fun w => by simp [execOp, hop]⟩
  · rename_i x hop; exact ⟨_, h, fun w => by simp [execOp, hop]⟩
  · rename_i c a b hop
    split at h
    · rename_i t ht
      rcases br_spec h with ⟨rfl, h⟩ | ⟨rfl, h⟩
      · exact ⟨_, h, fun w => by simp [execOp, hop, ht, asBool]⟩
      · exact ⟨_, h, fun w => by simp [execOp, hop, ht, asBool]⟩
    · exact h.elim
  · rename_i op t x y yt hop
    obtain ⟨v, hv, hr⟩ := vcBin_spec (P := P) (ox := x) (oy := y) h
    exact ⟨v, hv, fun w => by have := hr w; simp only [execOp, hop, Sem.run_bind, this]; rfl⟩
  · rename_i op t x hop
    split at h
    · rename_i b hx; exact ⟨_, h, fun w => by simp [execOp, hop, hx, Op.unary]⟩
    · rename_i k n hx
      exact ⟨_, h.2, fun w => by
        have h1 : k.wrap (0 - n) = 0 - n := h.1
        simp only [execOp, hop, hx, Op.unary, Op.intArith, h1, Sem.run_bind, Sem.run_pure, Result.andThen_ok]⟩
    · exact h.elim
  · rename_i t x i hop
    split at h
    · rename_i s k n hu hx hi
      obtain ⟨⟨h0, h1⟩, h⟩ := h
      refine ⟨_, h, fun w => ?_⟩
      have hlt : n.toNat < s.size := by omega
      have hs : s[n.toNat]? = some s[n.toNat] := getElem?_pos s n.toNat hlt
      simp [execOp, hop, hx, hi, Instr.index, asIntOf, run_underlying hu, h0, hs, byteAt]
    · exact h.elim
  · rename_i t x i hop
    split at h
    · rename_i e base len cap k n hu hx hi
      obtain ⟨hinf, h⟩ := cond_spec h
      obtain ⟨inf, hinf, hsz⟩ := info_of_isSome hinf
      obtain ⟨a, rfl, ⟨h0, h1⟩, h⟩ := onSome_spec h
      refine ⟨_, h, fun w => ?_⟩
      simp [execOp, hop, hx, hi, Instr.indexAt, asIntOf, run_underlying hu, h0, h1, sizeOf, typeInfo, hinf, hsz]
    · rename_i len e base k n hu hx hi
      obtain ⟨hinf, h⟩ := cond_spec h
      obtain ⟨inf, hinf, hsz⟩ := info_of_isSome hinf
      obtain ⟨a, rfl, ⟨h0, h1⟩, h⟩ := onSome_spec h
      refine ⟨_, h, fun w => ?_⟩
      simp [execOp, hop, hx, hi, Instr.indexAt, Instr.sureAddr, asIntOf, run_underlying hu, h0, h1, sizeOf, typeInfo, hinf, hsz]
    · exact h.elim
  · rename_i x hop
    split at h
    · rename_i p hx
      obtain ⟨a, rfl, h⟩ := onSome_spec h
      exact ⟨_, h, fun w => by simp [execOp, hop, hx]⟩
    · exact h.elim
  · rename_i s x f hop
    split at h
    · rename_i fs p hu hx
      split at h
      · rename_i fd hf
        obtain ⟨hb, h⟩ := cond_spec h
        simp only [Bool.and_eq_true, Bool.not_eq_true'] at hb
        obtain ⟨inf, hinf, hsz⟩ := info_of_isSome hb.1
        have hne : ¬ inf.size = 0 := by rw [← hsz]; exact Nat.ne_of_beq_eq_false hb.2
        obtain ⟨a, rfl, h⟩ := onSome_spec h
        refine ⟨_, h, fun w => ?_⟩
        simp [execOp, hop, hx, Instr.fieldAt, Instr.sureAddr, run_underlying hu, hf, fieldPlace, sizeOf, typeInfo, hinf, hne]
      · exact h.elim
    · exact h.elim
  · rename_i t x f hop
    split at h
    · rename_i fs vs hu hx
      split at h
      · rename_i fd hf
        split at h
        · rename_i hagg
          obtain ⟨hinf, h⟩ := cond_spec h
          obtain ⟨inf, hinf, hsz⟩ := info_of_isSome hinf
          refine ⟨_, h, fun w => ?_⟩
          have hagg' : (isAgg fd.type).run P w = .ok true w := by
            unfold aggB at hagg
            split at hagg
            · rename_i hd; simp [isAgg, run_underlying hd]
            · rename_i hd; simp [isAgg, run_underlying hd]
            · cases hagg
          simp [execOp, hop, hx, Instr.field, run_underlying hu, hf, asAgg, part, hagg', sizeOf, typeInfo, hinf, hsz]
        · rename_i hagg
          obtain ⟨hd, h⟩ := cond_spec h
          split at h
          · rename_i v hv
            refine ⟨_, h, fun w => ?_⟩
            have hagg' : (isAgg fd.type).run P w = .ok false w := by
              cases hd' : P.underlying fd.type with
              | none => rw [hd'] at hd; cases hd
              | some d =>
                unfold aggB at hagg
                rw [hd'] at hagg
                cases d <;> first | (simp at hagg; done) | simp [isAgg, run_underlying hd']
            simp [execOp, hop, hx, Instr.field, run_underlying hu, hf, asAgg, part, hagg', hv]
          · exact h.elim
      · exact h.elim
    · exact h.elim
  · rename_i t i hop
    split at h
    · rename_i vs ht
      split at h
      · rename_i v hv; exact ⟨_, h, fun w => by simp [execOp, hop, ht, Instr.extract, hv]⟩
      · exact h.elim
    · exact h.elim
  · rename_i t x lo hi hop
    split at h
    · rename_i s hu hx
      obtain ⟨⟨h0, h1, h2⟩, h⟩ := h
      refine ⟨_, h, fun w => ?_⟩
      have hb := run_sliceBounds (P := P) (b := false) (F := F) (lo := lo) (hi := hi) (w := w) h0 h1 h2
      simp only [execOp, hop, hx, Instr.sliceAt, Instr.slice, Sem.run_bind, run_underlying hu, Result.andThen_ok, Option.map_none, Option.isSome_none, Bool.false_eq_true, if_false, hb]
      simp [hb]
    · rename_i e a len cap hu hx
      obtain ⟨hinf, h⟩ := cond_spec h
      obtain ⟨inf, hinf, hsz⟩ := info_of_isSome hinf
      obtain ⟨⟨h0, h1, h2⟩, h⟩ := h
      refine ⟨_, h, fun w => ?_⟩
      have hb := run_sliceBounds (P := P) (b := true) (F := F) (lo := lo) (hi := hi) (len := len) (cap := cap) (w := w) h0 h1 h2
      simp only [execOp, hop, hx, Instr.sliceAt, Instr.slice, Sem.run_bind, run_underlying hu, Result.andThen_ok, Option.map_none, hb, sizeOf, typeInfo, program, Sem.run, hinf, resl, hsz]
      rfl
    · rename_i m e p hu hx
      obtain ⟨hinf, h⟩ := cond_spec h
      obtain ⟨inf, hinf, hsz⟩ := info_of_isSome hinf
      obtain ⟨a, rfl, ⟨h0, h1, h2⟩, h⟩ := onSome_spec h
      refine ⟨_, h, fun w => ?_⟩
      have hb := run_sliceBounds (P := P) (b := false) (F := F) (lo := lo) (hi := hi) (len := m) (cap := m) (w := w) h0 h1 h2
      simp only [execOp, hop, hx, Instr.sliceAt, Instr.sureAddr, Sem.run_bind, run_underlying hu, Result.andThen_ok, Option.map_none, hb, sizeOf, typeInfo, program, Sem.run, hinf, resl, hsz, Sem.run_pure]
      by_cases hm : m = (optInt F lo 0).toNat <;> simp [hm] <;> rfl
    · exact h.elim
  · rename_i t x lo hi mx hop
    split at h
    · rename_i e a len cap hu hx
      obtain ⟨hinf, h⟩ := cond_spec h
      simp only [Bool.and_eq_true] at hinf
      obtain ⟨hinf, hhi⟩ := hinf
      obtain ⟨inf, hinf, hsz⟩ := info_of_isSome hinf
      obtain ⟨⟨h0, h1, h2, h3⟩, h⟩ := h
      refine ⟨_, h, fun w => ?_⟩
      have hb := run_sliceBounds3 (P := P) (F := F) (lo := lo) (hi := hi) (mx := mx) (len := len) (cap := cap) (w := w) h0 h1 h2 h3
      simp only [execOp, hop, hx, Instr.sliceAt, Instr.slice, Sem.run_bind, run_underlying hu, Result.andThen_ok, Option.map_some, hb, sizeOf, typeInfo, program, Sem.run, hinf, resl, hsz]
      rfl
    · exact h.elim
  · rename_i t parts hop
    rw [← parts_map] at h
    obtain ⟨v, hv, hr⟩ := vcBuild_spec h
    refine ⟨v, hv, fun w => ?_⟩
    have := hr w
    simp only [execOp, hop, Sem.run_bind, this, Result.andThen_ok]
    rfl
  · rename_i src dst x hop
    split at h
    · rename_i d k kk n hs hd hx
      refine ⟨_, h.2, fun w => ?_⟩
      simp [execOp, hop, hx, convert, run_underlying hs, run_underlying hd, Conv.intToInt, show k.wrap _ = _ from h.1]
    · exact h.elim
  · rename_i fn first captured hop
    refine ⟨_, h, fun w => ?_⟩
    simp only [execOp, hop, Instr.makeFunc, map_toArray F, Sem.run_bind, Sem.run_pure, Result.andThen_ok]
  · rename_i args argTypes hop
    split at h
    · rename_i x t ha ht
      have ea : args = #[x] := by rw [← Array.toArray_toList (xs := args), ha]
      have et : argTypes = #[t] := by rw [← Array.toArray_toList (xs := argTypes), ht]
      subst ea et
      split at h
      · rename_i e a n c hu hx; exact ⟨_, h, fun w => by simp [execOp, hop, resolve, invoke, builtin, Builtin.len_, run_underlying hu, hx, goInt]⟩
      · rename_i s hu hx; exact ⟨_, h, fun w => by simp [execOp, hop, resolve, invoke, builtin, Builtin.len_, run_underlying hu, hx, goInt]⟩
      · exact h.elim
    · exact h.elim
  · rename_i args argTypes hop
    split at h
    · rename_i x t ha ht
      have ea : args = #[x] := by rw [← Array.toArray_toList (xs := args), ha]
      have et : argTypes = #[t] := by rw [← Array.toArray_toList (xs := argTypes), ht]
      subst ea et
      split at h
      · rename_i e a n c hu hx; exact ⟨_, h, fun w => by simp [execOp, hop, resolve, invoke, builtin, Builtin.cap_, run_underlying hu, hx, goInt]⟩
      · exact h.elim
    · exact h.elim
  · rename_i args argTypes hop
    split at h
    · rename_i x y ha
      have ea : args = #[x, y] := by rw [← Array.toArray_toList (xs := args), ha]
      subst ea
      split at h
      · rename_i k a k' b hx hy
        obtain ⟨hk, hi⟩ := cond_spec h
        clear h
        obtain rfl := eqKind_eq hk
        refine ⟨_, hi, fun w => ?_⟩
        have : (if b > a then b else a) = max a b := by rw [Int.max_def]; split <;> split <;> omega
        simp [execOp, hop, resolve, invoke, builtin, Builtin.max_, Builtin.max2, hx, hy, ← this]
      · exact h.elim
    · exact h.elim
  · rename_i args argTypes hop
    split at h
    · rename_i x y ha
      have ea : args = #[x, y] := by rw [← Array.toArray_toList (xs := args), ha]
      subst ea
      split at h
      · rename_i k a k' b hx hy
        obtain ⟨hk, hi⟩ := cond_spec h
        clear h
        obtain rfl := eqKind_eq hk
        refine ⟨_, hi, fun w => ?_⟩
        have : (if b < a then b else a) = min a b := by rw [Int.min_def]; split <;> split <;> omega
        simp [execOp, hop, resolve, invoke, builtin, Builtin.min_, Builtin.min2, hx, hy, ← this]
      · exact h.elim
    · exact h.elim
  · exact h.elim

end

/-! ## Regions that draw their order: a head that only reads, then computing operations among operations in a chain -/

section
variable {P : Program}

theorem runsTo_ex {s : Sem Next} {w : World} {K : Value → World → Prop} (h : RunsTo P s w K) : ∃ v w', K v w' := by
  unfold RunsTo at h
  split at h
  · exact ⟨_, _, h⟩
  · exact ⟨_, _, h⟩
  · obtain ⟨e, w', fr, ⟨v, _, hv⟩, _⟩ := h []
    exact ⟨v, w', hv⟩
  · exact h.elim

theorem runsTo_mono {s : Sem Next} {w : World} {K K' : Value → World → Prop} (hk : ∀ v w', K v w' → K' v w') (h : RunsTo P s w K) : RunsTo P s w K' := by
  unfold RunsTo at *
  split at h
  · exact hk _ _ h
  · exact hk _ _ h
  · exact Calls.mono h fun e w' ⟨v, he, hv⟩ => ⟨v, he, hk _ _ hv⟩
  · exact h.elim

variable (P)

/-- One operation of such a region. -/
def mOp (all : Array Oper) (C : World → Prop) (cl : Nat → Cls) (i : Nat) (K : Act → World → Prop) (a : Act) (w : World) : Prop :=
  match all[i]? with
  | none => K a w
  | some o =>
    if Region.wanted o (yielded all a.tmps) then
      match cl i with
      | .p => ∃ v, (∀ w', (execOp a.eval o).run P w' = .ok (.value v) w') ∧ K (a.put o.dst v) w
      | .l => ∃ v, (execOp a.eval o).run P w = .ok (.value v) w ∧ K (a.put o.dst v) w
      | .f => C w ∧ ∃ v, (∀ w', C w' → (execOp a.eval o).run P w' = .ok (.value v) w') ∧ K (a.put o.dst v) w
      | .e => C w ∧ RunsTo P (execOp a.eval o) w fun v w' => C w' ∧ K (a.put o.dst v) w'
      | .w => RunsTo P (execOp a.eval o) w fun v w' => K (a.put o.dst v) w'
    else K (a.put o.dst undef) w

def anyM (all : Array Oper) (C : World → Prop) (cl : Nat → Cls) (Q : Act → World → Prop) : Nat → Array Bool → Act → World → Prop
  | 0, listed, a, w => Region.ready .any all listed = [] ∧ Q a w
  | f + 1, listed, a, w => (Region.ready .any all listed = [] → Q a w) ∧ ∀ i ∈ Region.ready .any all listed, mOp P all C cl i (anyM all C cl Q f (listed.setIfInBounds i true)) a w

variable {P} {all : Array Oper} {C : World → Prop} {cl : Nat → Cls}

theorem mOp_mono {i : Nat} {K K' : Act → World → Prop} {a : Act} {w : World} (h : ∀ a w, K a w → K' a w) (hh : mOp P all C cl i K a w) : mOp P all C cl i K' a w := by
  unfold mOp at *
  split
  · rename_i ho; simp only [ho] at hh; exact h _ _ hh
  · rename_i o ho
    simp only [ho] at hh
    split
    · rename_i hw
      rw [if_pos hw] at hh
      cases hc : cl i <;> simp only [hc] at hh ⊢
      · obtain ⟨v, h1, h2⟩ := hh; exact ⟨v, h1, h _ _ h2⟩
      · obtain ⟨v, h1, h2⟩ := hh; exact ⟨v, h1, h _ _ h2⟩
      · obtain ⟨h0, v, h1, h2⟩ := hh; exact ⟨h0, v, h1, h _ _ h2⟩
      · exact ⟨hh.1, runsTo_mono (fun v w' hv => ⟨hv.1, h _ _ hv.2⟩) hh.2⟩
      · exact runsTo_mono (fun v w' hv => h _ _ hv) hh
    · rename_i hw
      rw [if_neg hw] at hh
      exact h _ _ hh

theorem mOp_ex {i : Nat} {K : Act → World → Prop} {a : Act} {w : World} (hh : mOp P all C cl i K a w) : ∃ a' w', K a' w' := by
  unfold mOp at hh
  split at hh
  · exact ⟨_, _, hh⟩
  · split at hh
    · split at hh
      · obtain ⟨v, _, h⟩ := hh; exact ⟨_, _, h⟩
      · obtain ⟨v, _, h⟩ := hh; exact ⟨_, _, h⟩
      · obtain ⟨_, v, _, h⟩ := hh; exact ⟨_, _, h⟩
      · obtain ⟨v, w', _, h⟩ := runsTo_ex hh.2; exact ⟨_, _, h⟩
      · obtain ⟨v, w', h⟩ := runsTo_ex hh; exact ⟨_, _, h⟩
    · exact ⟨_, _, hh⟩

theorem wpOp_of_mOp {i : Nat} {K K' : Act → World → Prop} {Q' : Exit → Act → World → Prop} {a : Act} {w : World} (h : ∀ a w', K a w' → K' a w') (hh : mOp P all C cl i K a w) : wpOp P all Q' i K' a w := by
  unfold mOp at hh
  unfold wpOp
  split
  · rename_i ho; simp only [ho] at hh; exact h _ _ hh
  · rename_i o ho
    simp only [ho] at hh
    split
    · rename_i hw
      rw [if_pos hw] at hh
      left
      split at hh
      · obtain ⟨v, h1, h2⟩ := hh
        exact wp_of_runsTo (K := fun u w' => K (a.put o.dst u) w') (runsTo_value (h1 w) h2) fun u w' hu => h _ _ hu
      · obtain ⟨v, h1, h2⟩ := hh
        exact wp_of_runsTo (K := fun u w' => K (a.put o.dst u) w') (runsTo_value h1 h2) fun u w' hu => h _ _ hu
      · obtain ⟨h0, v, h1, h2⟩ := hh
        exact wp_of_runsTo (K := fun u w' => K (a.put o.dst u) w') (runsTo_value (h1 w h0) h2) fun u w' hu => h _ _ hu
      · exact wp_of_runsTo (K := fun u w' => C w' ∧ K (a.put o.dst u) w') hh.2 fun u w' hu => h _ _ hu.2
      · exact wp_of_runsTo (K := fun u w' => K (a.put o.dst u) w') hh fun u w' hu => h _ _ hu
    · rename_i hw
      rw [if_neg hw] at hh
      exact h _ _ hh

theorem value_inj {v v' : Value} {w w1 w2 : World} {r : Result Next} (h : r = .ok (.value v) w1) (h' : r = .ok (.value v') w2) : v = v' := by
  rw [h] at h'
  simp only [Result.ok.injEq, Next.value.injEq] at h'
  exact h'.1

/-- Two operations apart: the second may go first. -/
theorem mOp_swap {i j : Nat} {oi oj : Oper} (hoi : all[i]? = some oi) (hoj : all[j]? = some oj) (hap : oi.apart all oj = true)
    (hsi : ∀ cs b, oi.op ≠ .select cs b) (hsj : ∀ cs b, oj.op ≠ .select cs b) (hcls : okPair (cl i) (cl j) = true)
    {K : Act → World → Prop} {a : Act} {w : World}
    (h : mOp P all C cl i (fun a' w' => mOp P all C cl j K a' w') a w) : mOp P all C cl j (fun a' w' => mOp P all C cl i K a' w') a w := by
  obtain ⟨ap1, ap2, ap3⟩ := Oper.apart_spec hap
  have ej : ∀ v, execOp (a.put oi.dst v).eval oj = execOp a.eval oj := fun v => execOp_put oj hsj a oi.dst v ap1
  have wj : ∀ v, Region.wanted oj (yielded all (a.put oi.dst v).tmps) = Region.wanted oj (yielded all a.tmps) := fun v => wanted_put oj a oi.dst v ap1
  have ei : ∀ v, execOp (a.put oj.dst v).eval oi = execOp a.eval oi := fun v => execOp_put oi hsi a oj.dst v ap3
  have wi : ∀ v, Region.wanted oi (yielded all (a.put oj.dst v).tmps) = Region.wanted oi (yielded all a.tmps) := fun v => wanted_put oi a oj.dst v ap3
  have pc : ∀ u v, (a.put oi.dst u).put oj.dst v = (a.put oj.dst v).put oi.dst u := fun u v => Act.put_comm a u v ap2
  unfold mOp at h ⊢
  simp only [hoi, hoj] at h ⊢
  simp only [wj, wi, ei, ej, pc] at h ⊢
  by_cases hwi : Region.wanted oi (yielded all a.tmps) = true
  · by_cases hwj : Region.wanted oj (yielded all a.tmps) = true
    · simp only [hwi, hwj, if_true] at h ⊢
      cases hci : cl i <;> cases hcj : cl j <;> rw [hci, hcj] at hcls <;> first
        | (exact absurd hcls (by decide))
        | (simp only [hci, hcj] at h ⊢
           first
           | (obtain ⟨u, hu, v, hv, hk⟩ := h; exact ⟨v, hv, u, hu, hk⟩)
           | (obtain ⟨u, hu, hc, v, hv, hk⟩ := h; exact ⟨hc, v, hv, u, hu, hk⟩)
           | (obtain ⟨hc, u, hu, v, hv, hk⟩ := h; exact ⟨v, hv, hc, u, hu, hk⟩)
           | (obtain ⟨hc, u, hu, hc', v, hv, hk⟩ := h; exact ⟨hc', v, hv, hc, u, hu, hk⟩)
           | (obtain ⟨u, hu, hc, hk⟩ := h; exact ⟨hc, runsTo_mono (fun v w' hv => ⟨hv.1, u, hu, hv.2⟩) hk⟩)
           | (obtain ⟨u, hu, hk⟩ := h; exact runsTo_mono (fun v w' hv => ⟨u, hu, hv⟩) hk)
           | (obtain ⟨hc, u, hu, _, hk⟩ := h; exact ⟨hc, runsTo_mono (fun v w' hv => ⟨hv.1, hv.1, u, hu, hv.2⟩) hk⟩)
           | (obtain ⟨hc, hk⟩ := h
              obtain ⟨u0, w0, _, hc0, v, hv, _⟩ := runsTo_ex hk
              refine ⟨hc, v, hv, hc, runsTo_mono (fun u w' hu => ⟨hu.1, ?_⟩) hk⟩
              obtain ⟨_, _, v', hv', hk'⟩ := hu
              rw [value_inj (w := w0) (hv w0 hc0) (hv' w0 hc0)]; exact hk')
           | (obtain ⟨hc, hk⟩ := h
              obtain ⟨u0, w0, _, v, hv, _⟩ := runsTo_ex hk
              refine ⟨v, hv, hc, runsTo_mono (fun u w' hu => ⟨hu.1, ?_⟩) hk⟩
              obtain ⟨_, v', hv', hk'⟩ := hu
              rw [value_inj (w := w0) (hv w0) (hv' w0)]; exact hk')
           | (obtain ⟨u0, w0, v, hv, _⟩ := runsTo_ex h
              refine ⟨v, hv, runsTo_mono (fun u w' hu => ?_) h⟩
              obtain ⟨v', hv', hk'⟩ := hu
              rw [value_inj (w := w0) (hv w0) (hv' w0)]; exact hk'))
    · simp only [hwi, hwj, if_true] at h ⊢
      exact h
  · by_cases hwj : Region.wanted oj (yielded all a.tmps) = true
    · simp only [hwi, hwj, if_true] at h ⊢
      exact h
    · simp only [hwi, hwj] at h ⊢
      exact h

/-- What an operation that is listed waits for is listed. -/
def Closed (all : Array Oper) (listed : Array Bool) : Prop := ∀ j oj, all[j]? = some oj → listed.getD j false = true → ∀ e ∈ oj.after, Region.binds .any e = true → listed.getD e.on false = true

theorem Closed.set {listed : Array Bool} (h : Closed all listed) {i : Nat} (hi : i ∈ Region.ready .any all listed) : Closed all (listed.setIfInBounds i true) := by
  obtain ⟨_, oi, hoi, hall⟩ := mem_ready.1 hi
  intro j oj hj hl e he hb
  by_cases hij : i = j
  · subst hij
    obtain rfl : oj = oi := Option.some.inj (hj.symm.trans hoi)
    exact getD_set_true (hall e he hb)
  · rw [getD_set_ne false hij] at hl
    exact getD_set_true (h j oj hj hl e he hb)

theorem anyM_first {W : Nat → Nat → Bool} (hW : ∀ (listed : Array Bool) (j i : Nat), Closed all listed → j ∈ Region.ready .any all listed → W j i = true → listed.getD i false = true)
    {Q : Act → World → Prop} {i : Nat} {oi : Oper} (hi : all[i]? = some oi) (hsel : ∀ (j : Nat) (o : Oper) cs b, all[j]? = some o → o.op ≠ .select cs b) :
    ∀ (f : Nat) (listed : Array Bool) (a : Act) (w : World), Closed all listed →
      (∀ j oj, all[j]? = some oj → j ≠ i → listed.getD j true = false → W j i = false → oi.apart all oj = true ∧ okPair (cl i) (cl j) = true) →
      i ∈ Region.ready .any all listed → mOp P all C cl i (anyM P all C cl Q f (listed.setIfInBounds i true)) a w → anyM P all C cl Q (f + 1) listed a w := by
  intro f
  induction f with
  | zero =>
    intro listed a w _ _ hr H
    refine ⟨fun h => (by rw [h] at hr; cases hr), fun j hj => ?_⟩
    by_cases hji : j = i
    · subst hji; exact H
    · exfalso
      have hj' := ready_mono hj hji
      obtain ⟨a', w', h⟩ := mOp_ex H
      rw [h.1] at hj'; cases hj'
  | succ f ih =>
    intro listed a w hcl hfree hr H
    refine ⟨fun h => (by rw [h] at hr; cases hr), fun j hj => ?_⟩
    by_cases hji : j = i
    · subst hji; exact H
    · have h1 : mOp P all C cl i (fun a' w' => mOp P all C cl j (anyM P all C cl Q f ((listed.setIfInBounds i true).setIfInBounds j true)) a' w') a w :=
        mOp_mono (fun a' w' h' => h'.2 j (ready_mono hj hji)) H
      obtain ⟨hjun, oj, hoj, hall⟩ := mem_ready.1 hj
      have h0 := (mem_ready.1 hr).1
      have hun : listed.getD i false = false := by
        rcases Nat.lt_or_ge i listed.size with h' | h'
        · simp [h'] at h0 ⊢; exact h0
        · simp [Array.getElem?_eq_none h'] at h0
      have hno : W j i = false := by
        cases hw : W j i with
        | false => rfl
        | true => have := hW listed j i hcl hj hw; rw [hun] at this; cases this
      obtain ⟨hap, hcls⟩ := hfree j oj hoj hji hjun hno
      have h2 := mOp_swap hi hoj hap (fun cs b => hsel i oi cs b hi) (fun cs b => hsel j oj cs b hoj) hcls h1
      have hfree' : ∀ k ok, all[k]? = some ok → k ≠ i → (listed.setIfInBounds j true).getD k true = false → W k i = false → oi.apart all ok = true ∧ okPair (cl i) (cl k) = true := fun k ok hk hki hun hno => by
        refine hfree k ok hk hki ?_ hno
        by_cases hjk : j = k
        · subst hjk; exact hjun
        · rw [getD_set_ne true hjk] at hun; exact hun
      exact mOp_mono (fun a' w' h' => by
        refine ih (listed.setIfInBounds j true) a' w' (hcl.set hj) hfree' (ready_mono hr (Ne.symm hji)) ?_
        rwa [Array.setIfInBounds_comm _ _ hji]) h2

theorem maskOf_bit {acc : List Nat} {o : Oper} {i : Nat} (h : (maskOf acc o).testBit i = true) : ∃ e ∈ o.after, Region.binds .any e = true ∧ (e.on = i ∨ (acc.getD e.on 0).testBit i = true) := by
  unfold maskOf at h
  have key : ∀ (l : List Edge) (m : Nat), (l.foldl (fun m e => cond (Region.binds .any e) (m ||| (1 <<< e.on ||| acc.getD e.on 0)) m) m).testBit i = true →
      m.testBit i = true ∨ ∃ e ∈ l, Region.binds .any e = true ∧ (e.on = i ∨ (acc.getD e.on 0).testBit i = true) := by
    intro l
    induction l with
    | nil => intro m h; exact .inl h
    | cons e l ih =>
      intro m h
      rw [List.foldl_cons] at h
      rcases ih _ h with h1 | ⟨e', he', h1⟩
      · cases hb : Region.binds .any e with
        | false => rw [hb] at h1; exact .inl h1
        | true =>
          rw [hb] at h1
          simp only [cond_true, Nat.testBit_or, Bool.or_eq_true] at h1
          rcases h1 with h1 | h1 | h1
          · exact .inl h1
          · refine .inr ⟨e, List.mem_cons_self, hb, .inl ?_⟩
            rw [Nat.one_shiftLeft, Nat.testBit_two_pow] at h1
            exact of_decide_eq_true h1
          · exact .inr ⟨e, List.mem_cons_self, hb, .inr h1⟩
      · exact .inr ⟨e', List.mem_cons_of_mem _ he', h1⟩
  rcases key _ _ h with h1 | ⟨e, he, h1⟩
  · simp at h1
  · exact ⟨e, by simpa using he, h1⟩

theorem masksFrom_len : ∀ (l : List Oper) (acc : List Nat), (masksFrom l acc).length = acc.length + l.length
  | [], acc => by simp [masksFrom]
  | o :: r, acc => by rw [masksFrom, masksFrom_len r]; simp; omega

theorem masksFrom_old : ∀ (l : List Oper) (acc : List Nat) (k : Nat), k < acc.length → (masksFrom l acc)[k]? = acc[k]?
  | [], acc, k, _ => rfl
  | o :: r, acc, k, h => by
    rw [masksFrom, masksFrom_old r _ k (by simp; omega), List.getElem?_append_left h]

theorem masksFrom_new : ∀ (l : List Oper) (acc : List Nat) (k : Nat) (o : Oper), l[k]? = some o → ∃ acc', (masksFrom l acc)[acc.length + k]? = some (maskOf acc' o) ∧ acc'.length = acc.length + k ∧ ∀ i, i < acc'.length → acc'[i]? = (masksFrom l acc)[i]?
  | [], acc, k, o, h => by simp at h
  | o' :: r, acc, 0, o, h => by
    obtain rfl : o' = o := by simpa using h
    refine ⟨acc, ?_, rfl, fun i hi => ?_⟩
    · rw [masksFrom, masksFrom_old r _ _ (by simp)]
      simp
    · rw [masksFrom, masksFrom_old r _ _ (by simp; omega), List.getElem?_append_left hi]
  | o' :: r, acc, k + 1, o, h => by
    obtain ⟨acc', h1, h2, h3⟩ := masksFrom_new r (acc ++ [maskOf acc o']) k o (by simpa using h)
    refine ⟨acc', ?_, by rw [h2]; simp; omega, h3⟩
    rw [masksFrom, ← h1]
    congr 1
    simp; omega

/-- A bit of a mask is waited for. -/
theorem masks_listed {listed : Array Bool} (hcl : Closed all listed) : ∀ (j i : Nat), listed.getD j false = true → waitsM (masksFrom all.toList []) j i = true → listed.getD i false = true := by
  intro j
  induction j using Nat.strongRecOn with
  | _ j ih =>
    intro i hj hw
    unfold waitsM at hw
    cases ho : all.toList[j]? with
    | none =>
      have : (masksFrom all.toList [])[j]? = none := by
        rw [List.getElem?_eq_none_iff] at ho ⊢
        rw [masksFrom_len]; simpa using ho
      rw [List.getD_eq_getElem?_getD, this] at hw
      simp at hw
    | some o =>
      obtain ⟨acc', h1, h2, h3⟩ := masksFrom_new all.toList [] j o ho
      simp only [List.length_nil, Nat.zero_add] at h1 h2
      rw [List.getD_eq_getElem?_getD, h1] at hw
      obtain ⟨e, he, hb, hor⟩ := maskOf_bit hw
      have hle := hcl j o (by simpa using ho) hj e he hb
      rcases hor with rfl | hbit
      · exact hle
      · have hlt : e.on < acc'.length := by
          rcases Nat.lt_or_ge e.on acc'.length with h | h
          · exact h
          · rw [List.getD_eq_getElem?_getD, List.getElem?_eq_none h] at hbit
            simp at hbit
        refine ih e.on (by omega) i hle ?_
        unfold waitsM
        rw [List.getD_eq_getElem?_getD] at hbit ⊢
        rw [← h3 e.on hlt]; exact hbit

theorem masks_ready (listed : Array Bool) (j i : Nat) (hcl : Closed all listed) (hj : j ∈ Region.ready .any all listed) (hw : waitsM (masksFrom all.toList []) j i = true) : listed.getD i false = true := by
  obtain ⟨_, o, ho, hall⟩ := mem_ready.1 hj
  unfold waitsM at hw
  obtain ⟨acc', h1, h2, h3⟩ := masksFrom_new all.toList [] j o (by simpa using ho)
  simp only [List.length_nil, Nat.zero_add] at h1 h2
  rw [List.getD_eq_getElem?_getD, h1] at hw
  obtain ⟨e, he, hb, hor⟩ := maskOf_bit hw
  have hle := hall e he hb
  rcases hor with rfl | hbit
  · exact hle
  · have hlt : e.on < acc'.length := by
      rcases Nat.lt_or_ge e.on acc'.length with h | h
      · exact h
      · rw [List.getD_eq_getElem?_getD, List.getElem?_eq_none h] at hbit
        simp at hbit
    refine masks_listed hcl e.on i hle ?_
    unfold waitsM
    rw [List.getD_eq_getElem?_getD] at hbit ⊢
    rw [← h3 e.on hlt]; exact hbit

theorem pairsOk_spec {M : List Nat} {k : Nat} {o : Oper} {c : Cls} : ∀ {r : List Oper} {cs : List Cls} {j : Nat}, pairsOk all M k o c r cs j = true →
    ∀ t o', r[t]? = some o' → waitsM M (j + t) k = true ∨ (o.apart all o' = true ∧ ∃ c', cs[t]? = some c' ∧ okPair c c' = true)
  | [], _, _, _, t, o', h => by simp at h
  | x :: r, [], _, h, _, _, _ => by simp [pairsOk] at h
  | x :: r, c' :: cs, j, h, t, o', ht => by
    simp only [pairsOk, Bool.and_eq_true, Bool.or_eq_true] at h
    cases t with
    | zero =>
      obtain rfl : x = o' := by simpa using ht
      rcases h.1 with h1 | h1
      · exact .inl h1
      · exact .inr ⟨h1.1, c', rfl, h1.2⟩
    | succ t =>
      have := pairsOk_spec h.2 t o' (by simpa using ht)
      rw [show j + 1 + t = j + (t + 1) by omega] at this
      simpa using this

variable (P) in
/-- The operations in their own order. -/
def listM (all : Array Oper) (C : World → Prop) (cl : Nat → Cls) (Q : Act → World → Prop) : List Oper → Nat → Act → World → Prop
  | [], _, a, w => Q a w
  | _ :: r, k, a, w => mOp P all C cl k (listM all C cl Q r (k + 1)) a w

def clAt (cs : List Cls) (i : Nat) : Cls := cs.getD i .p

theorem anyM_lex {cs : List Cls} {Q : Act → World → Prop} (hs : Region.noSelect all = true) : ∀ (l : List Oper) (k : Nat) (listed : Array Bool) (a : Act) (w : World), (∀ j, l[j]? = all.toList[k + j]?) →
    Closed all listed → listed.size = all.size → (∀ j, j < all.size → (listed.getD j false = true ↔ j < k)) → lexC all (masksFrom all.toList []) l (cs.drop k) k = true → listM P all C (clAt cs) Q l k a w → anyM P all C (clAt cs) Q l.length listed a w
  | [], k, listed, a, w, hl, _, hsz, hlist, hB, h => by
    refine ⟨?_, h⟩
    apply List.eq_nil_iff_forall_not_mem.2
    intro j hj
    obtain ⟨hun, o, ho, _⟩ := mem_ready.1 hj
    have hj' : j < all.size := (Array.getElem?_eq_some_iff.1 ho).1
    have hk : all.size ≤ k := by
      have := hl 0
      simp at this
      exact this
    have := (hlist j hj').2 (by omega)
    have hjs : j < listed.size := by omega
    simp [hjs] at hun this
    rw [hun] at this; cases this
  | o :: l, k, listed, a, w, hl, hcl, hsz, hlist, hB, h => by
    have h0 : all.toList[k]? = some o := by simpa using (hl 0).symm
    have h0' : all[k]? = some o := by simpa using h0
    have hk : k < all.size := (Array.getElem?_eq_some_iff.1 h0').1
    cases hcs : cs.drop k with
    | nil => rw [hcs] at hB; simp [lexC] at hB
    | cons c r =>
      rw [hcs] at hB
      simp only [lexC, Bool.and_eq_true] at hB
      obtain ⟨⟨hback, hpairs⟩, hB'⟩ := hB
      have hck : clAt cs k = c := by
        unfold clAt
        have : cs[k]? = some c := by have := congrArg (fun x : List Cls => x[0]?) hcs; simpa using this
        rw [List.getD_eq_getElem?_getD, this]; rfl
      have hdrop : cs.drop (k + 1) = r := by rw [← List.drop_drop, hcs]; rfl
      have hun : listed.getD k true = false := by
        have h1 : ¬ listed.getD k false = true := fun h => by have := (hlist k hk).1 h; omega
        have hks : k < listed.size := by omega
        simp [hks] at h1 ⊢; exact h1
      have hready : k ∈ Region.ready .any all listed := by
        refine mem_ready.2 ⟨hun, o, h0', fun e he hb => ?_⟩
        have h1 := List.all_eq_true.1 hback e (by simpa using he)
        rw [hb] at h1
        have h2 : e.on < k := by simpa [Nat.blt_eq] using h1
        exact (hlist e.on (by omega)).2 h2
      refine anyM_first (W := waitsM (masksFrom all.toList [])) masks_ready h0' (Region.noSelect_spec hs) l.length listed a w hcl ?_ hready ?_
      · intro j oj hoj hji hjun hno
        have hj : j < all.size := (Array.getElem?_eq_some_iff.1 hoj).1
        have hkj : ¬ j < k := fun hlt => by
          have := (hlist j hj).2 hlt
          have hjs : j < listed.size := by omega
          simp [hjs] at hjun this
          rw [hjun] at this; cases this
        have hgt : k < j := by omega
        obtain ⟨t, rfl⟩ : ∃ t, j = k + 1 + t := ⟨j - (k + 1), by omega⟩
        have hot : l[t]? = some oj := by
          have := hl (t + 1)
          rw [List.getElem?_cons_succ] at this
          rw [this]
          have e : k + (t + 1) = k + 1 + t := by omega
          rw [e]; simpa using hoj
        rcases pairsOk_spec hpairs t oj hot with h1 | ⟨h1, c', h2, h3⟩
        · rw [hno] at h1; cases h1
        · refine ⟨h1, ?_⟩
          have : clAt cs (k + 1 + t) = c' := by
            unfold clAt
            have h4 : cs[k + 1 + t]? = some c' := by rw [← hdrop] at h2; simpa using h2
            rw [List.getD_eq_getElem?_getD, h4]; rfl
          rw [hck, this]; exact h3
      · exact mOp_mono (fun a' w' h' => anyM_lex hs l (k + 1) _ a' w'
          (fun j => by have := hl (j + 1); simpa [Nat.add_assoc, Nat.add_comm 1 j] using this) (hcl.set hready) (by simpa using hsz)
          (fun j hj => by
            by_cases hkj : k = j
            · subst hkj
              constructor
              · intro _; omega
              · intro _; simp [hsz, hk]
            · rw [getD_set_ne false hkj, hlist j hj]; omega)
          (by rw [hdrop]; exact hB') h') h

theorem wpAny_of_anyM {Q : Act → World → Prop} {Q' : Exit → Act → World → Prop} (hQ : ∀ a w, Q a w → Q' .normal a w) : ∀ (f : Nat) (listed : Array Bool) (a : Act) (w : World),
    anyM P all C cl Q f listed a w → wpAny P .any all Q' f listed a w
  | 0, _, _, _, h => ⟨h.1, hQ _ _ h.2⟩
  | f + 1, _, _, _, h => ⟨fun h0 => hQ _ _ (h.1 h0), fun i hi => wpOp_of_mOp (fun a' w' h' => wpAny_of_anyM hQ f _ a' w' h') (h.2 i hi)⟩

/-- **A REGION THAT DRAWS ITS ORDER**: the walk in its own order serves every order. -/
theorem wp_region_mix {cs : List Cls} {id : Nat} {Q : Act → World → Prop} {Q' : Exit → Act → World → Prop} {a : Act} {w : World} (hm : P.follows .mixedOrders = true) (hB : mixB all (masksFrom all.toList []) cs = true) (hQ : ∀ a w, Q a w → Q' .normal a w)
    (h : listM P all C (clAt cs) Q all.toList 0 a w.drew) : (Code.region id all true).wp P Q' a w := by
  simp only [mixB, Bool.and_eq_true] at hB
  refine wp_region_any hm (wpAny_of_anyM (C := C) (cl := clAt cs) hQ _ _ _ _ ?_)
  have := anyM_lex (P := P) (all := all) (C := C) (cs := cs) (Q := Q) hB.1 all.toList 0 (Array.replicate all.size false) a w.drew (by simp)
    (fun j oj _ hl => by
      exfalso
      have : (Array.replicate all.size false).getD j false = false := by
        rcases Nat.lt_or_ge j all.size with h | h <;> simp [h]
      rw [this] at hl; cases hl) (by simp)
    (fun j hj => by simp [hj]) (by simpa using hB.2) h
  simpa using this
end

/-! ## Soundness: memory, calls -/

section
variable {P : Program}

theorem sl_of_ownsRow {w : World} {base : Nat} {e : TypeId} {size : Nat} {v : Value} {n : Nat} {xs : List Value} (h : w.ownsRow base e size v n xs) : ∃ s : Sl, v = s.v ∧ s.len = n := by
  rcases h.2 with ⟨rfl, rfl⟩ | ⟨g, cap, cur, rfl, _⟩
  · exact ⟨⟨none, 0, 0⟩, rfl, rfl⟩
  · exact ⟨⟨some ⟨g, 0, none⟩, n, cap⟩, rfl, rfl⟩

theorem vcAppend_spec {ts : List TypeId} {xs : List Value} {ty : TypeId} {w : World} {K : Value → World → Prop} (h : vcAppend P ts xs w K) :
    ∃ v w', (Builtin.append_ ts.toArray ty xs.toArray).run P w = .ok v w' ∧ K v w' := by
  unfold vcAppend at h
  split at h
  · rename_i t t' sa sl sc xa xl xc
    split at h
    · rename_i e hu
      split at h
      · rename_i i hi
        split at h
        · rename_i z hz
          obtain ⟨hb, hA⟩ := cond_spec h
          clear h
          simp only [Bool.and_eq_true] at hb
          obtain ⟨⟨ht, hzs⟩, hsz⟩ := hb
          obtain rfl : t = t' := Nat.eq_of_beq_eq_true ht
          have hzs' : z.cells.size = i.size := Nat.eq_of_beq_eq_true hzs
          have hsz' : 0 < i.size := Nat.le_of_ble_eq_true hsz
          rcases hA with hA | hA
          · obtain ⟨base, xs, ys, hown, ⟨hyl, hy1, hsrc⟩, h63, hby, hbase, h⟩ := hA
            simp only [Sl.v] at hown h hyl hsrc h63 hby
            rcases hsrc with ⟨rfl, rfl, rfl⟩ | ⟨a, rfl, hc⟩
            · have hr := run_append_owned_none (P := P) (w := w) base t ty e i i.size hu hi _ _ _ hown
              have hy : ys = [] := List.eq_nil_of_length_eq_zero (by simpa using hyl)
              subst hy
              exact ⟨_, _, hr, h ⟨sa, sl, sc⟩ w rfl (by simpa using hown) ⟨rfl, rfl, rfl, Nat.le_refl _, fun _ _ _ => rfl⟩ (by simp) (.inl rfl)⟩
            · obtain ⟨v', w', hr, ho, hg, hn, hat⟩ := run_append_own_at (P := P) w base t ty e i z i.size i.bytes hu hi hz rfl rfl hzs' hsz' _ _ _ hown a xl xc ys hyl hc hy1 h63 hby hbase
              obtain ⟨s', rfl, hs'⟩ := sl_of_ownsRow ho
              exact ⟨_, _, hr, h s' w' hs' (by have := ho; rw [← hs'] at this; exact this) hg hn hat⟩
          · obtain ⟨g, cur, ys, a, hsa, hg, hyl, hy1, hxa, hc, hroom, hfit, hk⟩ := hA
            dsimp only at hsa hxa hyl hroom hfit hk
            subst hsa hxa
            have hr := run_append_room (P := P) w t ty e i hu hi g sl sc cur.toArray hg a xl xc ys hyl hc hy1 hroom (by simpa using hfit)
            exact ⟨_, _, hr, by simpa using hk⟩
        · exact h.elim
      · exact h.elim
    · exact h.elim
  · rename_i t tn sa sl sc n
    split at h
    · rename_i e kn hu hn
      split at h
      · rename_i i hi
        split at h
        · rename_i z hz
          obtain ⟨hb, hA⟩ := cond_spec h
          clear h
          simp only [Bool.and_eq_true] at hb
          have hsz' : 0 < i.size := Nat.le_of_ble_eq_true hb.2
          obtain ⟨olds, ⟨hol, hsrc⟩, ⟨h0, hcap, h63, hby⟩, hk⟩ := hA
          dsimp only at hol hsrc hcap h63 hby hk
          obtain ⟨k, rfl⟩ : ∃ k : Nat, n = k := ⟨n.toNat, by omega⟩
          have hk0 : 0 < k := by omega
          have hold : (Builtin.firstCells i.size sl (.slice sa sl sc)).run P w.drew = .ok olds.toArray w.drew := by
            rcases hsrc with ⟨rfl, rfl⟩ | ⟨a, rfl, hc⟩
            · have : olds = [] := List.eq_nil_of_length_eq_zero (by simpa using hol)
              subst this
              simp [Builtin.firstCells]
            · simp only [Builtin.firstCells]
              rw [← hol]
              exact run_loadCells_list w.drew a olds (fun j v hv => hc j v hv)
          have hnc := nextslicecap_le (need := sl + k) (old := sc) (by omega)
          have hfit : Builtin.nextslicecap (sl + k) sc * i.bytes ≤ 281474976710656 := by
            have h1 : (((sl + k) * i.bytes : Nat) : Int) ≤ 140737488355328 := by simpa using hby
            have h2 : (sl + k) * i.bytes ≤ 140737488355328 := by omega
            calc Builtin.nextslicecap (sl + k) sc * i.bytes ≤ 2 * (sl + k) * i.bytes := Nat.mul_le_mul_right _ hnc
              _ = 2 * ((sl + k) * i.bytes) := by rw [Nat.mul_assoc]
              _ ≤ 281474976710656 := by omega
          have h48 : k * i.bytes ≤ 281474976710656 := by
            have h2 : (sl + k) * i.bytes ≤ 140737488355328 := by
              have h1 : (((sl + k) * i.bytes : Nat) : Int) ≤ 140737488355328 := by simpa using hby
              omega
            have := Nat.mul_le_mul_right i.bytes (Nat.le_add_left k sl)
            omega
          have hr := Lib.run_append_grow_zeros (P := P) w t tn ty e i z .i64 kn hu hn hi hz sa sl sc olds hold k hk0 hsz' (by omega) (by omega) h48 hfit
          refine ⟨_, _, hr, ?_⟩
          exact hk _ (grownCap_ge w (sl + k) sc e) (grownCap_le_maxLen w (sl + k) sc e)
        · exact h.elim
      · exact h.elim
    · exact h.elim
  · exact h.elim

theorem vcCopy_spec {ts : List TypeId} {xs : List Value} {ty : TypeId} {w : World} {K : Value → World → Prop} (h : vcCopy P ts xs w K) :
    ∃ v w', (Builtin.copy_ ts.toArray ty xs.toArray).run P w = .ok v w' ∧ K v w' := by
  unfold vcCopy at h
  split at h
  · rename_i t t' da dl dc xa xl xc
    split at h
    · rename_i e hu
      split at h
      · rename_i i hi
        obtain ⟨hb, hA⟩ := cond_spec h
        clear h
        simp only [Bool.and_eq_true] at hb
        obtain ⟨g, o, cur, u, cs, hd, hg, hl, h1, hsrc, hfit, hk⟩ := hA
        dsimp only at hd hl hsrc hk
        subst hd
        have hst := run_storeCells_at P g o u cs 0 cur.toArray w hg (by simpa using hfit) h1
        refine ⟨_, _, ?_, hk⟩
        rcases hsrc with ⟨rfl, rfl⟩ | ⟨a, rfl, hc⟩
        · have : cs = [] := List.eq_nil_of_length_eq_zero (by simpa using hl)
          subst this
          have hst' : (storeCells ⟨g, o, none⟩ [] 0).run P w = .ok () w := rfl
          have hw := hst.symm.trans hst'
          simp only [Result.ok.injEq, true_and] at hw
          simp only [Nat.add_zero, List.append_nil, List.length_nil] at hw ⊢
          rw [hw]
          simp [Builtin.copy_, run_underlying hu, Builtin.lenOf, Builtin.firstCells, sizeOf, typeInfo, hi, goInt, storeCells]
        · have hld := run_loadCells_list (P := P) w a cs hc
          rw [hl] at hld
          simp only [Nat.add_zero] at hst
          simp [Builtin.copy_, run_underlying hu, Builtin.lenOf, Builtin.firstCells, sizeOf, typeInfo, hi, hld, hst, goInt]
      · exact h.elim
    · exact h.elim
  · exact h.elim

theorem vcClear_spec {ts : List TypeId} {xs : List Value} {ty : TypeId} {w : World} {K : Value → World → Prop} (h : vcClear P ts xs w K) :
    ∃ v w', (Builtin.clear_ ts.toArray ty xs.toArray).run P w = .ok v w' ∧ K v w' := by
  unfold vcClear at h
  split at h
  · rename_i t da dl dc
    split at h
    · rename_i e hu
      split at h
      · rename_i i hi
        split at h
        · rename_i z hz
          obtain ⟨hb, hA⟩ := cond_spec h
          clear h
          have h1 : ∀ v ∈ (zeroCs z.cells dl).toList, v.oneCell' = true := by
            intro v hv
            simp only [zeroCs, Builtin.zeroCells, Array.toList_map, List.mem_map] at hv
            obtain ⟨j, hj, rfl⟩ := hv
            have hj' : j < dl * z.cells.size := by simpa using hj
            have hpos : 0 < z.cells.size := Nat.pos_of_ne_zero (fun h0 => by rw [h0] at hj'; simp at hj')
            have hm := Nat.mod_lt j hpos
            rw [getElem!_pos z.cells (j % z.cells.size) hm]
            have := List.all_eq_true.1 hb z.cells[j % z.cells.size] (by simp)
            revert this
            cases z.cells[j % z.cells.size] <;> simp [plainV, Value.oneCell']
          rcases hA with ⟨h0, hk⟩ | ⟨g, o, cur, u, hpos, hd, hg, hfit, hk⟩
          · dsimp only at h0; subst h0
            refine ⟨_, _, ?_, hk⟩
            cases da <;> simp [Builtin.clear_, run_underlying hu]
          · dsimp only at hpos hd hfit hk
            subst hd
            refine ⟨_, _, ?_, hk⟩
            have hst := run_storeCells_at P g o u (zeroCs z.cells dl).toList 0 cur.toArray w hg (by simpa using hfit) h1
            obtain ⟨m, rfl⟩ : ∃ m, dl = m + 1 := ⟨dl - 1, by omega⟩
            have hz' : (zeroValue e).run P w = .ok z w := by simp [zeroValue, typeInfo, hi, hz]
            simp only [zeroCs, Nat.add_zero, Array.length_toList] at hst
            simp [Builtin.clear_, run_underlying hu, hz', zeroCs, hst]
        · exact h.elim
      · exact h.elim
    · exact h.elim
  · exact h.elim

theorem cell_below' {w w' : World} {a : Addr} {v : Value} (hb : Below w.heap.size w w') (h : w.cell? a = some v) : w'.cell? a = some v :=
  (World.cell?_of_block (hb.block a.block (World.block_lt_of_cell? w a h))).trans h

theorem foldl_push_list : ∀ (l : List UInt8) (acc : ByteArray), (l.map fun c => (c.toNat : Int)).foldl (fun r n => r.push (UInt8.ofNat n.toNat)) acc = ⟨acc.data ++ l.toArray⟩
  | [], acc => by simp
  | c :: l, acc => by
    simp only [List.map_cons, List.foldl_cons]
    rw [foldl_push_list l]
    cases acc
    simp [ByteArray.push]

theorem bytesB_spec {t : TypeId} (h : bytesB P t = true) : ∃ e, P.underlying t = some (.slice e) ∧ P.underlying e = some (.int .u8) := by
  unfold bytesB at h
  split at h
  · rename_i e hu
    split at h
    · rename_i he; exact ⟨e, hu, he⟩
    · cases h
  · cases h

theorem strB_spec {t : TypeId} (h : strB P t = true) : P.underlying t = some .string := by
  unfold strB at h
  split at h
  · assumption
  · cases h

theorem vcConv_spec {src dst : TypeId} {x : Value} {w : World} {K : Value → Prop} (h : vcConv P src dst x w K) : ∃ v, K v ∧ ∀ w', Below w.heap.size w w' → (convert src dst x).run P w' = .ok v w' := by
  unfold vcConv at h
  split at h
  · rename_i a l c
    obtain ⟨hb, h⟩ := cond_spec h
    simp only [Bool.and_eq_true] at hb
    obtain ⟨e, hs, he⟩ := bytesB_spec hb.1
    have hd := strB_spec hb.2
    obtain ⟨bs, hl, hc, hk⟩ := h
    dsimp only at hl hc
    refine ⟨_, hk, fun w' hbel => ?_⟩
    rw [run_convert_bytes_string w' src dst e a l c hs he hd]
    cases a with
    | none =>
      have : bs = [] := by
        cases bs with
        | nil => rfl
        | cons b r => obtain ⟨_, h1, _⟩ := hc 0 b rfl; cases h1
      subst this
      simp [Conv.bytesToString]
      rfl
    | some a =>
      have hload : (loadCells a l).run P w' = .ok ((bs.map fun c : UInt8 => (c.toNat : Int)).map fun n => Value.int .u8 n).toArray w' := by
        rw [← hl, show bs.length = ((bs.map fun c : UInt8 => (c.toNat : Int)).map fun n => Value.int .u8 n).length by simp]
        refine run_loadCells_list w' a _ fun j v hv => ?_
        simp only [List.getElem?_map, Option.map_map, Option.map_eq_some_iff, Function.comp] at hv
        obtain ⟨c, hc', rfl⟩ := hv
        obtain ⟨a', ha', hcell⟩ := hc j c hc'
        obtain rfl := Option.some.inj ha'
        exact cell_below' hbel hcell
      rw [run_bytesToString w' a l c _ hload, foldl_push_list]
      simp [ByteArray.empty, ByteArray.emptyWithCapacity]
      rfl
  · exact h.elim

theorem vcCall_spec {F : Fr} {o : Oper} {c : Call} {w : World} {K : Value → World → Prop} (hop : o.op = .call c) (h : vcCall P F c o.type w K) : RunsTo P (execOp (ev F) o) w K := by
  unfold vcCall at h
  split at h
  · rename_i f hf
    split at h
    · rename_i fid first cap hev
      have e1 : first ++ c.args.map (ev F) ++ cap = (first.toList ++ c.args.toList.map (ev F) ++ cap.toList).toArray := by
        apply Array.ext'; simp
      rcases h with h | ⟨v, w', hr, hk⟩
      · refine runsTo_enter (f := fid) (w' := w) (args := (first.toList ++ c.args.toList.map (ev F) ++ cap.toList).toArray) ?_ ?_
        · simp only [execOp, hop, resolve, hf, hev, Deferred.ofValue, Sem.run_bind, Sem.run_pure, Result.andThen_ok, invoke]
          rw [e1]
          exact run_callFunc h.1
        · exact h.2.mono fun e w' ⟨v, he, hv⟩ => ⟨v, he, exRet_spec P hv⟩
      · refine runsTo_value (v := v) (w' := w') ?_ (exRet_spec P hk)
        simp only [execOp, hop, resolve, hf, hev, Deferred.ofValue, Sem.run_bind, Sem.run_pure, Result.andThen_ok, invoke]
        rw [e1]
        exact hr
    · exact h.elim
  · rename_i hf
    obtain ⟨v, w', hr, hk⟩ := vcAppend_spec (P := P) (ty := o.type) h
    refine runsTo_value ?_ hk
    have e1 : c.args.map (ev F) = (c.args.toList.map (ev F)).toArray := map_toArray F c.args
    simp only [execOp, hop, resolve, hf, Sem.run_bind, Sem.run_pure, Result.andThen_ok, invoke, builtin, e1]
    simp [hr]
  · rename_i hf
    obtain ⟨v, w', hr, hk⟩ := vcCopy_spec (P := P) (ty := o.type) h
    refine runsTo_value ?_ hk
    have e1 : c.args.map (ev F) = (c.args.toList.map (ev F)).toArray := map_toArray F c.args
    simp only [execOp, hop, resolve, hf, Sem.run_bind, Sem.run_pure, Result.andThen_ok, invoke, builtin, e1]
    simp [hr]
  · rename_i hf
    obtain ⟨v, w', hr, hk⟩ := vcClear_spec (P := P) (ty := o.type) h
    refine runsTo_value ?_ hk
    have e1 : c.args.map (ev F) = (c.args.toList.map (ev F)).toArray := map_toArray F c.args
    simp only [execOp, hop, resolve, hf, Sem.run_bind, Sem.run_pure, Result.andThen_ok, invoke, builtin, e1]
    simp [hr]
  · exact h.elim

theorem newVar_run (t : TypeId) (v : Value) (w : World) : (newVar t v).run P w = .ok ⟨w.heap.size, 0, none⟩ (w.alloc (.cells v.cells t)) := rfl

theorem vcBuildSl_spec {t : TypeId} {len : Nat} {parts : Array (Nat × Value)} {w : World} {K : Value → World → Prop} (h : vcBuildSl P t len parts.toList w K) :
    ∃ v w', (Instr.buildSlice t len parts).run P w = .ok v w' ∧ K v w' := by
  unfold vcBuildSl at h
  split at h
  · rename_i e hu
    split at h
    · rename_i i hi
      obtain ⟨hb, h⟩ := cond_spec h
      simp only [Bool.and_eq_true] at hb
      obtain ⟨⟨⟨hl, ho⟩, h24⟩, hz⟩ := hb
      obtain ⟨z, hz⟩ := Option.isSome_iff_exists.1 hz
      have hl' : parts.toList.length = len := Nat.eq_of_beq_eq_true hl
      have h24' : ¬ (len * i.size > 2 ^ 24) := by have := Nat.le_of_ble_eq_true h24; omega
      refine ⟨_, _, ?_, h⟩
      have key : ∀ zs : Array Value, Instr.fill (fun j => some (j * i.size, i.size)) ((Array.range (len * i.size)).map (zs[· % zs.size]!)) parts.toList = some (partCells parts.toList).toArray := by
        intro zs
        have := fill_inOrder i.size parts.toList 0 [] ((Array.range (len * i.size)).map (zs[· % zs.size]!)).toList ho (by simp) (by simp [← hl'])
        simp only [List.nil_append, Array.toArray_toList] at this
        exact this
      have hs : (sizeOf e).run P w = .ok i.size w := by simp [sizeOf, typeInfo, hi]
      have hz' : (zeroValue e).run P w = .ok z w := by simp [zeroValue, typeInfo, hi, hz]
      unfold Instr.buildSlice
      rw [Sem.run_bind, run_underlying hu, Result.andThen_ok]
      dsimp only
      rw [Sem.run_bind, hs, Result.andThen_ok, if_neg h24']
      by_cases h0 : len * i.size = 0
      · rw [if_pos h0]
        have k0 := key #[]
        simp only [Sem.run_pure, Result.andThen_ok, Sem.run_bind, k0]
        rfl
      · rw [if_neg h0]
        have k0 := key z.cells
        simp only [Sem.run_bind, hz', Sem.run_pure, Result.andThen_ok, k0]
        rfl
    · exact h.elim
  · exact h.elim

theorem vcOp_spec {F : Fr} {o : Oper} {w : World} {K : Value → World → Prop} (h : vcOp P F o w K) : RunsTo P (execOp (ev F) o) w K := by
  unfold vcOp at h
  split at h
  · rename_i t a hop
    split at h
    · rename_i q hq
      obtain ⟨ad, rfl, hl⟩ := onSome_spec h
      clear h
      obtain ⟨v, hr, hk⟩ := vcLoad_spec hl
      refine runsTo_value ?_ hk
      simp [execOp, hop, hq, Instr.loadAt, Instr.sureAddr, hr]
    · exact h.elim
  · rename_i t a v hop
    unfold vcStore at h
    split at h
    · rename_i q hq
      obtain ⟨hb, h⟩ := cond_spec h
      simp only [Bool.and_eq_true] at hb
      obtain ⟨i, hi, hsz⟩ := info_of_isSome hb.1
      obtain ⟨ad, rfl, hl⟩ := onSome_spec h
      clear h
      obtain ⟨w', hr, hk⟩ := stF_spec P hl
      have hs : (ev F v).cells.size = i.size := by rw [← hsz]; exact Nat.eq_of_beq_eq_true hb.2
      refine runsTo_skip (w' := w') ?_ hk
      simp [execOp, hop, hq, Instr.storeAt, Instr.sureAddr, storeVar, sizeOf, typeInfo, hi, hs, hr]
    · exact h.elim
  · rename_i t hop
    unfold vcAlloc at h
    split at h
    · rename_i i hi
      split at h
      · rename_i z hz
        refine runsTo_value ?_ h
        simp [execOp, hop, Instr.alloc, zeroValue, typeInfo, hi, hz, newVar_run]
      · exact h.elim
    · exact h.elim
  · rename_i t v hop
    refine runsTo_value ?_ h
    simp [execOp, hop, Instr.box, newVar_run]
  · rename_i t l c hop
    unfold vcMake at h
    split at h
    · rename_i e kl n kc m hu hl hc
      split at h
      · rename_i i hi
        split at h
        · rename_i z hz
          obtain ⟨⟨h0, h1, h2, h3⟩, h⟩ := h
          refine runsTo_value ?_ h
          have := run_make (P := P) w t e i z hu hi hz kl kc n m h0 h1 h2 h3
          simp [execOp, hop, hl, hc, this]
        · exact h.elim
      · exact h.elim
    · exact h.elim
  · rename_i t len parts hop
    rw [← parts_map] at h
    obtain ⟨v, w', hr, hk⟩ := vcBuildSl_spec h
    refine runsTo_value ?_ hk
    simp only [execOp, hop, Sem.run_bind, hr]
    rfl
  · rename_i c hop
    cases hp : isPureCall c.callee with
    | true =>
      rw [hp] at h
      obtain ⟨v, hv, hr⟩ := vcPure_spec (K := fun v => K v w) h
      exact runsTo_value (hr w) hv
    | false =>
      rw [hp] at h
      exact vcCall_spec hop h
  · rename_i src dst x hop
    cases hm : memConv P src with
    | true =>
      rw [hm] at h
      obtain ⟨v, hv, hr⟩ := vcConv_spec (K := fun v => K v w) h
      refine runsTo_value (v := v) (w' := w) ?_ hv
      simp [execOp, hop, hr w (Below.refl _ _)]
    | false =>
      rw [hm] at h
      obtain ⟨v, hv, hr⟩ := vcPure_spec (K := fun v => K v w) h
      exact runsTo_value (hr w) hv
  · obtain ⟨v, hv, hr⟩ := vcPure_spec h
    exact runsTo_value (hr w) hv

/-- An operation that only computes: one value in every world. -/
theorem vcOp_pure {F : Fr} {o : Oper} {w : World} {K : Value → World → Prop} (hp : pureO P o = true) (h : vcOp P F o w K) : ∃ v, (∀ w', (execOp (ev F) o).run P w' = .ok (.value v) w') ∧ K v w := by
  have key : vcPure P F o (fun v => K v w) := by
    unfold vcOp at h
    unfold pureO at hp
    split at hp
    case h_15 src dst x hop =>
      have hp' : memConv P src = false := by simpa using hp
      simp only [hop, hp'] at h
      exact h
    case h_16 c hop =>
      simp only [hop, hp] at h
      exact h
    all_goals first
      | (rename_i hop; simp only [hop] at h; exact h)
      | cases hp
  obtain ⟨v, hv, hr⟩ := vcPure_spec key
  exact ⟨v, hr, hv⟩

/-! ### Quiet -/

theorem ldF_spec' : ∀ {l : List Sc} {i : Nat} {a : Addr} {w : World} {K : List Value → Prop}, ldF l i a w K →
    ∃ vs, vs.length = l.length ∧ (∀ j u, vs[j]? = some u → w.cell? (a.add (i + j)) = some u) ∧ K vs := ldF_spec

theorem cell_below {w w' : World} {a : Addr} {v : Value} (hb : Below w.heap.size w w') (h : w.cell? a = some v) : w'.cell? a = some v :=
  (hb.cell (World.block_lt_of_cell? w a h)).trans h

theorem vcLoad_spec' {t : TypeId} {a : Addr} {w : World} {K : Value → Prop} (h : vcLoad P t a w K) : ∃ v, (∀ w', Below w.heap.size w w' → (loadVar t a).run P w' = .ok v w') ∧ K v := by
  unfold vcLoad at h
  split at h
  · rename_i hagg
    obtain ⟨hb, h⟩ := cond_spec h
    simp only [Bool.and_eq_true] at hb
    obtain ⟨i, hi, hs⟩ := info_of_isSome hb.2
    obtain ⟨vs, hl, hc, hk⟩ := ldF_spec h
    refine ⟨_, fun w' hbel => ?_, hk⟩
    have hn : i.size = vs.length := by rw [hl, ← hs]; exact Nat.eq_of_beq_eq_true hb.1
    have hagg' : (isAgg t).run P w' = .ok true w' := by
      unfold aggB at hagg
      split at hagg
      · rename_i hd; simp [isAgg, run_underlying hd]
      · rename_i hd; simp [isAgg, run_underlying hd]
      · cases hagg
    have hld := run_loadCells_list (P := P) w' a vs (fun j v hv => cell_below hbel (by simpa using hc j v hv))
    simp [loadVar, hagg', sizeOf, typeInfo, hi, hn, hld]
  · rename_i hagg
    obtain ⟨hu, h⟩ := cond_spec h
    obtain ⟨v, hc, hk⟩ := Sc.ex_spec h
    exact ⟨v, fun w' hbel => run_loadVar_scalar hu hagg (cell_below hbel hc), hk⟩

theorem qOpV_spec {F : Fr} {o : Oper} {w0 : World} {K : Value → Prop} {a : Act} (he : a.eval = ev F) (h : qOpV P F o w0 K) :
    ∃ v, (∀ w, Below w0.heap.size w0 w → o.quietAt P a (fun w' => Below w0.heap.size w0 w') w v) ∧ K v := by
  have pure_case : vcPure P F o K → ∃ v, (∀ w, Below w0.heap.size w0 w → o.quietAt P a (fun w' => Below w0.heap.size w0 w') w v) ∧ K v := by
    intro h
    obtain ⟨v, hv, hr⟩ := vcPure_spec h
    refine ⟨v, fun w _ => ?_, hv⟩
    unfold Oper.quietAt
    rw [he, hr w]
    exact ⟨rfl, rfl⟩
  unfold qOpV at h
  split at h
  · rename_i t x hop
    split at h
    · rename_i q hq
      obtain ⟨ad, rfl, hl⟩ := onSome_spec h
      clear h
      obtain ⟨v, hr, hk⟩ := vcLoad_spec' hl
      refine ⟨v, fun w hb => ?_, hk⟩
      have : (execOp (ev F) o).run P w = .ok (.value v) w := by simp [execOp, hop, hq, Instr.loadAt, Instr.sureAddr, hr w hb]
      unfold Oper.quietAt
      rw [he, this]
      exact ⟨rfl, rfl⟩
    · exact h.elim
  · rename_i src dst x hop
    cases hm : memConv P src with
    | true =>
      rw [hm] at h
      obtain ⟨v, hv, hr⟩ := vcConv_spec h
      refine ⟨v, fun w hb => ?_, hv⟩
      have : (execOp (ev F) o).run P w = .ok (.value v) w := by simp [execOp, hop, hr w hb]
      unfold Oper.quietAt
      rw [he, this]
      exact ⟨rfl, rfl⟩
    | false =>
      rw [hm] at h
      exact pure_case h
  · rename_i c hop
    split at h
    · exact pure_case h
    · split at h
      · rename_i f hf
        split at h
        · rename_i fid first cap hev
          obtain ⟨u, hc, hk⟩ := Ty.ex_spec h
          refine ⟨u, fun w hb => ?_, hk⟩
          have hfn := hc w hb
          have e1 : first ++ c.args.map (ev F) ++ cap = (first.toList ++ c.args.toList.map (ev F) ++ cap.toList).toArray := by
            apply Array.ext'; simp
          have : (execOp (ev F) o).run P w = .ok (.enter fid (first.toList ++ c.args.toList.map (ev F) ++ cap.toList).toArray) w := by
            simp only [execOp, hop, resolve, hf, hev, Deferred.ofValue, Sem.run_bind, Sem.run_pure, Result.andThen_ok, invoke]
            rw [e1]
            exact run_callFunc hfn.1
          unfold Oper.quietAt
          rw [he, this]
          exact ⟨rfl, hfn.2.mono fun e w' ⟨v, h1, h2, h3⟩ => ⟨by rw [h1, h2], h3⟩⟩
        · exact h.elim
      · exact h.elim
  · exact pure_case h

/-! ## Soundness: regions -/

/-- The frame is what the temporaries hold. -/
def Rep (n : Nat) (a : Act) (F : Fr) : Prop := a.tmps.size = n ∧ ∀ i, a.tmps.getD i undef = F i

theorem Rep.eval {n : Nat} {a : Act} {F : Fr} (h : Rep n a F) : a.eval = ev F := by
  funext x
  cases x with
  | tmp t => exact h.2 t
  | _ => rfl

theorem upd_eq {F : Fr} {i : Nat} {v : Value} (j : Nat) : upd F i v j = if j = i then v else F j := by
  unfold upd
  by_cases h : j = i
  · subst h; simp
  · have : Nat.beq j i = false := by
      cases hb : Nat.beq j i with
      | true => exact absurd (Nat.eq_of_beq_eq_true hb) h
      | false => rfl
    simp [this, h]

theorem Rep.put {n : Nat} {a : Act} {F : Fr} {d : Option Tmp} {v : Value} (h : Rep n a F) (hd : ∀ i, d = some i → i < n) : Rep n (a.put d v) (updo F d v) := by
  cases d with
  | none => exact h
  | some i =>
    have hi := hd i rfl
    refine ⟨by simp [Act.put, h.1], fun j => ?_⟩
    simp only [Act.put, updo, upd_eq]
    by_cases hj : j = i
    · subst hj
      simp [Array.getD, h.1, hi]
    · rw [if_neg hj, ← h.2 j]
      simp [Array.getD_eq_getD_getElem?, Ne.symm hj]

theorem upd_self {F : Fr} {d : Nat} {v : Value} (h : F d = v) : upd F d v = F := by
  funext j
  rw [upd_eq]
  split
  · rename_i e; rw [e, h]
  · rfl

theorem Rep.yielded {n : Nat} {a : Act} {F : Fr} {ops : List Oper} (h : Rep n a F) {j d : Nat} (hd : dstOf ops j = some d) (hdn : d < n) :
    yielded ops.toArray a.tmps j = match F d with | .bool b => some b | _ => none := by
  have e1 : (ops.toArray[j]?).bind (·.dst) = some d := by simpa [dstOf] using hd
  have e2 : a.tmps[d]? = some (F d) := by
    have hlt : d < a.tmps.size := by rw [h.1]; exact hdn
    rw [← h.2 d, Array.getD_eq_getD_getElem?, Array.getElem?_eq_getElem hlt]; rfl
  unfold Go.yielded
  rw [e1]
  simp only [Option.bind_some, e2]
  split <;> simp_all

/-- What a piece of code keeps of a frame. -/
def Kept (ms : List Nat) (F F' : Fr) : Prop := ∀ i, memb i ms = false → F' i = F i

theorem Kept.refl (ms : List Nat) (F : Fr) : Kept ms F F := fun _ _ => rfl
theorem Kept.trans {ms : List Nat} {F F' F'' : Fr} (h : Kept ms F F') (h' : Kept ms F' F'') : Kept ms F F'' := fun i hi => (h' i hi).trans (h i hi)

theorem memb_append (i : Nat) (l r : List Nat) : memb i (l ++ r) = (memb i l || memb i r) := by
  induction l with
  | nil => rfl
  | cons j l ih =>
    simp only [List.cons_append, memb]
    cases Nat.beq i j <;> simp [ih]

theorem memb_cons (i j : Nat) (r : List Nat) : memb i (j :: r) = (Nat.beq i j || memb i r) := by
  simp only [memb]; cases Nat.beq i j <;> rfl

theorem memb_true {i : Nat} {l : List Nat} (h : i ∈ l) : memb i l = true := by
  induction l with
  | nil => cases h
  | cons j l ih =>
    rw [memb_cons]
    rcases List.mem_cons.1 h with rfl | h
    · simp
    · simp [ih h]

theorem Kept.left {l r : List Nat} {F F' : Fr} (h : Kept l F F') : Kept (l ++ r) F F' := fun i hi => h i (by rw [memb_append] at hi; simp at hi; exact hi.1)
theorem Kept.right {l r : List Nat} {F F' : Fr} (h : Kept r F F') : Kept (l ++ r) F F' := fun i hi => h i (by rw [memb_append] at hi; simp at hi; exact hi.2)

theorem updo_kept {F : Fr} {d : Option Nat} {v : Value} {ms : List Nat} (h : ∀ i, d = some i → i ∈ ms) : Kept ms F (updo F d v) := by
  intro i hi
  cases d with
  | none => rfl
  | some j =>
    simp only [updo, upd_eq]
    split
    · rename_i e; subst e; rw [memb_true (h _ rfl)] at hi; cases hi
    · rfl

theorem writesOps_mem {l : List Oper} {o : Oper} (h : o ∈ l) {d : Nat} (hd : o.dst = some d) : d ∈ writesOps l := by
  induction l with
  | nil => cases h
  | cons x l ih =>
    rcases List.mem_cons.1 h with rfl | h
    · simp [writesOps, hd]
    · have := ih h
      unfold writesOps
      split
      · exact List.mem_cons_of_mem _ this
      · exact this

theorem allLt_mem {n : Nat} {l : List Nat} (h : allLt n l = true) : ∀ i ∈ l, i < n := by
  induction l with
  | nil => intro i hi; cases hi
  | cons j l ih =>
    simp only [allLt, Bool.and_eq_true] at h
    intro i hi
    rcases List.mem_cons.1 hi with rfl | hi
    · exact Nat.lt_of_succ_le (Nat.le_of_ble_eq_true h.1)
    · exact ih h.2 i hi

theorem allLt_append {n : Nat} {l r : List Nat} (h : allLt n (l ++ r) = true) : allLt n l = true ∧ allLt n r = true := by
  induction l with
  | nil => exact ⟨rfl, h⟩
  | cons j l ih =>
    simp only [List.cons_append, allLt, Bool.and_eq_true] at h ⊢
    exact ⟨⟨h.1, (ih h.2).1⟩, (ih h.2).2⟩

/-- The posts of the machine's own rule. -/
def Post (n : Nat) (ms : List Nat) (F : Fr) (ds : List Deferred) (Q : Ex → Fr → World → Prop) : Exit → Act → World → Prop
  | .normal, a, w => ∃ F', Rep n a F' ∧ Kept ms F F' ∧ a.defers = ds ∧ Q .normal F' w
  | .exit id, a, w => ∃ F', Rep n a F' ∧ Kept ms F F' ∧ a.defers = ds ∧ Q (.exit id) F' w
  | .ret, a, w => ∃ F', Rep n a F' ∧ Kept ms F F' ∧ a.defers = ds ∧ Q .ret F' w
  | _, _, _ => False

theorem put_defers (a : Act) (d : Option Tmp) (v : Value) : (a.put d v).defers = a.defers := by cases d <;> rfl

theorem vcOps_spec {n : Nat} {all : List Oper} {F0 : Fr} {ds : List Deferred} {K : Fr → World → Prop} {Q : Exit → Act → World → Prop} (hlt : allLt n (writesOps all) = true)
    (hQ : ∀ a F w, Rep n a F → Kept (writesOps all) F0 F → a.defers = ds → K F w → Q .normal a w) :
    ∀ (l : List Oper) (F : Fr) (w : World) (a : Act), (∀ o ∈ l, o ∈ all) → Rep n a F → Kept (writesOps all) F0 F → a.defers = ds → vcOps P all l F w K → wpList P all.toArray Q l a w
  | [], F, w, a, _, hr, hk, hd, h => hQ a F w hr hk hd h
  | o :: rest, F, w, a, hmem, hr, hk, hd, h => by
    have ho : o ∈ all := hmem o (List.mem_cons_self)
    have hmem' : ∀ o ∈ rest, o ∈ all := fun x hx => hmem x (List.mem_cons_of_mem _ hx)
    have hdst : ∀ i, o.dst = some i → i < n := fun i hi => allLt_mem hlt i (writesOps_mem ho hi)
    have hmemd : ∀ i, o.dst = some i → i ∈ writesOps all := fun i hi => writesOps_mem ho hi
    have next : ∀ F, Rep n a F → Kept (writesOps all) F0 F → ∀ v w', vcOps P all rest (updo F o.dst v) w' K → wpList P all.toArray Q rest (a.put o.dst v) w' := fun F hr hk v w' h' =>
      vcOps_spec hlt hQ rest _ w' _ hmem' (hr.put hdst) (hk.trans (updo_kept hmemd)) (by rw [put_defers, hd]) h'
    have doit : ∀ F, Rep n a F → Kept (writesOps all) F0 F → vcOp P F o w (fun v w' => vcOps P all rest (updo F o.dst v) w' K) → o.wp P a w (wpList P all.toArray Q rest) Q := fun F hr hk h' =>
      wp_of_runsTo (by rw [hr.eval]; exact vcOp_spec h') fun v w' hv => next F hr hk v w' hv
    unfold vcOps at h
    split at h
    · rename_i hg
      exact wpList_plain hg fun K' hK' => by
        have := doit F hr hk h
        exact wp_of_runsTo (by rw [hr.eval]; exact vcOp_spec h) fun v w' hv => hK' _ _ (next F hr hk v w' hv)
    · rename_i j want hg
      split at h
      · exact h.elim
      · rename_i d hdo
        have hdn : d < n := by
          have : ∃ o', all[j]? = some o' ∧ o'.dst = some d := by
            unfold dstOf at hdo
            cases ho' : all[j]? with
            | none => rw [ho'] at hdo; cases hdo
            | some o' => rw [ho'] at hdo; exact ⟨o', rfl, hdo⟩
          obtain ⟨o', h1, h2⟩ := this
          exact allLt_mem hlt d (writesOps_mem (List.mem_of_getElem? h1) h2)
        have hy := hr.yielded hdo hdn
        have hwant : Region.wanted o (yielded all.toArray a.tmps) = (yielded all.toArray a.tmps j == some want) := by simp [Region.wanted, hg]
        unfold wpList
        split at h
        · rename_i b hb
          rw [hb] at hy
          rw [hwant, hy]
          rcases br_spec h with ⟨rfl, h⟩ | ⟨rfl, h⟩
          · rw [upd_self hb] at h
            cases want with
            | true => simp only [beq_self_eq_true, if_true]; exact .inl (doit F hr hk h)
            | false => exact next F hr hk _ _ h
          · rw [upd_self hb] at h
            cases want with
            | true => exact next F hr hk _ _ h
            | false => simp only [beq_self_eq_true, if_true]; exact .inl (doit F hr hk h)
        · rename_i hnb
          have : yielded all.toArray a.tmps j = none := by
            rw [hy]
            split
            · rename_i b hb; exact (hnb b hb).elim
            · rfl
          rw [hwant, this]
          exact next F hr hk _ _ h

theorem vcQ_spec {n : Nat} {all : List Oper} {F0 : Fr} {ds : List Deferred} {w0 : World} {K : Fr → Prop} {Q : Act → Prop} (hlt : allLt n (writesOps all) = true)
    (hQ : ∀ a F, Rep n a F → Kept (writesOps all) F0 F → a.defers = ds → K F → Q a) :
    ∀ (l : List Oper) (F : Fr) (a : Act), (∀ o ∈ l, o ∈ all) → Rep n a F → Kept (writesOps all) F0 F → a.defers = ds → vcQ P all w0 l F K → wpQuiet P all.toArray (fun w' => Below w0.heap.size w0 w') Q l a
  | [], F, a, _, hr, hk, hd, h => hQ a F hr hk hd h
  | o :: rest, F, a, hmem, hr, hk, hd, h => by
    have ho : o ∈ all := hmem o (List.mem_cons_self)
    have hmem' : ∀ o ∈ rest, o ∈ all := fun x hx => hmem x (List.mem_cons_of_mem _ hx)
    have hdst : ∀ i, o.dst = some i → i < n := fun i hi => allLt_mem hlt i (writesOps_mem ho hi)
    have hmemd : ∀ i, o.dst = some i → i ∈ writesOps all := fun i hi => writesOps_mem ho hi
    have next : ∀ v, vcQ P all w0 rest (updo F o.dst v) K → wpQuiet P all.toArray (fun w' => Below w0.heap.size w0 w') Q rest (a.put o.dst v) := fun v h' =>
      vcQ_spec hlt hQ rest _ _ hmem' (hr.put hdst) (hk.trans (updo_kept hmemd)) (by rw [put_defers, hd]) h'
    have doit : qOpV P F o w0 (fun v => vcQ P all w0 rest (updo F o.dst v) K) → o.quiet P a (fun w' => Below w0.heap.size w0 w') (wpQuiet P all.toArray (fun w' => Below w0.heap.size w0 w') Q rest) := fun h' =>
      let ⟨v, h1, h2⟩ := qOpV_spec (a := a) hr.eval h'
      ⟨v, h1, next v h2⟩
    unfold vcQ at h
    split at h
    · rename_i hg
      unfold wpQuiet
      rw [if_pos (by simp [Region.wanted, hg])]
      exact doit h
    · rename_i j want hg
      split at h
      · exact h.elim
      · rename_i d hdo
        have hdn : d < n := by
          have : ∃ o', all[j]? = some o' ∧ o'.dst = some d := by
            unfold dstOf at hdo
            cases ho' : all[j]? with
            | none => rw [ho'] at hdo; cases hdo
            | some o' => rw [ho'] at hdo; exact ⟨o', rfl, hdo⟩
          obtain ⟨o', h1, h2⟩ := this
          exact allLt_mem hlt d (writesOps_mem (List.mem_of_getElem? h1) h2)
        have hy := hr.yielded hdo hdn
        have hwant : Region.wanted o (yielded all.toArray a.tmps) = (yielded all.toArray a.tmps j == some want) := by simp [Region.wanted, hg]
        unfold wpQuiet
        split at h
        · rename_i b hb
          rw [hb] at hy
          rw [hwant, hy]
          rcases br_spec h with ⟨rfl, h⟩ | ⟨rfl, h⟩
          · rw [upd_self hb] at h
            cases want with
            | true => simp only [beq_self_eq_true, if_true]; exact doit h
            | false => exact next _ h
          · rw [upd_self hb] at h
            cases want with
            | true => exact next _ h
            | false => simp only [beq_self_eq_true, if_true]; exact doit h
        · rename_i hnb
          have : yielded all.toArray a.tmps j = none := by
            rw [hy]
            split
            · rename_i b hb; exact (hnb b hb).elim
            · rfl
          rw [hwant, this]
          exact next _ h

/-! ## Soundness: code -/

theorem ldC_spec {C : World → Prop} : ∀ {l : List Sc} {i : Nat} {a : Addr} {K : List Value → Prop}, ldC l i a C K →
    ∃ vs, vs.length = l.length ∧ (∀ j v, vs[j]? = some v → ∀ w, C w → w.cell? (a.add (i + j)) = some v) ∧ K vs
  | [], i, a, K, h => ⟨[], rfl, by simp, h⟩
  | s :: r, i, a, K, h => by
    obtain ⟨v, hv, h⟩ := Sc.ex_spec h
    obtain ⟨vs, hl, hc, hk⟩ := ldC_spec h
    refine ⟨v :: vs, by simp [hl], fun j u hu => ?_, hk⟩
    cases j with
    | zero =>
      obtain rfl : v = u := by simpa using hu
      exact hv
    | succ j =>
      have := hc j u (by simpa using hu)
      rwa [show i + 1 + j = i + (j + 1) by omega] at this

theorem vcLoadC_spec {t : TypeId} {a : Addr} {C : World → Prop} {K : Value → Prop} (h : vcLoadC P t a C K) : ∃ v, (∀ w, C w → (loadVar t a).run P w = .ok v w) ∧ K v := by
  unfold vcLoadC at h
  split at h
  · rename_i hagg
    obtain ⟨hb, h⟩ := cond_spec h
    obtain ⟨vs, hl, hc, hk⟩ := ldC_spec h
    exact ⟨_, fun w hw => run_loadVar_agg hagg hb hl (fun j u hu => hc j u hu w hw), hk⟩
  · rename_i hagg
    obtain ⟨hu, h⟩ := cond_spec h
    obtain ⟨v, hv, hk⟩ := Sc.ex_spec h
    exact ⟨v, fun w hw => run_loadVar_scalar hu hagg (hv w hw), hk⟩

theorem vcConvC_spec {src dst : TypeId} {x : Value} {C : World → Prop} {K : Value → Prop} (h : vcConvC P src dst x C K) : ∃ v, K v ∧ ∀ w', C w' → (convert src dst x).run P w' = .ok v w' := by
  unfold vcConvC at h
  split at h
  · rename_i a l c
    obtain ⟨hb, h⟩ := cond_spec h
    obtain ⟨bs, hl, hc, hk⟩ := h
    refine ⟨_, hk, fun w' hw' => ?_⟩
    obtain ⟨v, hv, hr⟩ := vcConv_spec (P := P) (src := src) (dst := dst) (x := .slice a l c) (w := w') (K := fun v => v = .string ⟨bs.toArray⟩) (by
      unfold vcConv
      dsimp only
      rw [hb]
      exact ⟨bs, hl, fun j c hj => let ⟨a', h1, h2⟩ := hc j c hj; ⟨a', h1, h2 w' hw'⟩, rfl⟩)
    rw [hr w' (Below.refl _ _), hv]
  · exact h.elim

theorem fOp_spec {F : Fr} {o : Oper} {C : World → Prop} {K : Value → Prop} (h : fOp P F o C K) : ∃ v, (∀ w', C w' → (execOp (ev F) o).run P w' = .ok (.value v) w') ∧ K v := by
  unfold fOp at h
  split at h
  · rename_i t a hop
    split at h
    · rename_i q hq
      obtain ⟨ad, rfl, hl⟩ := onSome_spec h
      clear h
      obtain ⟨v, hr, hk⟩ := vcLoadC_spec hl
      exact ⟨v, fun w hw => by simp [execOp, hop, hq, Instr.loadAt, Instr.sureAddr, hr w hw], hk⟩
    · exact h.elim
  · rename_i src dst x hop
    obtain ⟨v, hk, hr⟩ := vcConvC_spec h
    exact ⟨v, fun w hw => by simp [execOp, hop, hr w hw], hk⟩
  · exact h.elim

/-- A reading operation: its value in this world. -/
theorem vcOp_load {F : Fr} {o : Oper} {w : World} {K : Value → World → Prop} (hp : loadO P o = true) (h : vcOp P F o w K) : ∃ v, (execOp (ev F) o).run P w = .ok (.value v) w ∧ K v w := by
  unfold vcOp at h
  unfold loadO at hp
  split at hp
  · rename_i t a hop
    simp only [hop] at h
    split at h
    · rename_i q hq
      obtain ⟨ad, rfl, hl⟩ := onSome_spec h
      clear h
      obtain ⟨v, hr, hk⟩ := vcLoad_spec hl
      exact ⟨v, by simp [execOp, hop, hq, Instr.loadAt, Instr.sureAddr, hr], hk⟩
    · exact h.elim
  · rename_i src dst x hop
    simp only [hop, hp] at h
    obtain ⟨v, hv, hr⟩ := vcConv_spec (K := fun v => K v w) h
    exact ⟨v, by simp [execOp, hop, hr w (Below.refl _ _)], hv⟩
  · cases hp

theorem kindO_p {o : Oper} (h : kindO P o = .p) : pureO P o = true := by
  unfold kindO at h
  cases hp : pureO P o with
  | true => rfl
  | false => rw [hp] at h; cases hl : loadO P o <;> rw [hl] at h <;> cases h

theorem kindO_l {o : Oper} (h : kindO P o = .l) : loadO P o = true := by
  unfold kindO at h
  cases hp : pureO P o with
  | true => rw [hp] at h; cases h
  | false =>
    rw [hp] at h
    cases hl : loadO P o with
    | true => rfl
    | false => rw [hl] at h; cases h

theorem clsOf_p {M : List Nat} {all : List Oper} {k : Nat} {o : Oper} (h : clsOf P M all k o = .p) : pureO P o = true := by
  unfold clsOf at h
  split at h
  · rename_i hk; exact kindO_p hk
  · cases ha : anyLoose P M k isW all 0 <;> rw [ha] at h <;> cases h
  · cases ha : anyLoose P M k isL all 0 <;> rw [ha] at h <;> cases h

theorem clsOf_l {M : List Nat} {all : List Oper} {k : Nat} {o : Oper} (h : clsOf P M all k o = .l) : loadO P o = true := by
  unfold clsOf at h
  split at h
  · cases h
  · rename_i hk; exact kindO_l hk
  · cases ha : anyLoose P M k isL all 0 <;> rw [ha] at h <;> cases h

theorem clsList_get {M : List Nat} {all : List Oper} : ∀ {l : List Oper} {k : Nat} {j : Nat} {o : Oper}, l[j]? = some o → (clsList P M all l k)[j]? = some (clsOf P M all (k + j) o)
  | [], _, _, _, h => by simp at h
  | x :: r, k, 0, o, h => by
    obtain rfl : x = o := by simpa using h
    rfl
  | x :: r, k, j + 1, o, h => by
    have := clsList_get (k := k + 1) (j := j) (o := o) (l := r) (M := M) (all := all) (by simpa using h)
    rw [show k + 1 + j = k + (j + 1) by omega] at this
    simpa [clsList] using this

/-- A region that draws its order, in its own order. -/
theorem vcM_listM {n : Nat} {all : List Oper} {F0 : Fr} {ds : List Deferred} {C : World → Prop} {K : Fr → World → Prop} {Q : Act → World → Prop} {M : List Nat} {cs : List Cls} (hlt : allLt n (writesOps all) = true)
    (hcs : ∀ k o, all[k]? = some o → cs[k]? = some (clsOf P M all k o))
    (hQ : ∀ a F w, Rep n a F → Kept (writesOps all) F0 F → a.defers = ds → K F w → Q a w) :
    ∀ (l : List Oper) (k : Nat) (F : Fr) (w : World) (a : Act), (∀ j, l[j]? = all[k + j]?) → Rep n a F → Kept (writesOps all) F0 F → a.defers = ds → vcM P all C l (cs.drop k) F w K → listM P all.toArray C (clAt cs) Q l k a w
  | [], k, F, w, a, _, hr, hk, hd, h => by
    cases hd' : cs.drop k <;> (rw [hd'] at h; exact hQ a F w hr hk hd h)
  | o :: rest, k, F, w, a, hl, hr, hk, hd, h => by
    have h0 : all[k]? = some o := by simpa using (hl 0).symm
    have h0' : all.toArray[k]? = some o := by simpa using h0
    have hc := hcs k o h0
    have hca : clAt cs k = clsOf P M all k o := by unfold clAt; rw [List.getD_eq_getElem?_getD, hc]; rfl
    have hdrop : cs.drop k = clsOf P M all k o :: cs.drop (k + 1) := by
      have hlt' : k < cs.length := (List.getElem?_eq_some_iff.1 hc).1
      rw [List.drop_eq_getElem_cons hlt']
      congr 1
      have := List.getElem?_eq_getElem hlt'
      rw [hc] at this
      exact (Option.some.inj this).symm
    rw [hdrop] at h
    have ho : o ∈ all := List.mem_of_getElem? h0
    have hl' : ∀ j, rest[j]? = all[k + 1 + j]? := fun j => by have := hl (j + 1); simpa [Nat.add_assoc, Nat.add_comm 1 j] using this
    have hdst : ∀ i, o.dst = some i → i < n := fun i hi => allLt_mem hlt i (writesOps_mem ho hi)
    have hmemd : ∀ i, o.dst = some i → i ∈ writesOps all := fun i hi => writesOps_mem ho hi
    have next : ∀ v w', vcM P all C rest (cs.drop (k + 1)) (updo F o.dst v) w' K → listM P all.toArray C (clAt cs) Q rest (k + 1) (a.put o.dst v) w' := fun v w' h' =>
      vcM_listM hlt hcs hQ rest (k + 1) _ w' _ hl' (hr.put hdst) (hk.trans (updo_kept hmemd)) (by rw [put_defers, hd]) h'
    have doit : Region.wanted o (yielded all.toArray a.tmps) = true → mOpV P C (clsOf P M all k o) F o w (fun v w' => vcM P all C rest (cs.drop (k + 1)) (updo F o.dst v) w' K) → mOp P all.toArray C (clAt cs) k (listM P all.toArray C (clAt cs) Q rest (k + 1)) a w := fun hw h' => by
      unfold mOp
      simp only [h0', hca]
      rw [if_pos hw, hr.eval]
      cases hcl : clsOf P M all k o with
      | p =>
        rw [hcl] at h'
        simp only [mOpV] at h'
        obtain ⟨v, h1, h2⟩ := vcOp_pure (clsOf_p hcl) h'
        exact ⟨v, h1, next v w h2⟩
      | l =>
        rw [hcl] at h'
        simp only [mOpV] at h'
        obtain ⟨v, h1, h2⟩ := vcOp_load (clsOf_l hcl) h'
        exact ⟨v, h1, next v w h2⟩
      | f =>
        rw [hcl] at h'
        obtain ⟨v, h1, h2⟩ := fOp_spec h'.2
        exact ⟨h'.1, v, h1, next v w h2⟩
      | e =>
        rw [hcl] at h'
        exact ⟨h'.1, runsTo_mono (fun v w' h2 => ⟨h2.1, next v w' h2.2⟩) (vcOp_spec h'.2)⟩
      | w =>
        rw [hcl] at h'
        simp only [mOpV] at h'
        exact runsTo_mono (fun v w' h2 => next v w' h2) (vcOp_spec h')
    have skip : Region.wanted o (yielded all.toArray a.tmps) = false → vcM P all C rest (cs.drop (k + 1)) (updo F o.dst undef) w K → mOp P all.toArray C (clAt cs) k (listM P all.toArray C (clAt cs) Q rest (k + 1)) a w := fun hw h' => by
      unfold mOp
      simp only [h0']
      rw [if_neg (by simp [hw])]
      exact next undef w h'
    show mOp P all.toArray C (clAt cs) k (listM P all.toArray C (clAt cs) Q rest (k + 1)) a w
    unfold vcM at h
    split at h
    · rename_i hg
      exact doit (by simp [Region.wanted, hg]) h
    · rename_i j want hg
      split at h
      · exact h.elim
      · rename_i d hdo
        have hdn : d < n := by
          have : ∃ o', all[j]? = some o' ∧ o'.dst = some d := by
            unfold dstOf at hdo
            cases ho' : all[j]? with
            | none => rw [ho'] at hdo; cases hdo
            | some o' => rw [ho'] at hdo; exact ⟨o', rfl, hdo⟩
          obtain ⟨o', h1, h2⟩ := this
          exact allLt_mem hlt d (writesOps_mem (List.mem_of_getElem? h1) h2)
        have hy := hr.yielded hdo hdn
        have hwant : Region.wanted o (yielded all.toArray a.tmps) = (yielded all.toArray a.tmps j == some want) := by simp [Region.wanted, hg]
        split at h
        · rename_i b hb
          rw [hb] at hy
          rcases br_spec h with ⟨rfl, h⟩ | ⟨rfl, h⟩
          · rw [upd_self hb] at h
            cases want with
            | true => exact doit (by rw [hwant, hy]; rfl) h
            | false => exact skip (by rw [hwant, hy]; rfl) h
          · rw [upd_self hb] at h
            cases want with
            | true => exact skip (by rw [hwant, hy]; rfl) h
            | false => exact doit (by rw [hwant, hy]; rfl) h
        · rename_i hnb
          have : yielded all.toArray a.tmps j = none := by
            rw [hy]
            split
            · rename_i b hb; exact (hnb b hb).elim
            · rfl
          exact skip (by rw [hwant, this]; rfl) h

theorem withSt_spec : ∀ {l : List (Nat × Sc)} {F : Fr} {K : StOf l → Prop}, withSt l F K → ∃ s, setSt l s F = F ∧ K s
  | [], _, _, h => ⟨(), rfl, h⟩
  | (_, _) :: _, _, _, h => by
    obtain ⟨x, hx, h'⟩ := Sc.dec_spec h
    obtain ⟨y, hy, hk⟩ := withSt_spec h'
    exact ⟨(x, y), by show upd (setSt _ y _) _ _ = _; rw [hy]; exact upd_self hx, hk⟩

theorem mix_self {F F' : Fr} {ms : List Nat} (h : Kept ms F F') : mix F F' ms = F' := by
  funext i
  unfold mix
  cases hi : memb i ms with
  | true => rfl
  | false => exact (h i hi).symm

/-! ## Soundness: regions walked in every order -/

theorem freeAt_spec {ops : Array Oper} {M : List Nat} {k : Nat} {o : Oper} {c : Cls} : ∀ {r : List Oper} {cs : List Cls} {j : Nat}, freeAt ops M k o c r cs j = true →
    ∀ t o', r[t]? = some o' → j + t = k ∨ waitsM M (j + t) k = true ∨ waitsM M k (j + t) = true ∨ (o.apart ops o' = true ∧ ∃ c', cs[t]? = some c' ∧ okPair c c' = true)
  | [], _, _, _, t, o', h => by simp at h
  | x :: r, [], _, h, _, _, _ => by simp [freeAt] at h
  | x :: r, c' :: cs, j, h, t, o', ht => by
    simp only [freeAt, Bool.and_eq_true, Bool.or_eq_true] at h
    cases t with
    | zero =>
      obtain rfl : x = o' := by simpa using ht
      rcases h.1 with ((h1 | h1) | h1) | h1
      · exact .inl (Nat.eq_of_beq_eq_true h1)
      · exact .inr (.inl h1)
      · exact .inr (.inr (.inl h1))
      · exact .inr (.inr (.inr ⟨h1.1, c', rfl, h1.2⟩))
    | succ t =>
      have := freeAt_spec h.2 t o' (by simpa using ht)
      rw [show j + 1 + t = j + (t + 1) by omega] at this
      simpa using this

theorem freeList_get {ops : Array Oper} {M : List Nat} {cl : List Cls} : ∀ {l : List Oper} {cs : List Cls} {k j : Nat} {o : Oper} {c : Cls}, l[j]? = some o → cs[j]? = some c →
    (freeList ops M cl l cs k)[j]? = some (freeAt ops M (k + j) o c ops.toList cl 0)
  | [], _, _, _, _, _, h, _ => by simp at h
  | x :: r, [], _, _, _, _, _, h => by simp at h
  | x :: r, c' :: cs, k, 0, o, c, h, hc => by
    obtain rfl : x = o := by simpa using h
    obtain rfl : c' = c := by simpa using hc
    rfl
  | x :: r, c' :: cs, k, j + 1, o, c, h, hc => by
    have := freeList_get (ops := ops) (M := M) (cl := cl) (l := r) (cs := cs) (k := k + 1) (j := j) (o := o) (c := c) (by simpa using h) (by simpa using hc)
    rw [show k + 1 + j = k + (j + 1) by omega] at this
    simpa [freeList] using this

theorem mem_readyL {m : Nat} : ∀ {l : List Oper} {k i : Nat}, i ∈ readyL m l k ↔ ∃ t o, i = k + t ∧ l[t]? = some o ∧ m.testBit i = false ∧ readyB m o = true
  | [], k, i => by simp [readyL]
  | o :: r, k, i => by
    have ih := mem_readyL (m := m) (l := r) (k := k + 1) (i := i)
    unfold readyL
    constructor
    · intro h
      cases hc : (!(m.testBit k) && readyB m o) with
      | true =>
        rw [hc] at h
        rcases List.mem_cons.1 h with rfl | h
        · simp only [Bool.and_eq_true, Bool.not_eq_true'] at hc
          exact ⟨0, o, rfl, rfl, hc.1, hc.2⟩
        · obtain ⟨t, o', rfl, h1, h2, h3⟩ := ih.1 h
          exact ⟨t + 1, o', by omega, by simpa using h1, h2, h3⟩
      | false =>
        rw [hc] at h
        obtain ⟨t, o', rfl, h1, h2, h3⟩ := ih.1 h
        exact ⟨t + 1, o', by omega, by simpa using h1, h2, h3⟩
    · rintro ⟨t, o', rfl, h1, h2, h3⟩
      cases t with
      | zero =>
        obtain rfl : o = o' := by simpa using h1
        have hc : (!(m.testBit k) && readyB m o) = true := by simp only [Nat.add_zero] at h2; simp [h2, h3]
        rw [hc]; exact List.mem_cons_self
      | succ t =>
        have : k + (t + 1) ∈ readyL m r (k + 1) := ih.2 ⟨t, o', by omega, by simpa using h1, h2, h3⟩
        cases (!(m.testBit k) && readyB m o) with
        | true => exact List.mem_cons_of_mem _ this
        | false => exact this

/-- The mask is what is listed. -/
def MaskIs (m : Nat) (listed : Array Bool) : Prop := ∀ j, listed.getD j false = m.testBit j

theorem MaskIs.set {m : Nat} {listed : Array Bool} (h : MaskIs m listed) {i : Nat} (hi : i < listed.size) : MaskIs (m ||| 1 <<< i) (listed.setIfInBounds i true) := by
  intro j
  rw [Nat.testBit_or, Nat.one_shiftLeft, Nat.testBit_two_pow]
  by_cases hij : i = j
  · subst hij; simp [hi]
  · rw [getD_set_ne false hij, h j]; simp [hij]

theorem ready_iff {all : List Oper} {m : Nat} {listed : Array Bool} (hm : MaskIs m listed) (hs : listed.size = all.length) {i : Nat} : i ∈ readyL m all 0 ↔ i ∈ Region.ready .any all.toArray listed := by
  rw [mem_readyL, mem_ready]
  have key : ∀ o : Oper, readyB m o = true ↔ ∀ e ∈ o.after, Region.binds .any e = true → listed.getD e.on false = true := by
    intro o
    unfold readyB
    rw [List.all_eq_true]
    constructor
    · intro h e he hb
      have := h e (by simpa using he)
      rw [hb] at this
      rw [hm e.on]; simpa using this
    · intro h e he
      cases hb : Region.binds .any e with
      | false => rfl
      | true => have := h e (by simpa using he) hb; rw [hm e.on] at this; simpa using this
  constructor
  · rintro ⟨t, o, rfl, h1, h2, h3⟩
    simp only [Nat.zero_add] at h2 ⊢
    have hlt : t < all.length := (List.getElem?_eq_some_iff.1 h1).1
    refine ⟨?_, o, by simpa using h1, (key o).1 h3⟩
    have := hm t
    rw [h2] at this
    have hts : t < listed.size := by omega
    simp [hts] at this ⊢; exact this
  · rintro ⟨h1, o, h2, h3⟩
    have h2' : all[i]? = some o := by simpa using h2
    have hlt : i < all.length := (List.getElem?_eq_some_iff.1 h2').1
    refine ⟨i, o, by omega, h2', ?_, (key o).2 h3⟩
    rw [← hm i]
    have hts : i < listed.size := by omega
    simp [hts] at h1 ⊢; exact h1

theorem allOf_spec {G : Nat → Prop} : ∀ {l : List Nat}, allOf G l → ∀ i ∈ l, G i
  | [], _, i, h => by cases h
  | [j], hG, i, h => by
    obtain rfl : i = j := by simpa using h
    exact hG
  | j :: k :: r, hG, i, h => by
    rcases List.mem_cons.1 h with rfl | h
    · exact hG.1
    · exact allOf_spec hG.2 i h

theorem findFree_spec {fr : List Bool} : ∀ {l : List Nat} {i : Nat}, findFree fr l = some i → i ∈ l ∧ fr.getD i false = true
  | [], i, h => by cases h
  | j :: r, i, h => by
    unfold findFree at h
    cases hj : fr.getD j false with
    | true =>
      rw [hj] at h
      obtain rfl : j = i := Option.some.inj h
      exact ⟨List.mem_cons_self, hj⟩
    | false =>
      rw [hj] at h
      exact ⟨List.mem_cons_of_mem _ (findFree_spec h).1, (findFree_spec h).2⟩

theorem clsT_p {M : List Nat} {all : List Oper} {k : Nat} {o : Oper} (h : clsT P M all k o = .p) : pureO P o = true := by
  unfold clsT at h
  split at h
  · rename_i hk; exact kindO_p hk
  · split at h
    · cases ha : anyLoose P M k isW all 0 <;> rw [ha] at h <;> cases h
    · cases h
  · cases ha : anyLoose P M k isL all 0 <;> rw [ha] at h <;> cases h

theorem clsT_l {M : List Nat} {all : List Oper} {k : Nat} {o : Oper} (h : clsT P M all k o = .l) : loadO P o = true := by
  unfold clsT at h
  split at h
  · cases h
  · rename_i hk; exact kindO_l hk
  · cases ha : anyLoose P M k isL all 0 <;> rw [ha] at h <;> cases h

theorem clsListT_get {M : List Nat} {all : List Oper} : ∀ {l : List Oper} {k : Nat} {j : Nat} {o : Oper}, l[j]? = some o → (clsListT P M all l k)[j]? = some (clsT P M all (k + j) o)
  | [], _, _, _, h => by simp at h
  | x :: r, k, 0, o, h => by
    obtain rfl : x = o := by simpa using h
    rfl
  | x :: r, k, j + 1, o, h => by
    have := clsListT_get (M := M) (all := all) (l := r) (k := k + 1) (j := j) (o := o) (by simpa using h)
    rw [show k + 1 + j = k + (j + 1) by omega] at this
    simpa [clsListT] using this

theorem stepM_mOp {n : Nat} {all : List Oper} {F0 : Fr} {ds : List Deferred} {C : World → Prop} {K : Fr → World → Prop} {Q : Act → World → Prop} {cs : List Cls} (hlt : allLt n (writesOps all) = true)
    (hcs : ∀ (k : Nat) (o : Oper), all[k]? = some o → ∃ c : Cls, cs[k]? = some c ∧ (c = Cls.p → pureO P o = true) ∧ (c = Cls.l → loadO P o = true)) {i : Nat} {F : Fr} {w : World} {a : Act} (hr : Rep n a F) (hk : Kept (writesOps all) F0 F) (hd : a.defers = ds)
    (next : ∀ F' a' w', Rep n a' F' → Kept (writesOps all) F0 F' → a'.defers = ds → K F' w' → Q a' w') (h : stepM P all C cs i F w K) : mOp P all.toArray C (clAt cs) i Q a w := by
  unfold stepM at h
  split at h
  · exact h.elim
  rename_i o h0
  have h0' : all.toArray[i]? = some o := by simpa using h0
  have ho : o ∈ all := List.mem_of_getElem? h0
  have hdst : ∀ i, o.dst = some i → i < n := fun i hi => allLt_mem hlt i (writesOps_mem ho hi)
  have hmemd : ∀ i, o.dst = some i → i ∈ writesOps all := fun i hi => writesOps_mem ho hi
  have next' : ∀ v w', K (updo F o.dst v) w' → Q (a.put o.dst v) w' := fun v w' h' => next _ _ _ (hr.put hdst) (hk.trans (updo_kept hmemd)) (by rw [put_defers, hd]) h'
  obtain ⟨cc, hcc, hcp, hcL⟩ := hcs i o h0
  have hca : clAt cs i = cc := by unfold clAt; rw [List.getD_eq_getElem?_getD, hcc]; rfl
  have hcg : cs.getD i .p = cc := hca
  rw [hcg] at h
  have doit : Region.wanted o (yielded all.toArray a.tmps) = true → mOpV P C (cc) F o w (fun v w' => K (updo F o.dst v) w') → mOp P all.toArray C (clAt cs) i Q a w := fun hw h' => by
    unfold mOp
    simp only [h0', hca]
    rw [if_pos hw, hr.eval]
    cases hcl : cc with
    | p =>
      rw [hcl] at h'
      simp only [mOpV] at h'
      obtain ⟨v, h1, h2⟩ := vcOp_pure (hcp hcl) h'
      exact ⟨v, h1, next' v w h2⟩
    | l =>
      rw [hcl] at h'
      simp only [mOpV] at h'
      obtain ⟨v, h1, h2⟩ := vcOp_load (hcL hcl) h'
      exact ⟨v, h1, next' v w h2⟩
    | f =>
      rw [hcl] at h'
      obtain ⟨v, h1, h2⟩ := fOp_spec h'.2
      exact ⟨h'.1, v, h1, next' v w h2⟩
    | e =>
      rw [hcl] at h'
      exact ⟨h'.1, runsTo_mono (fun v w' h2 => ⟨h2.1, next' v w' h2.2⟩) (vcOp_spec h'.2)⟩
    | w =>
      rw [hcl] at h'
      simp only [mOpV] at h'
      exact runsTo_mono (fun v w' h2 => next' v w' h2) (vcOp_spec h')
  have skip : Region.wanted o (yielded all.toArray a.tmps) = false → K (updo F o.dst undef) w → mOp P all.toArray C (clAt cs) i Q a w := fun hw h' => by
    unfold mOp
    simp only [h0']
    rw [if_neg (by simp [hw])]
    exact next' undef w h'
  split at h
  · rename_i hg
    exact doit (by simp [Region.wanted, hg]) h
  · rename_i j want hg
    split at h
    · exact h.elim
    · rename_i d hdo
      have hdn : d < n := by
        have : ∃ o', all[j]? = some o' ∧ o'.dst = some d := by
          unfold dstOf at hdo
          cases ho' : all[j]? with
          | none => rw [ho'] at hdo; cases hdo
          | some o' => rw [ho'] at hdo; exact ⟨o', rfl, hdo⟩
        obtain ⟨o', h1, h2⟩ := this
        exact allLt_mem hlt d (writesOps_mem (List.mem_of_getElem? h1) h2)
      have hy := hr.yielded hdo hdn
      have hwant : Region.wanted o (yielded all.toArray a.tmps) = (yielded all.toArray a.tmps j == some want) := by simp [Region.wanted, hg]
      split at h
      · rename_i b hb
        rw [hb] at hy
        rcases br_spec h with ⟨rfl, h⟩ | ⟨rfl, h⟩
        · rw [upd_self hb] at h
          cases want with
          | true => exact doit (by rw [hwant, hy]; rfl) h
          | false => exact skip (by rw [hwant, hy]; rfl) h
        · rw [upd_self hb] at h
          cases want with
          | true => exact skip (by rw [hwant, hy]; rfl) h
          | false => exact doit (by rw [hwant, hy]; rfl) h
      · rename_i hnb
        have : yielded all.toArray a.tmps j = none := by
          rw [hy]
          split
          · rename_i b hb; exact (hnb b hb).elim
          · rfl
        exact skip (by rw [hwant, this]; rfl) h

theorem vcT_anyM {n : Nat} {all : List Oper} {F0 : Fr} {ds : List Deferred} {C : World → Prop} {K : Fr → World → Prop} {Q : Act → World → Prop} {cs : List Cls} (hlt : allLt n (writesOps all) = true) (hsel : Region.noSelect all.toArray = true)
    (hcs : ∀ (k : Nat) (o : Oper), all[k]? = some o → ∃ c : Cls, cs[k]? = some c ∧ (c = Cls.p → pureO P o = true) ∧ (c = Cls.l → loadO P o = true))
    (hQ : ∀ a F w, Rep n a F → Kept (writesOps all) F0 F → a.defers = ds → K F w → Q a w) :
    ∀ (f m : Nat) (listed : Array Bool) (F : Fr) (w : World) (a : Act), MaskIs m listed → listed.size = all.length → Closed all.toArray listed → Rep n a F → Kept (writesOps all) F0 F → a.defers = ds →
      vcT P all C cs (freeList all.toArray (masksFrom all []) cs all cs 0) K f m F w → anyM P all.toArray C (clAt cs) Q f listed a w := by
  have hcl : ∀ (k : Nat) (o : Oper) (c : Cls), cs[k]? = some c → clAt cs k = c := fun k o c ho => by
    unfold clAt; rw [List.getD_eq_getElem?_getD, ho]; rfl
  intro f
  induction f with
  | zero =>
    intro m listed F w a hm hs hc hr hk hd h
    unfold vcT at h
    split at h
    · rename_i h0
      refine ⟨List.eq_nil_iff_forall_not_mem.2 fun j hj => ?_, hQ a F w hr hk hd h⟩
      have := (ready_iff hm hs).2 hj
      rw [h0] at this; cases this
    · exact h.elim
  | succ f ih =>
    intro m listed F w a hm hs hc hr hk hd h
    have step : ∀ i, i ∈ Region.ready .any all.toArray listed → stepM P all C cs i F w (fun F' w' => vcT P all C cs (freeList all.toArray (masksFrom all []) cs all cs 0) K f (m ||| 1 <<< i) F' w') →
        mOp P all.toArray C (clAt cs) i (anyM P all.toArray C (clAt cs) Q f (listed.setIfInBounds i true)) a w := fun i hi h' => by
      have hlt' : i < listed.size := by
        obtain ⟨_, o, ho, _⟩ := mem_ready.1 hi
        have : i < all.toArray.size := (Array.getElem?_eq_some_iff.1 ho).1
        simp at this; omega
      exact stepM_mOp hlt hcs hr hk hd (fun F' a' w' hr' hk' hd' h'' => ih _ _ F' w' a' (hm.set hlt') (by simpa using hs) (hc.set hi) hr' hk' hd' h'') h'
    unfold vcT at h
    split at h
    · rename_i i hi
      obtain ⟨hmem, hfr⟩ := findFree_spec hi
      have hrd := (ready_iff hm hs).1 hmem
      obtain ⟨_, oi, hoi, _⟩ := mem_ready.1 hrd
      have hoi' : all[i]? = some oi := by simpa using hoi
      obtain ⟨ci, hci, _, _⟩ := hcs i oi hoi'
      have hfa : freeAt all.toArray (masksFrom all []) i oi ci all cs 0 = true := by
        have := freeList_get (ops := all.toArray) (M := masksFrom all []) (cl := cs) (l := all) (cs := cs) (k := 0) hoi' hci
        rw [List.getD_eq_getElem?_getD, this] at hfr
        simpa using hfr
      refine anyM_first (W := waitsM (masksFrom all [])) (fun listed j i h1 h2 h3 => by
          have := masks_ready (all := all.toArray) listed j i h1 h2 (by simpa using h3)
          exact this) hoi (Region.noSelect_spec hsel) f listed a w hc ?_ hrd (step i hrd h)
      intro j oj hoj hji hjun hno
      have hoj' : all[j]? = some oj := by simpa using hoj
      have := freeAt_spec hfa j oj hoj'
      simp only [Nat.zero_add] at this
      rcases this with h1 | h1 | h1 | ⟨h1, c', h2, h3⟩
      · exact absurd h1 hji
      · rw [hno] at h1; cases h1
      · exfalso
        have h4 := masks_ready (all := all.toArray) listed i j hc hrd (by simpa using h1)
        have hjs : j < listed.size := by
          have : j < all.toArray.size := (Array.getElem?_eq_some_iff.1 hoj).1
          simp at this; omega
        simp [hjs] at hjun h4
        rw [hjun] at h4; cases h4
      · refine ⟨h1, ?_⟩
        rw [hcl i oi ci hci, hcl j oj c' h2]; exact h3
    · split at h
      · rename_i h0
        have hnil : Region.ready .any all.toArray listed = [] := List.eq_nil_iff_forall_not_mem.2 fun j hj => by
          have := (ready_iff hm hs).2 hj
          rw [h0] at this; cases this
        exact ⟨fun _ => hQ a F w hr hk hd h, fun i hi => by rw [hnil] at hi; cases hi⟩
      · rename_i i0 r0 h0
        refine ⟨fun hn => ?_, fun i hi => ?_⟩
        · have : i0 ∈ Region.ready .any all.toArray listed := (ready_iff hm hs).1 (by rw [h0]; exact List.mem_cons_self)
          rw [hn] at this; cases this
        · have hmem := (ready_iff hm hs).2 hi
          rw [h0] at hmem
          exact step i hi (allOf_spec h i hmem)

theorem wp_region_tree {n : Nat} {id : Nat} {ops : Array Oper} {l : List (Nat × Sc)} {F : Fr} {ds : List Deferred} {C : World → Prop} {R : StOf l → World → Prop} {Q' : Exit → Act → World → Prop} {a : Act} {w : World} {cs : List Cls} (hm : P.follows .mixedOrders = true) (hs : Region.noSelect ops = true)
    (hlt : allLt n (writesOps ops.toList) = true) (hr : Rep n a F) (hd : a.defers = ds) (hcs : ∀ (k : Nat) (o : Oper), ops.toList[k]? = some o → ∃ c : Cls, cs[k]? = some c ∧ (c = Cls.p → pureO P o = true) ∧ (c = Cls.l → loadO P o = true))
    (hT : treeA P l ops (masksFrom ops.toList []) cs C F w R)
    (hQ : ∀ F' a' w', Rep n a' F' → Kept (writesOps ops.toList) F F' → a'.defers = ds → (∃ s, setSt l s F' = F' ∧ R s w') → Q' .normal a' w') : (Code.region id ops true).wp P Q' a w := by
  refine wp_region_any hm (wpAny_of_anyM (C := C) (cl := clAt cs) (Q := Q' .normal) (fun a w h => h) _ _ _ _ ?_)
  have := vcT_anyM (P := P) (n := n) (all := ops.toList) (F0 := F) (ds := ds) (C := C) (cs := cs) (K := fun F' w'' => withSt l F' fun s => R s w'') (Q := Q' .normal) hlt (by simpa using hs) hcs
    (fun a F' w' h1 h2 h3 h4 => hQ F' a w' h1 h2 h3 (withSt_spec h4)) ops.toList.length 0 (Array.replicate ops.size false) F w.drew a
    (fun j => by
      rw [Nat.zero_testBit]
      rcases Nat.lt_or_ge j ops.size with h | h <;> simp [h]) (by simp)
    (fun j oj _ hl => by
      exfalso
      have : (Array.replicate ops.size false).getD j false = false := by
        rcases Nat.lt_or_ge j ops.size with h | h <;> simp [h]
      rw [this] at hl; cases hl) hr (Kept.refl _ _) hd (by have := hT _ ((Below.refl _ w).drew); simpa using this)
  simpa using this

theorem Post.mono {n : Nat} {ms ms' : List Nat} {F F' : Fr} {ds : List Deferred} {Q : Ex → Fr → World → Prop} (hF : Kept ms' F F') (hm : ∀ G, Kept ms F' G → Kept ms' F' G) :
    ∀ (e : Exit) (a : Act) (w : World), Post n ms F' ds Q e a w → Post n ms' F ds Q e a w
  | .normal, _, _, ⟨G, h1, h2, h3, h4⟩ => ⟨G, h1, hF.trans (hm G h2), h3, h4⟩
  | .exit _, _, _, ⟨G, h1, h2, h3, h4⟩ => ⟨G, h1, hF.trans (hm G h2), h3, h4⟩
  | .ret, _, _, ⟨G, h1, h2, h3, h4⟩ => ⟨G, h1, hF.trans (hm G h2), h3, h4⟩

theorem vcCode_spec {n : Nat} {ann : Nat → List (Nat × Sc)} {ds : List Deferred} (hm : P.follows .mixedOrders = true) (c : Code) :
    ∀ (b : Nat) (Q : Ex → Fr → World → Prop) (F : Fr) (w : World) (a : Act), allLt n (writes c) = true → Rep n a F → a.defers = ds → vcCode P ann b c Q F w → c.wp P (Post n (writes c) F ds Q) a w := by
  induction c with
  | skip => intro b Q F w a _ hr hd h; exact wp_skip ⟨F, hr, Kept.refl _ _, hd, h⟩
  | region id ops draw =>
    intro b Q F w a hlt hr hd h
    cases draw with
    | false =>
      refine wp_region_list ?_
      have := vcOps_spec (P := P) (n := n) (all := ops.toList) (F0 := F) (ds := ds) (K := Q .normal) (Q := Post n (writesOps ops.toList) F ds Q) hlt
        (fun a' F' w' h1 h2 h3 h4 => ⟨F', h1, h2, h3, h4⟩) ops.toList F w a (fun _ h => h) hr (Kept.refl _ _) hd h
      simp only [Array.toArray_toList] at this
      exact this
    | true =>
      have h' : vcDraw P (ann (1000000 + id)) ops F w (Q .normal) := h
      clear h
      unfold vcDraw vcDrawM at h'
      have hbel : Below w.heap.size w w.drew := (Below.refl _ w).drew
      have mixed : ∀ C : World → Prop, mixB ops (masksFrom ops.toList []) (clsList P (masksFrom ops.toList []) ops.toList ops.toList 0) = true →
          (∀ w', Below w.heap.size w w' → vcM P ops.toList C ops.toList (clsList P (masksFrom ops.toList []) ops.toList ops.toList 0) F w' (Q .normal)) →
          (Code.region id ops true).wp P (Post n (writes (.region id ops true)) F ds Q) a w := fun C hB h => by
        refine wp_region_mix (C := C) (cs := clsList P (masksFrom ops.toList []) ops.toList ops.toList 0) (Q := Post n (writesOps ops.toList) F ds Q .normal) hm hB (fun a w h => h) ?_
        have := vcM_listM (P := P) (n := n) (all := ops.toList) (F0 := F) (ds := ds) (C := C) (K := Q .normal) (Q := Post n (writesOps ops.toList) F ds Q .normal) (M := masksFrom ops.toList [])
          (cs := clsList P (masksFrom ops.toList []) ops.toList ops.toList 0) hlt (fun k o ho => by have := clsList_get (P := P) (M := masksFrom ops.toList []) (all := ops.toList) (k := 0) ho; simpa using this)
          (fun a F w h1 h2 h3 h4 => ⟨F, h1, h2, h3, h4⟩) ops.toList 0 F w.drew a (by simp) hr (Kept.refl _ _) hd (by simpa using h _ hbel)
        simpa using this
      split at h'
      · rename_i hB
        split at h'
        · exact mixed _ hB h'
        · obtain ⟨C, _, hb⟩ := h'
          exact mixed C hB hb
      · split at h'
        · obtain ⟨hB, h⟩ := cond_spec h'
          refine wp_region_quiet (C := fun w' => Below w.heap.size w w') hm hB ((Below.refl _ w).drew) ?_
          have := vcQ_spec (P := P) (n := n) (all := ops.toList) (F0 := F) (ds := ds) (w0 := w) (K := fun F' => ∀ w', Below w.heap.size w w' → Q .normal F' w')
            (Q := fun a' => ∀ w', Below w.heap.size w w' → Post n (writesOps ops.toList) F ds Q .normal a' w') hlt
            (fun a' F' h1 h2 h3 h4 w' hb => ⟨F', h1, h2, h3, h4 w' hb⟩) ops.toList F a (fun _ h => h) hr (Kept.refl _ _) hd h
          simp only [Array.toArray_toList] at this
          exact this
        · obtain ⟨hs, R, hT, hB⟩ := cond_spec h'
          have fin : ∀ C : World → Prop, treeA P (ann (1000000 + id)) ops (masksFrom ops.toList []) (clsListT P (masksFrom ops.toList []) ops.toList ops.toList 0) C F w R → (Code.region id ops true).wp P (Post n (writes (.region id ops true)) F ds Q) a w := fun C hT => by
            refine wp_region_tree (l := ann (1000000 + id)) (n := n) (F := F) (ds := ds) (R := R) (C := C) hm hs hlt hr hd
              (fun k o ho => by have := clsListT_get (P := P) (M := masksFrom ops.toList []) (all := ops.toList) (k := 0) ho; exact ⟨_, this, clsT_p, clsT_l⟩) hT fun F' a' w' hr' hk' hd' ⟨s, hst, hR⟩ => ?_
            have := hB s w' hR F'
            rw [mix_self hk', hst] at this
            exact ⟨F', hr', hk', hd', this⟩
          split at hT
          · exact fin _ hT
          · obtain ⟨C, _, hb⟩ := hT
            exact fin C hb
  | seq x y ihx ihy =>
    intro b Q F w a hlt hr hd h
    obtain ⟨h1, h2⟩ := allLt_append hlt
    refine wp_seq (Code.wp_mono ?_ (ihx b _ F w a h1 hr hd h))
    intro e a' w' hp
    cases e with
    | normal =>
      obtain ⟨F', hr', hk', hd', h'⟩ := hp
      exact Code.wp_mono (Post.mono (Kept.left hk') fun G hG => Kept.right hG) (ihy b Q F' w' a' h2 hr' hd' h')
    | exit i => obtain ⟨F', hr', hk', hd', h'⟩ := hp; exact ⟨F', hr', Kept.left hk', hd', h'⟩
    | ret => obtain ⟨F', hr', hk', hd', h'⟩ := hp; exact ⟨F', hr', Kept.left hk', hd', h'⟩
    | _ => exact hp.elim
  | cond c x y ihx ihy =>
    intro b Q F w a hlt hr hd h
    obtain ⟨h1, h2⟩ := allLt_append hlt
    unfold vcCode at h
    split at h
    · rename_i t ht
      refine wp_cond (t := t) (by rw [hr.eval, ht]) ?_
      rcases br_spec h with ⟨rfl, h⟩ | ⟨rfl, h⟩
      · exact Code.wp_mono (Post.mono (Kept.refl _ _) fun G hG => Kept.left hG) (ihx b Q F w a h1 hr hd h)
      · exact Code.wp_mono (Post.mono (Kept.refl _ _) fun G hG => Kept.right hG) (ihy b Q F w a h2 hr hd h)
    · exact h.elim
  | block id c ih =>
    intro b Q F w a hlt hr hd h
    refine wp_block (Code.wp_mono ?_ (ih id _ F w a hlt hr hd h))
    intro e a' w' hp
    cases e with
    | normal => exact hp
    | exit i =>
      obtain ⟨F', hr', hk', hd', h'⟩ := hp
      show (if i = id then _ else _)
      by_cases hi : i = id
      · subst hi
        rw [if_pos rfl]
        have : Nat.beq i i = true := Nat.beq_refl i
        simp only [this, cond_true] at h'
        exact ⟨F', hr', hk', hd', h'⟩
      · rw [if_neg hi]
        have : Nat.beq i id = false := by
          cases hb : Nat.beq i id with
          | true => exact absurd (Nat.eq_of_beq_eq_true hb) hi
          | false => rfl
        simp only [this, cond_false] at h'
        exact ⟨F', hr', hk', hd', h'⟩
    | ret => exact hp
    | _ => exact hp.elim
  | loop c ih =>
    intro b Q F w a hlt hr hd h
    obtain ⟨s0, hs0, I, μ, hI, hround⟩ := withSt_spec h
    refine wp_loop_ghost (fun k a' w' => ∃ s F', I s w' ∧ μ s w' = k ∧ Rep n a' F' ∧ Kept (writes c) F F' ∧ a'.defers = ds ∧ setSt (ann b) s F' = F') (μ s0 w) ⟨s0, F, hI, rfl, hr, Kept.refl _ _, hd, hs0⟩ ?_
    rintro k a' w' ⟨s, F', hIs, rfl, hr', hk', hd', hs'⟩
    have hv := hround s w' hIs F'
    rw [mix_self hk', hs'] at hv
    refine Code.wp_mono ?_ (ih b _ F' w' a' hlt hr' hd' hv)
    intro e a'' w'' hp
    cases e with
    | normal =>
      obtain ⟨F'', hr'', hk'', hd'', h''⟩ := hp
      obtain ⟨s', hs'', hIs', hlt'⟩ := withSt_spec h''
      exact ⟨μ s' w'', hlt', s', F'', hIs', rfl, hr'', hk'.trans hk'', hd'', hs''⟩
    | exit i => obtain ⟨F'', hr'', hk'', hd'', h''⟩ := hp; exact ⟨F'', hr'', hk'.trans hk'', hd'', h''⟩
    | ret => obtain ⟨F'', hr'', hk'', hd'', h''⟩ := hp; exact ⟨F'', hr'', hk'.trans hk'', hd'', h''⟩
    | _ => exact hp.elim
  | exit id => intro b Q F w a _ hr hd h; exact wp_exit ⟨F, hr, Kept.refl _ _, hd, h⟩
  | ret => intro b Q F w a _ hr hd h; exact wp_ret ⟨F, hr, Kept.refl _ _, hd, h⟩
  | _ => intro b Q F w a _ hr hd h; exact h.elim

/-! ## Soundness: functions -/

def resGet (tmps : Array Value) : ResultVar → Sem Value
  | .tmp t => pure (tmps.getD t undef)
  | .cell x t => do loadVar t (← asAddr (tmps.getD x undef))

theorem vcRes_spec {n : Nat} : ∀ {l : List ResultVar} {F : Fr} {w : World} {a : Act} {K : List Value → Prop}, Rep n a F → vcRes P l F w K →
    ∃ vs : List Value, (l.mapM (resGet a.tmps)).run P w = .ok vs w ∧ K vs
  | [], _, _, _, _, _, h => ⟨[], by simp, h⟩
  | .tmp t :: r, F, w, a, K, hr, h => by
    obtain ⟨vs, h1, h2⟩ := vcRes_spec (l := r) (K := fun vs => K (F t :: vs)) hr h
    exact ⟨F t :: vs, run_mapM_cons (by rw [resGet, hr.2]; rfl) h1, h2⟩
  | .cell x t :: r, F, w, a, K, hr, h => by
    unfold vcRes at h
    split at h
    · rename_i q hq
      obtain ⟨ad, rfl, hl⟩ := onSome_spec h
      clear h
      obtain ⟨v, hv, hl'⟩ := vcLoad_spec hl
      obtain ⟨vs, h1, h2⟩ := vcRes_spec hr hl'
      exact ⟨v :: vs, run_mapM_cons (by rw [resGet, hr.2, hq, Sem.run_bind]; exact hv) h1, h2⟩
    · exact h.elim

theorem results_run {n : Nat} {fn : Func} {F : Fr} {w : World} {a : Act} {K : List Value → Prop} (hr : Rep n a F) (h : vcRes P fn.results.toList F w K) :
    ∃ vs : List Value, (results fn a.tmps).run P w = .ok (oneOrTuple vs) w ∧ K vs := by
  obtain ⟨vs, h1, h2⟩ := vcRes_spec hr h
  refine ⟨vs, ?_, h2⟩
  have e : results fn a.tmps = (do let vs ← fn.results.mapM (resGet a.tmps); pure (if h : vs.size = 1 then vs[0] else .tuple vs)) := by
    unfold results
    congr 1
  rw [e, Sem.run_bind, Array.mapM_eq_mapM_toList, Sem.run_map, h1]
  simp only [Result.andThen_ok, Sem.run_pure, List.size_toArray]
  match vs with
  | [] => rfl
  | [v] => rfl
  | v :: v' :: r => rw [dif_neg (by simp)]; rfl

/-- THE STEP FROM THE COMPUTED PREDICATE TO THE CALL. -/
theorem fn_of_vc {f : FuncId} {fn : Func} {ann : Nat → List (Nat × Sc)} {args : List Value} {w : World} {Φ : Value → World → Prop}
    (hf : P.funcs[f]? = some fn) (hok : okFn P fn args.length = true) (h : vcBody P fn ann args w Φ) : CallR P f args w Φ := by
  unfold okFn at hok
  split at hok
  · rename_i c hb
    simp only [Bool.and_eq_true, Bool.not_eq_true'] at hok
    obtain ⟨⟨⟨hlt, hle⟩, hnm⟩, hm⟩ := hok
    refine .inl ⟨by simp [callable, hf, hb, hnm], calls_of_wp hf hb ?_⟩
    unfold vcBody at h
    rw [hb] at h
    have hle' := Nat.le_of_ble_eq_true hle
    have hrep : Rep fn.ntmps { tmps := args.toArray ++ Array.replicate (fn.ntmps - args.toArray.size) undef, defers := [] } (frOf args) := by
      refine ⟨by simp; omega, fun i => ?_⟩
      have hfr : ∀ (l : List Value) (i : Nat), frOf l i = l.getD i undef := by
        intro l
        induction l with
        | nil => intro i; rfl
        | cons v l ih => intro i; cases i with
          | zero => rfl
          | succ i => exact ih i
      rw [hfr]
      simp only [Array.getD_eq_getD_getElem?, Array.getElem?_append, List.getD_eq_getElem?_getD, List.size_toArray, List.getElem?_toArray]
      split
      · rfl
      · rename_i hi
        rw [List.getElem?_eq_none (by omega)]
        simp only [Array.getElem?_replicate]
        split <;> rfl
    refine Code.wp_mono ?_ (vcCode_spec (n := fn.ntmps) (ds := []) hm c 0 _ _ w _ hlt hrep rfl h)
    intro e a' w' hp
    cases e with
    | normal =>
      obtain ⟨F', hr', _, hd', h'⟩ := hp
      obtain ⟨vs, h1, h2⟩ := results_run (P := P) (fn := fn) hr' h'
      exact ⟨hd', _, h1, _, rfl, h2⟩
    | ret =>
      obtain ⟨F', hr', _, hd', h'⟩ := hp
      obtain ⟨vs, h1, h2⟩ := results_run (P := P) (fn := fn) hr' h'
      exact ⟨hd', _, h1, _, rfl, h2⟩
    | exit i => obtain ⟨F', hr', _, hd', h'⟩ := hp; exact h'.elim
    | _ => exact hp.elim
  · cases hok

end

end Go.Vc

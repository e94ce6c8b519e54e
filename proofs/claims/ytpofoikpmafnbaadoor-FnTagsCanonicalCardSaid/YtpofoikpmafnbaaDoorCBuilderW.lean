/-
  What functions of this seat compute, part 'BuilderW': contracts over their readable predicates. Conditions: each theorem's own hypotheses.
-/
import Derived.Test.YtpofoikpmafnbaaDoorBase
import Derived.Test.YtpofoikpmafnbaaDoorOpen
import Derived.Test.YtpofoikpmafnbaaDoorGen
import Derived.Lib.Builder
import Derived.Lib.AppendStr
import Derived.WalkKit
import Derived.Laws.Externs
import Derived.Lib.Strings
import Derived.Lib.Slices
import Derived.Lib.Walk
import Derived.Laws.IdiomCopy
import Derived.Laws.BitsLemmas
import Derived.Test.YtpofoikpmafnbaaDoorShelf
namespace Go.Proofs
open Go Go.Vc Go.RowKit
set_option maxRecDepth 100000
set_option linter.unusedVariables false
--! M:Derived.Lib.Builder M:Derived.Lib.AppendStr M:Derived.WalkKit M:Derived.Laws.Externs M:Derived.Lib.Strings M:Derived.Lib.Slices M:Derived.Lib.Walk M:Derived.Laws.IdiomCopy M:Derived.Laws.BitsLemmas S
/-! ## strings.Builder -/

set_option maxHeartbeats 1000000 in
theorem k_copyCheck_used (b : Nat) (w : World) (h0 : w.cell? ⟨b, 0, none⟩ = some (.pointer (some ⟨b, 0, none⟩))) :
    Calls Tryd.prog 34 #[.pointer (some ⟨b, 0, none⟩)] w fun e w' => e = .returned (.tuple #[]) ∧ w' = w := by
  have sz : (Tryd.prog.info? 43).map (·.size) = some 2 := by kernel_rfl
  obtain ⟨j, hj, _⟩ := Option.map_eq_some_iff.1 sz
  go_enter Tryd.func34, Tryd.ntmps34
  go_wp2
  rw [Lib.run_neq_ptr_same w _ Tryd.underlying41 hj]
  go_wp2
  go_end0
  exact ⟨rfl, rfl⟩

set_option maxHeartbeats 1000000 in
theorem k_copyCheck_fresh (b : Nat) (w : World) (h0 : w.cell? ⟨b, 0, none⟩ = some (.pointer none)) (hsh : w.shape? b = some (43, 2)) (hfz : w.frozen? ⟨b, 0, none⟩ = false) :
    Calls Tryd.prog 34 #[.pointer (some ⟨b, 0, none⟩)] w fun e w' => e = .returned (.tuple #[]) ∧ w' = w.setCell ⟨b, 0, none⟩ (.pointer (some ⟨b, 0, none⟩)) := by
  have sz : (Tryd.prog.info? 43).map (·.size) = some 2 := by kernel_rfl
  have li : liesAt Tryd.prog Tryd.prog.depth 43 (2 / Tryd.prog.cellsOf 43) 0 43 1 = true := by kernel_rfl
  obtain ⟨j, hj, hjs⟩ := Option.map_eq_some_iff.1 sz
  go_enter Tryd.func34, Tryd.ntmps34
  go_wp2
  rw [Lib.run_to_unsafe w ⟨b, 0, none⟩ Tryd.underlying41 Tryd.underlying64 hj (by rw [hjs]; decide) hsh (Nat.zero_lt_succ 1)]
  simp only [Result.andThen]
  rw [Oper.upon_value]
  go_wp2
  rw [run_callFunc_extern Tryd.func40 (by kernel_rfl) (by kernel_rfl) (by kernel_rfl) (e := Extern.AbiNoEscape.same) (by kernel_rfl)]
  rw [Lib.run_noEscape]
  simp only [Result.andThen]
  rw [Oper.upon_value]
  go_wp2
  rw [Lib.run_from_unsafe w ⟨b, 0, none⟩ Tryd.underlying64 Tryd.underlying41 hj hsh li]
  simp only [Result.andThen]
  rw [Oper.upon_value]
  go_wp2
  go_end0
  exact ⟨rfl, rfl⟩

theorem k_copyCheck (B b : Nat) (bs : List Value) (w : World) (h : Lib.IsBuilder 43 5 B b bs w) :
    Calls Tryd.prog 34 #[.pointer (some ⟨b, 0, none⟩)] w fun e w' => e = .returned (.tuple #[]) ∧ (Lib.BuilderAt 43 5 B b (.pointer (some ⟨b, 0, none⟩)) bs w' ∧ Below B w w') := by
  rcases h with h | h
  · refine (k_copyCheck_fresh b w h.cell0 h.shape h.frozen0).mono ?_
    rintro e w' ⟨rfl, rfl⟩
    exact ⟨rfl, h.used _, (Below.refl B w).setCell (p := ⟨b, 0, none⟩) h.1 _⟩
  · refine (k_copyCheck_used b w h.cell0).mono ?_
    rintro e w' ⟨rfl, rfl⟩
    exact ⟨rfl, h, Below.refl B _⟩

/-- A Builder of the call's own that holds these bytes. -/
abbrev Bd (B b : Nat) (bs : List UInt8) (w : World) : Prop := Lib.IsBuilder 43 5 B b (Lib.byteCells bs) w

set_option maxHeartbeats 1000000 in
theorem k_WriteByte (B b : Nat) (bs : List Value) (c : Int) (w : World) (h : Lib.IsBuilder 43 5 B b bs w) (hlen : bs.length + 1 ≤ 140737488355328) (hBw : B ≤ w.heap.size) :
    CallR Tryd.prog 23 [.pointer (some ⟨b, 0, none⟩), .int .u8 c] w fun v w' => v = .nilIface ∧ (Lib.IsBuilder 43 5 B b (bs ++ [.int .u8 c]) w' ∧ Below B w w') := by
  refine fn_strings_Builder_WriteByte _ _ _ _ ?_
  unfold g_strings_Builder_WriteByte
  refine .inl ⟨by kernel_rfl, (k_copyCheck B b bs w h).mono ?_⟩
  rintro e w1 ⟨rfl, h1, hb1⟩
  refine ⟨_, rfl, rfl, ?_⟩
  obtain ⟨hB, v, hbk, hown, hne⟩ := h1
  obtain ⟨s, rfl, hsl⟩ := sl_of_ownsRow hown
  have hsz := hb1.size
  have hBlt : b < w1.heap.size := (Array.getElem?_eq_some_iff.1 hbk).1
  have c1 : w1.cell? ((⟨b, 0, none⟩ : Addr).add 1) = some (.slice s.a s.len s.cap) := by rw [add_b, Lib.cell_of_heap hbk]; rfl
  refine ⟨s, c1, letW_i fun w2 hw2 => ?_⟩
  have e2 : Ext w1 w2 := by rw [hw2]; exact (Ext.refl w1).alloc _
  have r2 : Row w2 w1.heap.size [.int .u8 c] 5 := by rw [hw2]; exact Row.new w1 _ _
  have o1 : Own B 5 1 w1 s bs := by unfold Own; rw [hsl]; exact hown
  have o2 := o1.ext e2
  refine sAppend_i o2 (Src.row r2 rfl (by intro u hu; simp at hu; subst hu; rfl)) (by simp only [hsl]; omega) (by simp only [hsl]; omega) (by have := e2.size; omega) (fun s' w3 hl3 o3 hg3 => ?_)
  have hb3 : w3.heap[b]? = some (.cells #[.pointer (some ⟨b, 0, none⟩), s.v] 43 (0, 0)) := by
    rw [hg3.block b (by have := e2.size; omega) (fun e => hne e.symm), e2.block b hBlt]
    exact hbk
  have hwr : Wr w3 ((⟨b, 0, none⟩ : Addr).add 1) := by
    rw [add_b]
    exact ⟨by rw [Lib.cell_of_heap hb3]; rfl, Lib.frozen_of_heap hb3 1⟩
  refine ⟨hwr, letW_i fun w4 hw4 => ⟨rfl, ?_, ?_⟩⟩
  · rw [hw4, add_b]
    refine .inr (Lib.BuilderAt.put (T := 43) (e := 5) hB hb3 (bs' := bs ++ [.int .u8 c]) ?_ (by decide))
    have : s'.len = (bs ++ [Value.int .u8 c]).length := by rw [hl3, hsl]; simp
    rw [← this]; exact o3
  · rw [hw4, add_b]
    exact ((hb1.trans (e2.mono (by omega))).grown hg3 (by have := e2.size; omega) (fun k hk => (o2.lt k hk).1)).setCell (p := ⟨b, 1, none⟩) hB _

theorem c_WriteByte {B b : Nat} {bs : List UInt8} {w : World} (u : UInt8) {c : Int} (hc : c = (u.toNat : Int)) (h : Bd B b bs w) (hlen : bs.length + 1 ≤ 140737488355328) (hBw : B ≤ w.heap.size) :
    CallR Tryd.prog 23 [.pointer (some ⟨b, 0, none⟩), .int .u8 c] w (fun v w' => v = .nilIface ∧ Bd B b (bs ++ [u]) w' ∧ Below B w w') := by
  subst hc
  refine (k_WriteByte B b _ _ w h (by simpa [Lib.byteCells] using hlen) hBw).mono ?_
  rintro v w' ⟨rfl, h1, h2⟩
  exact ⟨rfl, by simpa [Bd, Lib.byteCells] using h1, h2⟩

set_option maxHeartbeats 2000000 in
theorem k_WriteString (B b : Nat) (bs : List Value) (s : ByteArray) (w : World) (h : Lib.IsBuilder 43 5 B b bs w) (hlen : bs.length + s.size ≤ 140737488355328) (hBw : B ≤ w.heap.size) :
    Calls Tryd.prog 24 #[.pointer (some ⟨b, 0, none⟩), .string s] w fun e w' => e = .returned (.tuple #[.int .i64 s.size, .nilIface]) ∧ (Lib.BuilderAt 43 5 B b (.pointer (some ⟨b, 0, none⟩)) (bs ++ Lib.strCells s) w' ∧ Below B w w') := by
  have ib : (Tryd.prog.info? 5).map (fun i => (i.zero, i.size, i.bytes)) = some (some (.int .u8 0), 1, 1) := by kernel_rfl
  obtain ⟨i0, hi, hz0, hz1, hz2⟩ := info_parts ib
  go_enter Tryd.func24, Tryd.ntmps24
  go_wp2_with (go_at_call 34; refine (k_copyCheck B b bs _ h).mono ?_)
  rintro e w1 ⟨rfl, h1, hb1⟩
  obtain ⟨hB, v, hbk, hown, hne⟩ := h1
  have c0 : w1.cell? ⟨b, 0, none⟩ = some (.pointer (some ⟨b, 0, none⟩)) := by rw [Lib.cell_of_heap hbk]; rfl
  have c1 : w1.cell? ⟨b, 1, none⟩ = some v := by rw [Lib.cell_of_heap hbk]; rfl
  go_wp2_with (at_builtin; refine Lib.wpList_append_own_string _ rfl _ _ 28 9 rfl B 5 i0 Tryd.underlying28 Tryd.underlying9 hi hz0 hz1 hz2 _ _ _ rfl hown s rfl ?c3 ?c4 ?c5 ?_)
  case c3 => unfold maxLen; omega
  case c4 => omega
  case c5 => have := hb1.size; omega
  intro v' w2 hown' hgrow _
  have hlt : b < w1.heap.size := by
    rcases Nat.lt_or_ge b w1.heap.size with h' | h'
    · exact h'
    · simp [Array.getElem?_eq_none h'] at hbk
  have hb2 : w2.heap[b]? = some (.cells #[.pointer (some ⟨b, 0, none⟩), v] 43 (0, 0)) := by
    rw [hgrow.block b hlt (fun e => hne e.symm)]
    exact hbk
  have d0 : w2.cell? ⟨b, 0, none⟩ = some (.pointer (some ⟨b, 0, none⟩)) := by rw [Lib.cell_of_heap hb2]; rfl
  have d1 : w2.cell? ⟨b, 1, none⟩ = some v := by rw [Lib.cell_of_heap hb2]; rfl
  have f1 : w2.frozen? ⟨b, 1, none⟩ = false := Lib.frozen_of_heap hb2 1
  obtain ⟨ao, n', cap, rfl⟩ : ∃ ao n' cap, v' = .slice ao n' cap := by
    rcases hown'.2 with ⟨hv, _⟩ | ⟨g, cap, cur, hv, _⟩
    · exact ⟨_, _, _, hv⟩
    · exact ⟨_, _, _, hv⟩
  go_wp2
  go_ret2
  refine ⟨rfl, ?_, ?_⟩
  · exact Lib.BuilderAt.put (T := 43) (e := 5) hB hb2 (bs' := bs ++ Lib.strCells s) (by simpa [Lib.strCells_length] using hown') (by decide)
  · exact (hb1.grown hgrow (by have := hb1.size; omega) (fun k hk => (hown.lt k hk).1)).setCell (p := ⟨b, 1, none⟩) hB _

theorem strCells_eq (s : ByteArray) : Lib.strCells s = Lib.byteCells s.data.toList := by
  simp [Lib.strCells, Lib.byteCells, toList_eq]

theorem c_WriteString {B b : Nat} {bs : List UInt8} {w : World} (s : ByteArray) (h : Bd B b bs w) (hlen : bs.length + s.size ≤ 140737488355328) (hBw : B ≤ w.heap.size) :
    CallR Tryd.prog 24 [.pointer (some ⟨b, 0, none⟩), .string s] w (fun v w' => v = .tuple #[.int .i64 s.size, .nilIface] ∧ Bd B b (bs ++ s.data.toList) w' ∧ Below B w w') := by
  refine .inl ⟨by kernel_rfl, (k_WriteString B b _ s w h (by simpa [Lib.byteCells] using hlen) hBw).mono ?_⟩
  rintro e w' ⟨rfl, h1, h2⟩
  refine ⟨_, rfl, rfl, .inr ?_, h2⟩
  rw [strCells_eq] at h1
  simpa [Lib.byteCells] using h1

theorem c_String {B b : Nat} {bs : List UInt8} {w : World} (h : Bd B b bs w) (hBw : B ≤ w.heap.size) :
    CallR Tryd.prog 26 [.pointer (some ⟨b, 0, none⟩)] w (fun v w' => v = .string ⟨bs.toArray⟩ ∧ Below B w w') :=
  .inl ⟨by kernel_rfl, (Tryd.Builder_String_any B b bs w h hBw).mono fun e w' ⟨h1, h2⟩ => ⟨_, h1, rfl, h2⟩⟩

theorem Bd.ext {B b : Nat} {bs : List UInt8} {w w' : World} (h : Bd B b bs w) (e : Ext w w') : Bd B b bs w' := by
  have key : ∀ p, Lib.BuilderAt 43 5 B b p (Lib.byteCells bs) w → Lib.BuilderAt 43 5 B b p (Lib.byteCells bs) w' := by
    rintro p ⟨hB, v, hb, ho, hne⟩
    refine ⟨hB, v, by rw [e.block b (Array.getElem?_eq_some_iff.1 hb).1]; exact hb, ?_, hne⟩
    obtain ⟨s, rfl, hs⟩ := sl_of_ownsRow ho
    rw [← hs] at ho ⊢
    exact Own.ext ho e
  exact h.imp (key _) (key _)

theorem Bd.new (w : World) : Bd w.heap.size w.heap.size [] (w.alloc (.cells #[.pointer none, .slice none 0 0] 43)) := Lib.fresh_isBuilder _ _ w
end Go.Proofs

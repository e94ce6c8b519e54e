/-
  What functions of this seat compute, part 'Lease2': contracts over their readable predicates. Conditions: each theorem's own hypotheses.
-/
import Derived.Test.YtcgmjkokkclciaaBase
import Derived.Test.YtcgmjkokkclciaaOpen
import Derived.Test.YtcgmjkokkclciaaGen
import Derived.Test.YtcgmjkokkclciaaCLease
namespace Go.Proofs
open Go Go.Vc Go.RowKit
set_option maxRecDepth 100000
set_option linter.unusedVariables false
--! C:Lease
/-! ## Leases: holders, lists made anew -/

def hold (xs : List Lz) (name : ByteArray) (now : Int) : Int :=
  match xs.find? fun l => decide (l.1 = name) && decide (now < l.2.2) with
  | some l => l.2.1
  | none => 0
def inT (now : Int) : Bool := decide (0 ≤ now ∧ now ≤ 999)
def holderOf (xs : List Lz) (name : ByteArray) (now : Int) : Int := if vLs xs = true ∧ inT now = true then hold xs name now else 0
def notN (name : ByteArray) (l : Lz) : Bool := !(decide (l.1 = name))
def live (now : Int) (l : Lz) : Bool := decide (now < l.2.2)

theorem find_mid {α : Type} {p : α → Bool} {xs pre post : List α} {c : α} (hx : xs = pre ++ c :: post) (h0 : pre.find? p = none) (h1 : p c = true) : xs.find? p = some c := by
  rw [hx, List.find?_append, h0]
  simp [h1]

theorem c_spec_holder {w : World} {s : Sl} {xs : List Lz} (name : ByteArray) (now : Int) (h : Leases w s xs) (hl : xs.length ≤ maxLen) :
    CallR Try.prog 48 [.slice s.a s.len s.cap, .string name, .int .i64 now] w (fun v w' => v = .int .i64 (hold xs name now) ∧ Ext w w') := by
  refine fn_spec_holder _ _ _ _ _ ?_
  unfold g_spec_holder
  unfold maxLen at hl
  have hl0 := h.len
  refine sLoop_list xs (fun pre _ w' => w' = w ∧ (pre.find? fun l => decide (l.1 = name) && decide (now < l.2.2)) = none) ⟨rfl, rfl⟩ ?_ ?_
  · rintro K pre post c t w1 hx ⟨rfl, hf⟩ hK _
    have hm := mid_len hx
    have hb0 : ((0 : Int) ≤ pre.length ∧ (pre.length : Int) < (s.len : Int)) := ⟨by omega, by omega⟩
    obtain ⟨a, hsa, c0, c1, c2⟩ := lz_mid h hx
    have next : (decide (c.1 = name) && decide (now < c.2.2)) = false → (InR .i64 ((pre.length : Int) + 1) ∧ K ((pre.length : Int) + 1, ()) w1) := fun hn =>
      ⟨inR_i64 (by omega) (by omega), hK _ _ ⟨rfl, by simp only [List.find?_append, hf, List.find?_cons, hn]; rfl⟩⟩
    refine br_dt (by omega) (onSome_i hsa ⟨hb0, _, c0, ?_⟩)
    rw [seqB_eq]
    refine br_i (fun g1 => onSome_i hsa ⟨hb0, _, c2, br_i (fun g2 => onSome_i hsa ⟨hb0, _, c1, ?_, Ext.refl _⟩) (fun g2 => next (by rw [g2, Bool.and_false]))⟩) (fun g1 => next (by rw [g1, Bool.false_and]))
    have : hold xs name now = c.2.1 := by
      unfold hold
      rw [find_mid hx hf (by rw [g1, g2]; rfl)]
    rw [this]
  · rintro K t _ ⟨rfl, hf⟩ _
    refine br_df (by omega) ⟨?_, Ext.refl _⟩
    unfold hold
    rw [hf]

theorem c_spec_HolderOf {w : World} {s : Sl} {xs : List Lz} (name : ByteArray) (now : Int) (h : Leases w s xs) (hl : xs.length ≤ maxLen) (hs : ∀ x ∈ xs, x.1.size ≤ maxLen) :
    CallR Try.prog 24 [.slice s.a s.len s.cap, .string name, .int .i64 now] w (fun v w' => v = .int .i64 (holderOf xs name now) ∧ Ext w w') := by
  refine fn_spec_HolderOf _ _ _ _ _ ?_
  unfold g_spec_HolderOf
  refine (c_spec_validLeases h hl hs).go fun w1 e1 => ⟨_, rfl, br_i (fun g1 => ?_) (fun g1 => ?_)⟩
  · have : vLs xs = false := nott g1
    exact ⟨by simp [holderOf, this], e1⟩
  have v1 : vLs xs = true := notf g1
  refine (c_spec_inRange _ _ _ _).go fun w2 e2 => ⟨_, rfl, br_i (fun g2 => ?_) (fun g2 => ?_)⟩
  · have : inT now = false := nott g2
    exact ⟨by simp [holderOf, this], e1.trans e2⟩
  have v2 : inT now = true := notf g2
  refine (c_spec_holder name now ((h.ext e1).ext e2) hl).go fun w3 e3 => ⟨_, rfl, by simp [holderOf, v1, v2], (e1.trans e2).trans e3⟩

theorem c_spec_without {w : World} {s : Sl} {xs : List Lz} (name : ByteArray) (h : Leases w s xs) (hl : xs.length ≤ 1000000000) :
    CallR Try.prog 55 [.slice s.a s.len s.cap, .string name] w (fun v w' => ∃ l : Sl, v = .slice l.a l.len l.cap ∧ Own w.heap.size 40 3 w' l ((xs.filter (notN name)).flatMap cL) ∧ Ext w w') := by
  refine fn_spec_without _ _ _ _ ?_
  unfold g_spec_without
  have hl0 := h.len
  refine letW_i fun w1 hw1 => ?_
  have e1 : Ext w w1 := by rw [hw1]; exact (Ext.refl w).alloc _
  have o1 : Own w.heap.size 40 3 w1 ⟨some ⟨w.heap.size, 0, none⟩, 0, 0⟩ [] := by rw [hw1]; exact Own.fresh w _ 3 _ (Nat.le_refl _)
  refine sLoop_list xs (fun pre t w' => Ext w w' ∧ Own w.heap.size 40 3 w' t.1 ((pre.filter (notN name)).flatMap cL)) ⟨e1, o1⟩ ?_ ?_
  · rintro K pre post c ⟨l, u⟩ w2 hx ⟨he, ho⟩ hK _
    have hm := mid_len hx
    have hb0 : ((0 : Int) ≤ pre.length ∧ (pre.length : Int) < (s.len : Int)) := ⟨by omega, by omega⟩
    have hin : InR .i64 ((pre.length : Int) + 1) := inR_i64 (by omega) (by omega)
    obtain ⟨a, hsa, c0, c1, c2⟩ := lz_mid (h.ext he) hx
    refine br_dt (by omega) (onSome_i hsa ⟨hb0, _, c0, ?_⟩)
    rw [seqB_eq]
    refine br_i (fun g1 => onSome_i hsa ⟨hb0, _, c0, _, c1, _, c2, ?_⟩) (fun g1 => ⟨hin, hK _ _ ⟨he, ?_⟩⟩)
    · have hf : (pre.filter (notN name)).length ≤ pre.length := List.length_filter_le _ _
      refine push1 (x := c) cL_len (by decide) (by intro u hu; simp [cL] at hu; rcases hu with rfl | rfl | rfl <;> rfl) ho he.size (by omega) (by decide) (fun s' wm w' hl' o' em om hg => ⟨hin, hK _ _ ⟨(he.trans em).own om hg (Nat.le_refl _), ?_⟩⟩)
      have : notN name c = true := g1
      simpa [List.filter_append, this] using o'
    · have : notN name c = false := g1
      simpa [List.filter_append, this] using ho
  · rintro K ⟨l, u⟩ w2 ⟨he, ho⟩ _
    exact br_df (by omega) ⟨l, rfl, ho, he⟩

/-- What both 'LiveLeases' hand back: nil, or the live ones in new memory. -/
def LiveR (w w' : World) (xs : List Lz) (now : Int) (l : Sl) : Prop :=
  Own w.heap.size 40 3 w' l ((if vLs xs = true ∧ inT now = true then xs.filter (live now) else []).flatMap cL)

theorem c_spec_LiveLeases {w : World} {s : Sl} {xs : List Lz} (now : Int) (h : Leases w s xs) (hl : xs.length ≤ maxLen) (hs : ∀ x ∈ xs, x.1.size ≤ maxLen) :
    CallR Try.prog 26 [.slice s.a s.len s.cap, .int .i64 now] w (fun v w' => ∃ l : Sl, v = .slice l.a l.len l.cap ∧ LiveR w w' xs now l ∧ Ext w w') := by
  refine fn_spec_LiveLeases _ _ _ _ ?_
  unfold g_spec_LiveLeases LiveR
  have hl0 := h.len
  refine letW_i fun w1 hw1 => ?_
  have e1 : Ext w w1 := by rw [hw1]; exact (Ext.refl w).alloc _
  have o1 : Own w.heap.size 40 3 w1 ⟨some ⟨w.heap.size, 0, none⟩, 0, 0⟩ [] := by rw [hw1]; exact Own.fresh w _ 3 _ (Nat.le_refl _)
  refine (c_spec_validLeases (h.ext e1) hl hs).go fun w2 e2 => ⟨_, rfl, br_i (fun g1 => ?_) (fun g1 => ?_)⟩
  · have : vLs xs = false := nott g1
    exact ⟨⟨none, 0, 0⟩, rfl, by simp only [this]; simpa using Own.nil _ _ _ _, e1.trans e2⟩
  have v1 : vLs xs = true := notf g1
  refine (c_spec_inRange _ _ _ _).go fun w3 e3 => ⟨_, rfl, br_i (fun g2 => ?_) (fun g2 => ?_)⟩
  · have : inT now = false := nott g2
    exact ⟨⟨none, 0, 0⟩, rfl, by simp only [this]; simpa using Own.nil _ _ _ _, (e1.trans e2).trans e3⟩
  have v2 : inT now = true := notf g2
  have h10 : xs.length ≤ 10 := by simp only [vLs, Bool.and_eq_true, decide_eq_true_eq] at v1; exact v1.2
  refine sLoop_list xs (fun pre t w' => Ext w w' ∧ Own w.heap.size 40 3 w' t.1 ((pre.filter (live now)).flatMap cL)) ⟨(e1.trans e2).trans e3, (o1.ext e2).ext e3⟩ ?_ ?_
  · rintro K pre post c ⟨l, u⟩ w4 hx ⟨he, ho⟩ hK _
    have hm := mid_len hx
    have hb0 : ((0 : Int) ≤ pre.length ∧ (pre.length : Int) < (s.len : Int)) := ⟨by omega, by omega⟩
    have hin : InR .i64 ((pre.length : Int) + 1) := inR_i64 (by omega) (by omega)
    obtain ⟨a, hsa, c0, c1, c2⟩ := lz_mid (h.ext he) hx
    refine br_dt (by omega) (onSome_i hsa ⟨hb0, _, c2, ?_⟩)
    refine br_i (fun g1 => onSome_i hsa ⟨hb0, _, c0, _, c1, _, c2, ?_⟩) (fun g1 => ⟨hin, hK _ _ ⟨he, ?_⟩⟩)
    · have hf : (pre.filter (live now)).length ≤ pre.length := List.length_filter_le _ _
      refine push1 (x := c) cL_len (by decide) (by intro u hu; simp [cL] at hu; rcases hu with rfl | rfl | rfl <;> rfl) ho he.size (by omega) (by decide) (fun s' wm w' hl' o' em om hg => ⟨hin, hK _ _ ⟨(he.trans em).own om hg (Nat.le_refl _), ?_⟩⟩)
      have : live now c = true := g1
      simpa [List.filter_append, this] using o'
    · have : live now c = false := g1
      simpa [List.filter_append, this] using ho
  · rintro K ⟨l, u⟩ w4 ⟨he, ho⟩ _
    exact br_df (by omega) ⟨l, rfl, by rw [if_pos ⟨v1, v2⟩]; exact ho, he⟩

theorem c_impl_LiveLeases {w : World} {s : Sl} {xs : List Lz} (now : Int) (h : Leases w s xs) :
    CallR Try.prog 27 [.slice s.a s.len s.cap, .int .i64 now] w (fun v w' => ∃ l : Sl, v = .slice l.a l.len l.cap ∧ LiveR w w' xs now l ∧ Ext w w') := by
  refine fn_impl_LiveLeases _ _ _ _ ?_
  unfold g_impl_LiveLeases LiveR
  have hl0 := h.len
  refine (c_impl_ValidLeases h).go fun w2 e2 => ⟨_, rfl, br_i (fun g1 => ?_) (fun g1 => ?_)⟩
  · have : vLs xs = false := nott g1
    exact ⟨⟨none, 0, 0⟩, rfl, by simp only [this]; simpa using Own.nil _ _ _ _, e2⟩
  have v1 : vLs xs = true := notf g1
  refine (c_impl_isTime _ _).go fun w3 e3 => ⟨_, rfl, br_i (fun g2 => ?_) (fun g2 => ?_)⟩
  · have : inT now = false := nott g2
    exact ⟨⟨none, 0, 0⟩, rfl, by simp only [this]; simpa using Own.nil _ _ _ _, e2.trans e3⟩
  have v2 : inT now = true := notf g2
  have h10 : xs.length ≤ 10 := by simp only [vLs, Bool.and_eq_true, decide_eq_true_eq] at v1; exact v1.2
  refine sLoop_list xs (fun pre t w' => Ext w w' ∧ Own w.heap.size 40 3 w' t.1 ((pre.filter (live now)).flatMap cL)) ⟨e2.trans e3, Own.nil _ _ _ _⟩ ?_ ?_
  · rintro K pre post c ⟨l, u⟩ w4 hx ⟨he, ho⟩ hK _
    have hm := mid_len hx
    have hb0 : ((0 : Int) ≤ pre.length ∧ (pre.length : Int) < (s.len : Int)) := ⟨by omega, by omega⟩
    have hin : InR .i64 ((pre.length : Int) + 1) := inR_i64 (by omega) (by omega)
    obtain ⟨a, hsa, c0, c1, c2⟩ := lz_mid (h.ext he) hx
    refine br_dt (by omega) (onSome_i hsa ⟨hb0, _, c0, _, c1, _, c2, local3 fun w5 r5 e5 => ?_⟩)
    have he5 := he.trans e5
    refine ⟨_, r5.cell rfl, ?_⟩
    refine br_i (fun g1 => ⟨_, r5.cell rfl, _, r5.cell rfl, _, r5.cell rfl, ?_⟩) (fun g1 => ⟨hin, hK _ _ ⟨he5, ?_⟩⟩)
    · have hf : (pre.filter (live now)).length ≤ pre.length := List.length_filter_le _ _
      refine push1 (x := c) cL_len (by decide) (by intro u hu; simp [cL] at hu; rcases hu with rfl | rfl | rfl <;> rfl) (ho.ext e5) he5.size (by omega) (by decide) (fun s' wm w' hl' o' em om hg => ⟨hin, hK _ _ ⟨(he5.trans em).own om hg (Nat.le_refl _), ?_⟩⟩)
      have : live now c = true := g1
      simpa [List.filter_append, this] using o'
    · have : live now c = false := g1
      simpa [List.filter_append, this] using ho.ext e5
  · rintro K ⟨l, u⟩ w4 ⟨he, ho⟩ _
    exact br_df (by omega) ⟨l, rfl, by rw [if_pos ⟨v1, v2⟩]; exact ho, he⟩
end Go.Proofs

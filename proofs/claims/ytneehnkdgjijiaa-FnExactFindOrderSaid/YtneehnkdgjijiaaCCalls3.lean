/-
  What functions of this seat compute, part 'Calls3': contracts over their readable predicates. Conditions: each theorem's own hypotheses.
-/
import Derived.Test.YtneehnkdgjijiaaBase
import Derived.Test.YtneehnkdgjijiaaOpen
import Derived.Test.YtneehnkdgjijiaaGen
import Derived.Test.YtneehnkdgjijiaaCCalls
import Derived.Test.YtneehnkdgjijiaaCCalls2
namespace Go.Proofs
open Go Go.Vc Go.RowKit
set_option maxRecDepth 100000
set_option linter.unusedVariables false
--! C:Calls C:Calls2
/-! ## Orders searched -/

def mayF (xs : List Cz) (bg : List Nat) (k : Nat) : Bool := !(decide (k ∈ bg)) && (List.range xs.length).all fun j => decide (j ∈ bg) || decide (j = k) || !(decide (til xs j < frm xs k))
def okNext (xs : List Cz) (bg : List Nat) (v : Int) (k : Nat) : Bool := match xs[k]? with
  | some c => mayF xs bg k && (c.2.2.1 || decide (c.2.2.2 = v))
  | none => false
def valN (xs : List Cz) (k : Nat) : Int := match xs[k]? with | some c => c.2.2.2 | none => 0
def srch (xs : List Cz) : Nat → List Nat → Int → Option (List Nat)
  | 0, bg, _ => some bg
  | f + 1, bg, v => (List.range xs.length).findSome? fun k => if okNext xs bg v k = true then srch xs f (bg ++ [k]) (valN xs k) else none
def findO (xs : List Cz) : Option (List Nat) := if vCs xs = true then srch xs xs.length [] 0 else none

theorem find_next {α : Type} {g : Nat → Option α} {k : Nat} (h : (List.range k).findSome? g = none) (hk : g k = none) : (List.range (k + 1)).findSome? g = none := by
  rw [List.range_succ, List.findSome?_append, h]
  simp [hk]

theorem find_hit {α : Type} {g : Nat → Option α} {k n : Nat} {r : α} (h : (List.range k).findSome? g = none) (hk : g k = some r) (hn : k < n) : (List.range n).findSome? g = some r := by
  obtain ⟨m, rfl⟩ : ∃ m, n = k + 1 + m := ⟨n - (k + 1), by omega⟩
  induction m with
  | zero =>
    rw [Nat.add_zero, List.range_succ, List.findSome?_append, h]
    simp [hk]
  | succ m ih =>
    rw [← Nat.add_assoc, List.range_succ, List.findSome?_append, ih (by omega)]
    rfl

theorem srch_len (xs : List Cz) : ∀ (f : Nat) (bg : List Nat) (v : Int) (r : List Nat), srch xs f bg v = some r → bg.length + f = xs.length → r.length ≤ xs.length
  | 0, bg, v, r, h, hl => by
    simp only [srch, Option.some.injEq] at h
    subst h; omega
  | f + 1, bg, v, r, h, hl => by
    simp only [srch] at h
    obtain ⟨k, hk, hg⟩ := List.exists_of_findSome?_eq_some h
    split at hg
    · exact srch_len xs f _ _ r hg (by simp; omega)
    · cases hg

/-- What the searches hand back. -/
def SrR (base : Nat) (w' : World) (o : Option (List Nat)) (v : Value) : Prop := ∃ l : Sl, v = .tuple #[.slice l.a l.len l.cap, .bool o.isSome] ∧ Own base 3 1 w' l ((castL (o.getD [])).flatMap cI)

theorem SrR.no (base : Nat) (w' : World) : SrR base w' none (.tuple #[.slice none 0 0, .bool false]) := ⟨⟨none, 0, 0⟩, rfl, Own.nil _ _ _ _⟩

theorem cI_one (x : Int) : ∀ u ∈ cI x, u.oneCell' = true := by
  intro u hu
  simp only [cI, List.mem_cons, List.not_mem_nil, or_false] at hu
  rw [hu]; rfl

theorem c_spec_mayFollow {w : World} {s sb : Sl} {xs : List Cz} {bg : List Nat} (k : Nat) (h : Calls4 w s xs) (hb : Ints w sb (castL bg)) (hk : k < xs.length) (hl : xs.length ≤ 1000) (hlb : bg.length ≤ 1000) :
    CallR Try.prog 40 [.slice s.a s.len s.cap, .slice sb.a sb.len sb.cap, .int .i64 k] w (fun v w' => v = .bool (mayF xs bg k) ∧ Ext w w') := by
  refine fn_spec_mayFollow _ _ _ _ _ ?_
  unfold g_spec_mayFollow
  have hl0 := h.len
  have hlb0 := hb.len
  have hcl : (castL bg).length = bg.length := by simp [castL]
  obtain ⟨c, hc⟩ : ∃ c, xs[k]? = some c := ⟨_, List.getElem?_eq_getElem hk⟩
  refine sLoop_up xs.length (fun j _ w' => Ext w w' ∧ ∀ i, i < j → (i = k → i ∉ bg) ∧ (i ≠ k → i ∉ bg → ¬ til xs i < frm xs k)) ⟨Ext.refl _, fun _ hi => by omega⟩ ?_ ?_
  · rintro K j u w1 hj ⟨he, hall⟩ hK _
    refine br_dt (by omega) ?_
    refine sLoop_list bg (fun pre t w' => Ext w w' ∧ t.1 = decide (j ∈ pre)) ⟨he, by simp⟩ ?_ ?_
    · rintro K2 pre post y ⟨t, u2⟩ w2 hx ⟨he2, ht⟩ hK2 _
      have hm := mid_len hx
      simp only at ht
      have hox : castL bg = castL pre ++ (y : Int) :: castL post := by rw [hx]; simp [castL]
      have hcl2 : (castL pre).length = pre.length := by simp [castL]
      obtain ⟨a, ha, c0⟩ := (hb.ext he2).im hox
      rw [hcl2] at c0
      refine br_dt (by omega) (br_i (fun g => ⟨inR_i64 (by omega) (by omega), hK2 _ _ ⟨he2, ?_⟩⟩) (fun g => onSome_i ha ⟨⟨by omega, by omega⟩, _, c0, inR_i64 (by omega) (by omega), hK2 _ _ ⟨he2, ?_⟩⟩))
      · have g' : t = true := g
        rw [g'] at ht
        have := of_decide_eq_true ht.symm
        simp [this]
      · have g' : t = false := g
        rw [g'] at ht
        have hn := of_decide_eq_false ht.symm
        simp only [List.mem_append, List.mem_singleton, hn, false_or]
        rw [Bool.eq_iff_iff, beq_iff_eq, decide_eq_true_iff]
        omega
    · rintro K2 ⟨t, u2⟩ w2 ⟨he2, ht⟩ _
      simp only at ht
      subst ht
      refine br_df (by omega) (fun w3 (e3 : Ext w2 w3) => ?_)
      have e03 := he2.trans e3
      obtain ⟨d, hd⟩ : ∃ d, xs[j]? = some d := ⟨_, List.getElem?_eq_getElem hj⟩
      obtain ⟨a, ha, d0, d1, d2, d3⟩ := cz_at (h.ext e03) hd
      obtain ⟨a', ha', c0, c1, c2, c3⟩ := cz_at (h.ext e03) hc
      have next : ((j = k → j ∉ bg) ∧ (j ≠ k → j ∉ bg → ¬ til xs j < frm xs k)) → (InR .i64 ((j : Int) + 1) ∧ K ((j : Int) + 1, ()) w3) := fun hn => ⟨inR_i64 (by omega) (by omega), hK _ _ ⟨e03, fun i hi => by
        by_cases hij : i = j
        · subst hij; exact hn
        · exact hall i (by omega)⟩⟩
      have bad : mayF xs bg k = false → (Value.bool false = .bool (mayF xs bg k) ∧ Ext w w3) := fun hf => by rw [hf]; exact ⟨rfl, e03⟩
      refine br_i (fun g1 => ?_) (fun g1 => ?_)
      · have hjk : j = k := by simp at g1; omega
        refine br_d (fun g2 => bad (by subst hjk; simp [mayF, g2])) (fun g2 => br_f (by simp [hjk]) (next ⟨fun _ => g2, fun hn => absurd hjk hn⟩))
      · have hjk : j ≠ k := by simp at g1; omega
        refine br_t (by simp; omega) (br_i (fun g2 => ?_) (fun g2 => next ⟨fun hn => absurd hn hjk, fun _ hn => by simp [hn] at g2⟩))
        have hnb : j ∉ bg := by simpa using g2
        refine onSome_i ha ⟨⟨by omega, by omega⟩, _, d1, onSome_i ha' ⟨⟨by omega, by omega⟩, _, c0, br_d (fun g3 => bad ?_) (fun g3 => next ⟨fun hn => absurd hn hjk, fun _ _ => by rw [til_get hd, frm_get hc]; exact g3⟩)⟩⟩
        unfold mayF
        have : ((List.range xs.length).all fun j => decide (j ∈ bg) || decide (j = k) || !(decide (til xs j < frm xs k))) = false := by
          rw [List.all_eq_false]
          refine ⟨j, List.mem_range.2 hj, ?_⟩
          rw [til_get hd, frm_get hc]
          simp [hnb, hjk, g3]
        rw [this, Bool.and_false]
  · rintro K u w1 ⟨he, hall⟩ _
    refine br_df (by omega) ⟨?_, he⟩
    have h1 : k ∉ bg := (hall k hk).1 rfl
    have h2 : ((List.range xs.length).all fun j => decide (j ∈ bg) || decide (j = k) || !(decide (til xs j < frm xs k))) = true := by
      rw [List.all_eq_true]
      intro j hj
      have hj' := List.mem_range.1 hj
      by_cases a1 : j ∈ bg
      · simp [a1]
      by_cases a2 : j = k
      · simp [a2]
      have := (hall j hj').2 a2 a1
      simp [this]
    simp [mayF, h1, h2]

theorem ownNoneCap {base : Nat} {e : TypeId} {size : Nat} {w : World} {s : Sl} {vs : List Value} (h : Own base e size w s vs) (ha : s.a = none) : s.cap = 0 := by
  obtain ⟨a, l, c⟩ := s
  simp only at ha
  subst ha
  rcases h.2 with ⟨hv, _⟩ | ⟨g, cap, cur, hv, _⟩
  · simp only [Sl.v, Value.slice.injEq] at hv; exact hv.2.2
  · simp only [Sl.v, Value.slice.injEq] at hv; cases hv.1

set_option maxHeartbeats 1000000 in
theorem c_spec_search {xs : List Cz} (hl : xs.length ≤ 6) : ∀ (f : Nat) (bg : List Nat) (v : Int) (w : World) (s sb : Sl), Calls4 w s xs → Ints w sb (castL bg) → (sb.a = none → sb.cap = 0) → bg.length + f = xs.length →
    CallR Try.prog 31 [.slice s.a s.len s.cap, .slice sb.a sb.len sb.cap, .int .i64 v] w (fun r w' => SrR w.heap.size w' (srch xs f bg v) r ∧ Ext w w') := by
  intro f
  induction f with
  | zero =>
    intro bg v w s sb h hb hnil hf
    refine fn_spec_search _ _ _ _ _ ?_
    unfold g_spec_search
    have hl0 := h.len
    have hlb0 := hb.len
    have hcl : (castL bg).length = bg.length := by simp [castL]
    refine br_t (by simp; omega) (letW_i fun w1 hw1 => ?_)
    have e1 : Ext w w1 := by rw [hw1]; exact (Ext.refl w).alloc _
    have o1 : Own w.heap.size 3 1 w1 ⟨some ⟨w.heap.size, 0, none⟩, 0, 0⟩ [] := by rw [hw1]; exact Own.fresh w _ 1 _ (Nat.le_refl _)
    exact sAppend_i o1 (Src.of (hb.ext e1) cI_len cI_one hnil) (by simp only; omega) (by simp only; omega) e1.size (fun s' w' hl' o' hg' => ⟨⟨s', rfl, by simpa [srch] using o'⟩, e1.own o1 hg' (Nat.le_refl _)⟩)
  | succ f ih =>
    intro bg v w s sb h hb hnil hf
    refine fn_spec_search _ _ _ _ _ ?_
    unfold g_spec_search
    have hl0 := h.len
    have hlb0 := hb.len
    have hcl : (castL bg).length = bg.length := by simp [castL]
    refine br_f (by simp; omega) ?_
    refine sLoop_up xs.length (fun k _ w' => Ext w w' ∧ (List.range k).findSome? (fun k => if okNext xs bg v k = true then srch xs f (bg ++ [k]) (valN xs k) else none) = none) ⟨Ext.refl _, rfl⟩ ?_ ?_
    · rintro K k u w1 hk ⟨he, hnone⟩ hK _
      obtain ⟨c, hc⟩ : ∃ c, xs[k]? = some c := ⟨_, List.getElem?_eq_getElem hk⟩
      have next : (if okNext xs bg v k = true then srch xs f (bg ++ [k]) (valN xs k) else none) = none → ∀ w', Ext w w' → (InR .i64 ((k : Int) + 1) ∧ K ((k : Int) + 1, ()) w') := fun hn w' e' => ⟨inR_i64 (by omega) (by omega), hK _ _ ⟨e', find_next hnone hn⟩⟩
      have no : okNext xs bg v k = false → (if okNext xs bg v k = true then srch xs f (bg ++ [k]) (valN xs k) else none) = none := fun hn => by rw [hn]; rfl
      have hval : valN xs k = c.2.2.2 := by simp [valN, hc]
      refine br_dt (by omega) ((c_spec_mayFollow k (h.ext he) (hb.ext he) hk (by omega) (by omega)).go fun w2 e2 => ⟨_, rfl, ?_⟩)
      have e02 := he.trans e2
      refine br_i (fun g => next (no (by simp [okNext, hc, nott g])) w2 e02) (fun g => ?_)
      have hmay := notf g
      obtain ⟨a, ha, c0, c1, c2, c3⟩ := cz_at (h.ext e02) hc
      have go : ∀ (nx : Int), nx = c.2.2.2 → okNext xs bg v k = true → letW (w2.alloc (.cells #[] 3)) (fun w19 => sAppend 3 1 8 ⟨(some (⟨w2.heap.size, 0, none⟩ : Addr)), 0, 0⟩ ⟨sb.a, sb.len, sb.cap⟩ w19 (fun l20 w21 => letW (w21.alloc (.cells #[.int .i64 (k : Int)] 3)) (fun w22 => sAppend 3 1 8 ⟨l20.a, l20.len, l20.cap⟩ ⟨(some (⟨w21.heap.size, 0, none⟩ : Addr)), 1, 1⟩ w22 (fun l23 w24 =>
          CallR Try.prog 31 [.slice s.a s.len s.cap, .slice l23.a l23.len l23.cap, .int .i64 nx] w24 (fun r25 w26 => ∃ l27 : Sl, ∃ b28 : Bool, r25 = .tuple #[.slice l27.a l27.len l27.cap, .bool b28] ∧
            br b28 (SrR w.heap.size w26 (srch xs (f + 1) bg v) (.tuple #[.slice l27.a l27.len l27.cap, .bool true]) ∧ Ext w w26) (InR .i64 ((k : Int) + (1 : Int)) ∧ K (((k : Int) + (1 : Int)), ()) w26)))))) := by
        rintro nx rfl hok
        refine letW_i fun w3 hw3 => ?_
        have e3 : Ext w2 w3 := by rw [hw3]; exact (Ext.refl w2).alloc _
        have o3 : Own w2.heap.size 3 1 w3 ⟨some ⟨w2.heap.size, 0, none⟩, 0, 0⟩ [] := by rw [hw3]; exact Own.fresh w2 _ 1 _ (Nat.le_refl _)
        refine sAppend_i o3 (Src.of ((hb.ext e02).ext e3) cI_len cI_one hnil) (by simp only; omega) (by simp only; omega) e3.size (fun l4 w4 hl4 o4 hg4 => ?_)
        have e24 : Ext w2 w4 := e3.own o3 hg4 (Nat.le_refl _)
        have o4' : Own w2.heap.size 3 1 w4 l4 ((castL bg).flatMap cI) := by simpa using o4
        refine push1 (x := (k : Int)) cI_len (by decide) (cI_one _) o4' e24.size (by omega) (by decide) (fun l5 wm w5 hl5 o5 em om hg5 => ?_)
        have e25 : Ext w2 w5 := (e24.trans em).own om hg5 (Nat.le_refl _)
        have hbk : castL bg ++ [(k : Int)] = castL (bg ++ [k]) := by simp [castL]
        rw [hbk] at o5
        refine (ih (bg ++ [k]) c.2.2.2 w5 s l5 (h.ext (e02.trans e25)) (o5.slOf cI_len (by decide)) (ownNoneCap o5) (by simp; omega)).mono ?_
        rintro _ w6 ⟨⟨l6, rfl, o6⟩, e6⟩
        have e06 := (e02.trans e25).trans e6
        have hg : (if okNext xs bg v k = true then srch xs f (bg ++ [k]) (valN xs k) else none) = srch xs f (bg ++ [k]) c.2.2.2 := by rw [if_pos hok, hval]
        refine ⟨l6, _, rfl, br_i (fun g1 => ?_) (fun g1 => next ?_ w6 e06)⟩
        · obtain ⟨r, hr⟩ := Option.isSome_iff_exists.1 g1
          rw [hr] at o6 hg
          have hs : srch xs (f + 1) bg v = some r := find_hit hnone hg hk
          rw [hs]
          exact ⟨⟨l6, rfl, o6.base_le (Nat.le_trans e02.size e25.size)⟩, e06⟩
        · rw [hg]
          cases hr : srch xs f (bg ++ [k]) c.2.2.2 with
          | none => rfl
          | some r => rw [hr] at g1; cases g1
      refine onSome_i ha ⟨⟨by omega, by omega⟩, _, c2, br_i (fun g1 => ?_) (fun g1 => ?_)⟩
      · have hw := nott g1
        refine onSome_i ha ⟨⟨by omega, by omega⟩, _, c3, br_i (fun g2 => next (no ?_) w2 e02) (fun g2 => onSome_i ha ⟨⟨by omega, by omega⟩, _, c2, br_f hw (go v ?_ ?_)⟩)⟩
        · have : c.2.2.2 ≠ v := by simpa using g2
          simp [okNext, hc, hw, this]
        · have : c.2.2.2 = v := by simpa using g2
          exact this.symm
        · have : c.2.2.2 = v := by simpa using g2
          simp [okNext, hc, hmay, this]
      · have hw := notf g1
        exact onSome_i ha ⟨⟨by omega, by omega⟩, _, c2, br_t hw (onSome_i ha ⟨⟨by omega, by omega⟩, _, c3, go _ rfl (by simp [okNext, hc, hmay, hw])⟩)⟩
    · rintro K u w1 ⟨he, hnone⟩ _
      refine br_df (by omega) ⟨?_, he⟩
      have : srch xs (f + 1) bg v = none := hnone
      rw [this]
      exact SrR.no _ _

theorem c_spec_FindOrder {w : World} {s : Sl} {xs : List Cz} (h : Calls4 w s xs) (hl : xs.length ≤ maxLen) :
    CallR Try.prog 13 [.slice s.a s.len s.cap] w (fun v w' => SrR w.heap.size w' (findO xs) v ∧ Ext w w') := by
  refine fn_spec_FindOrder _ _ _ ?_
  unfold g_spec_FindOrder
  refine (c_spec_validCalls h hl).go fun w1 e1 => ⟨_, rfl, br_i (fun g => ?_) (fun g => letW_i fun w2 hw2 => ?_)⟩
  · have : findO xs = none := by unfold findO; rw [if_neg]; intro hv; rw [hv] at g; cases g
    rw [this]; exact ⟨SrR.no _ _, e1⟩
  have hv := notf g
  have e2 : Ext w1 w2 := by rw [hw2]; exact (Ext.refl w1).alloc _
  have o2 : Own w1.heap.size 3 1 w2 ⟨some ⟨w1.heap.size, 0, none⟩, 0, 0⟩ ((castL []).flatMap cI) := by rw [hw2]; exact Own.fresh w1 _ 1 _ (Nat.le_refl _)
  have e02 := e1.trans e2
  refine (c_spec_search (vCs_parts hv).2 xs.length [] 0 w2 s ⟨some ⟨w1.heap.size, 0, none⟩, 0, 0⟩ (h.ext e02) (o2.slOf cI_len (by decide)) (fun hn => by cases hn) (by simp)).mono ?_
  rintro _ w3 ⟨⟨l, rfl, o3⟩, e3⟩
  have : findO xs = srch xs xs.length [] 0 := by unfold findO; rw [if_pos hv]
  rw [this]
  exact ⟨l, _, rfl, ⟨l, rfl, o3.base_le e02.size⟩, e02.trans e3⟩
end Go.Proofs

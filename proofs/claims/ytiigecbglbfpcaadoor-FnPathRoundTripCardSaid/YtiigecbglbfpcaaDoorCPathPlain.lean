/-
  What functions of this seat compute, part 'PathPlain': contracts over their readable predicates. Conditions: each theorem's own hypotheses.
-/
import Derived.Test.YtiigecbglbfpcaaDoorBase
import Derived.Test.YtiigecbglbfpcaaDoorOpen
import Derived.Test.YtiigecbglbfpcaaDoorGen
import Derived.Test.YtiigecbglbfpcaaDoorCPathText
import Derived.Test.YtiigecbglbfpcaaDoorCBstr2
namespace Go.Proofs
open Go Go.Vc Go.RowKit
set_option maxRecDepth 100000
set_option linter.unusedVariables false
--! C:PathText C:Bstr2
/-! ## Pointers: reading, the plain law -/

def unesc : List UInt8 → Option (List UInt8)
  | [] => some []
  | [c] => if c = 126 then none else some [c]
  | c :: d :: r => if c = 126 then (if d = 48 then (unesc r).map (126 :: ·) else if d = 49 then (unesc r).map (47 :: ·) else none) else (unesc (d :: r)).map (c :: ·)

theorem unesc_cons {c : UInt8} (h : c ≠ 126) (r : List UInt8) : unesc (c :: r) = (unesc r).map (c :: ·) := by
  cases r with
  | nil => simp [unesc, h]
  | cons d r => rw [unesc, if_neg h]

theorem unesc_escS (x : List UInt8) : unesc (escS x) = some x := by
  induction x with
  | nil => rfl
  | cons c r ih =>
    have : escS (c :: r) = esc c ++ escS r := by simp [escS]
    rw [this]
    unfold esc
    by_cases h1 : c = 126
    · subst h1; simp [unesc, ih]
    · rw [if_neg h1]
      by_cases h2 : c = 47
      · subst h2; simp [unesc, ih]
      · rw [if_neg h2, List.singleton_append, unesc_cons h1, ih]; rfl

theorem escS_no (x : List UInt8) : (47 : UInt8) ∉ escS x := by
  induction x with
  | nil => simp [escS]
  | cons c r ih =>
    have : escS (c :: r) = esc c ++ escS r := by simp [escS]
    rw [this, List.mem_append]
    rintro (h | h)
    · unfold esc at h
      split at h
      · simp at h
      · split at h
        · simp at h
        · rename_i h2; simp at h; exact h2 h.symm
    · exact ih h

theorem escS_unesc : ∀ (w x : List UInt8), (47 : UInt8) ∉ w → unesc w = some x → escS x = w := by
  intro w
  induction w using unesc.induct with
  | case1 => intro x _ h; simp [unesc] at h; subst h; rfl
  | case2 => intro x _ h; simp [unesc] at h
  | case3 c hc =>
    intro x h47 h
    simp [unesc, hc] at h
    subst h
    have : c ≠ 47 := fun e => h47 (by simp [e])
    simp [escS, esc, hc, this]
  | case4 r ih =>
    intro x h47 h
    simp only [unesc, if_true] at h
    obtain ⟨y, hy, rfl⟩ := Option.map_eq_some_iff.1 h
    have := ih y (fun hm => h47 (by simp [hm])) hy
    have e : escS (126 :: y) = [126, 48] ++ escS y := by simp [escS, esc]
    rw [e, this]; rfl
  | case5 r h1 ih =>
    intro x h47 h
    simp only [unesc, if_true] at h
    rw [if_neg (by decide)] at h
    obtain ⟨y, hy, rfl⟩ := Option.map_eq_some_iff.1 h
    have := ih y (fun hm => h47 (by simp [hm])) hy
    have e : escS (47 :: y) = [126, 49] ++ escS y := by simp [escS, esc]
    rw [e, this]; rfl
  | case6 d r h1 h2 => intro x h47 h; simp [unesc, h1, h2] at h
  | case7 c d r hc ih =>
    intro x h47 h
    rw [unesc, if_neg hc] at h
    obtain ⟨y, hy, rfl⟩ := Option.map_eq_some_iff.1 h
    have := ih y (fun hm => h47 (List.mem_cons_of_mem _ hm)) hy
    have hc2 : c ≠ 47 := fun e => h47 (by simp [e])
    have e : escS (c :: y) = [c] ++ escS y := by simp [escS, esc, hc, hc2]
    rw [e, this]; rfl

/-- Words, each behind a slash. -/
def slashed (ws : List (List UInt8)) : List UInt8 := ws.flatMap fun w => 47 :: w

theorem slashed_inj : ∀ {a b : List (List UInt8)}, (∀ x ∈ a, (47 : UInt8) ∉ x) → (∀ x ∈ b, (47 : UInt8) ∉ x) → slashed a = slashed b → a = b
  | [], [], _, _, _ => rfl
  | [], y :: b, _, _, h => by simp [slashed] at h
  | x :: a, [], _, _, h => by simp [slashed] at h
  | x :: a, y :: b, ha, hb, h => by
    have h1 : x ++ slashed a = y ++ slashed b := by simpa [slashed] using h
    have hx := ha x List.mem_cons_self
    have hy := hb y List.mem_cons_self
    have key : ∀ (p q r t : List UInt8), (47 : UInt8) ∉ p → (47 : UInt8) ∉ q → (r = [] ∨ ∃ r', r = 47 :: r') → (t = [] ∨ ∃ t', t = 47 :: t') → p ++ r = q ++ t → p = q ∧ r = t := by
      intro p
      induction p with
      | nil =>
        intro q r t _ hq hr ht e
        cases q with
        | nil => exact ⟨rfl, e⟩
        | cons z q =>
          exfalso
          rcases hr with rfl | ⟨r', rfl⟩
          · simp at e
          · simp at e; exact hq (by simp [e.1])
      | cons z p ih =>
        intro q r t hp hq hr ht e
        cases q with
        | nil =>
          exfalso
          rcases ht with rfl | ⟨t', rfl⟩
          · simp at e
          · simp at e; exact hp (by simp [e.1])
        | cons z' q =>
          simp only [List.cons_append, List.cons.injEq] at e
          obtain ⟨h1, h2⟩ := ih q r t (fun hm => hp (List.mem_cons_of_mem _ hm)) (fun hm => hq (List.mem_cons_of_mem _ hm)) hr ht e.2
          exact ⟨by rw [e.1, h1], h2⟩
    have sh : ∀ l : List (List UInt8), slashed l = [] ∨ ∃ r', slashed l = 47 :: r' := fun l => by
      cases l with
      | nil => exact .inl rfl
      | cons z l => exact .inr ⟨z ++ slashed l, by simp [slashed]⟩
    obtain ⟨e1, e2⟩ := key x y _ _ hx hy (sh a) (sh b) h1
    rw [e1, slashed_inj (fun z hz => ha z (List.mem_cons_of_mem _ hz)) (fun z hz => hb z (List.mem_cons_of_mem _ hz)) e2]

theorem pathText_slashed (xs : List ByteArray) : pathText xs = slashed (xs.map fun x => escS x.data.toList) := by
  simp [pathText, slashed, List.flatMap_map]

/-- The specification's reader. -/
def parseF : List UInt8 → Bool → List (List UInt8) → List UInt8 → List (List UInt8)
  | [], _, out, now => out ++ [now]
  | [c], first, out, now => if c = 47 then (if first then out else out ++ [now]) ++ [[]] else out ++ [now ++ [c]]
  | c :: d :: r, first, out, now =>
    if c = 47 then parseF (d :: r) false (if first then out else out ++ [now]) []
    else if c = 126 ∧ d = 48 then parseF r false out (now ++ [126])
    else if c = 126 ∧ d = 49 then parseF r false out (now ++ [47])
    else parseF (d :: r) false out (now ++ [c])

theorem parseF_slash (r : List UInt8) (first : Bool) (out : List (List UInt8)) (now : List UInt8) : parseF (47 :: r) first out now = parseF r false (if first then out else out ++ [now]) [] := by
  cases r with
  | nil => simp [parseF]
  | cons d r => rw [parseF, if_pos rfl]

theorem parseF_plain {c : UInt8} (h : c ≠ 47) (h' : c ≠ 126) (r : List UInt8) (first : Bool) (out : List (List UInt8)) (now : List UInt8) : parseF (c :: r) first out now = parseF r false out (now ++ [c]) := by
  cases r with
  | nil => simp [parseF, h]
  | cons d r => rw [parseF, if_neg h, if_neg (fun hh => h' hh.1), if_neg (fun hh => h' hh.1)]

theorem parseF_esc (x : List UInt8) : ∀ (t : List UInt8) (first : Bool) (out : List (List UInt8)) (now : List UInt8), x ≠ [] → parseF (escS x ++ t) first out now = parseF t false out (now ++ x) := by
  induction x with
  | nil => intro t first out now h; exact absurd rfl h
  | cons c r ih =>
    intro t first out now _
    have e : escS (c :: r) = esc c ++ escS r := by simp [escS]
    have step : parseF (escS (c :: r) ++ t) first out now = parseF (escS r ++ t) false out (now ++ [c]) := by
      rw [e, List.append_assoc]
      unfold esc
      by_cases h1 : c = 126
      · subst h1
        rw [if_pos rfl]
        show parseF (126 :: 48 :: (escS r ++ t)) first out now = _
        rw [parseF, if_neg (by decide), if_pos ⟨rfl, rfl⟩]
      · rw [if_neg h1]
        by_cases h2 : c = 47
        · subst h2
          rw [if_pos rfl]
          show parseF (126 :: 49 :: (escS r ++ t)) first out now = _
          rw [parseF, if_neg (by decide), if_neg (by decide), if_pos ⟨rfl, rfl⟩]
        · rw [if_neg h2]
          exact parseF_plain h2 h1 _ _ _ _
    rw [step]
    cases r with
    | nil => simp [escS]
    | cons c' r' =>
      rw [ih t false out (now ++ [c]) (by simp)]
      simp

theorem parseF_slashed (xs : List (List UInt8)) : ∀ (out : List (List UInt8)) (now : List UInt8), parseF (slashed (xs.map escS)) false out now = out ++ [now] ++ xs := by
  induction xs with
  | nil => intro out now; simp [slashed, parseF]
  | cons x xs ih =>
    intro out now
    have e : slashed ((x :: xs).map escS) = 47 :: (escS x ++ slashed (xs.map escS)) := by simp [slashed]
    rw [e, parseF_slash]
    simp only [Bool.false_eq_true, if_false]
    cases x with
    | nil => 
      have : escS [] ++ slashed (xs.map escS) = slashed (xs.map escS) := rfl
      rw [this, ih]; simp
    | cons c r => rw [parseF_esc _ _ _ _ _ (by simp), ih]; simp

/-- Of a pointer's text the reader gives the pointer. -/
theorem parseF_path {xs : List ByteArray} (h : xs ≠ []) : parseF (pathText xs) true [] [] = xs.map fun x => x.data.toList := by
  rw [pathText_slashed]
  cases xs with
  | nil => exact absurd rfl h
  | cons x xs =>
    have e : slashed ((x :: xs).map fun x => escS x.data.toList) = 47 :: (escS x.data.toList ++ slashed ((xs.map fun x => x.data.toList).map escS)) := by simp [slashed, Function.comp_def]
    rw [e, parseF_slash]
    simp only [if_true]
    by_cases hx : x.data.toList = []
    · rw [hx]
      have : escS [] ++ slashed ((xs.map fun x => x.data.toList).map escS) = slashed ((xs.map fun x => x.data.toList).map escS) := rfl
      rw [this, parseF_slashed]; simp [hx]
    · rw [parseF_esc _ _ _ _ _ hx, parseF_slashed]; simp

/-- The pointer with a text. -/
structure IsPath (s : ByteArray) (xs : List ByteArray) : Prop where
  ok : okPath xs = true
  txt : pathText xs = s.data.toList
  size : s.size ≤ 2000

theorem bytes_ext {a b : ByteArray} (h : a.data.toList = b.data.toList) : a = b := by
  rw [← bstr_self a, ← bstr_self b, h]

theorem map_data_inj {a b : List ByteArray} (h : (a.map fun x => x.data.toList) = b.map fun x => x.data.toList) : a = b := by
  have : a = (a.map fun x => x.data.toList).map bstr := by rw [List.map_map]; simp [Function.comp_def, bstr_self]
  rw [this, h, List.map_map]; simp [Function.comp_def, bstr_self]

theorem pathText_nil {xs : List ByteArray} (h : pathText xs = []) : xs = [] := by
  cases xs with
  | nil => rfl
  | cons x r => simp [pathText] at h

theorem pathText_inj {xs ys : List ByteArray} (h : pathText xs = pathText ys) : xs = ys := by
  cases xs with
  | nil => exact (pathText_nil h.symm).symm
  | cons x r =>
    cases ys with
    | nil => exact pathText_nil h
    | cons y t =>
      have h1 := parseF_path (xs := x :: r) (by simp)
      have h2 := parseF_path (xs := y :: t) (by simp)
      rw [h, h2] at h1
      exact (map_data_inj h1).symm

theorem IsPath.unique {s : ByteArray} {xs ys : List ByteArray} (h : IsPath s xs) (k : IsPath s ys) : xs = ys := pathText_inj (h.txt.trans k.txt.symm)
theorem IsPath.str {s : ByteArray} {xs : List ByteArray} (h : IsPath s xs) : pathStr xs = s := by
  unfold pathStr
  rw [if_pos h.ok, h.txt, bstr_self]
end Go.Proofs

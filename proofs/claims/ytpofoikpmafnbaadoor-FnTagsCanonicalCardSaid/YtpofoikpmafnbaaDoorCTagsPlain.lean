/-
  What functions of this seat compute, part 'TagsPlain': contracts over their readable predicates. Conditions: each theorem's own hypotheses.
-/
import Derived.Test.YtpofoikpmafnbaaDoorBase
import Derived.Test.YtpofoikpmafnbaaDoorOpen
import Derived.Test.YtpofoikpmafnbaaDoorGen
import Derived.Test.YtpofoikpmafnbaaDoorCTags
import Derived.Test.YtpofoikpmafnbaaDoorCBstr
import Derived.Test.YtpofoikpmafnbaaDoorCBstr2
import Derived.Test.YtpofoikpmafnbaaDoorCTagsText
namespace Go.Proofs
open Go Go.Vc Go.RowKit
set_option maxRecDepth 100000
set_option linter.unusedVariables false
--! C:Tags C:Bstr C:Bstr2 C:TagsText
/-! ## Tags: reading, the plain law -/

/-- The parts between the commas. -/
def splitC : List UInt8 → List (List UInt8)
  | [] => [[]]
  | c :: r => if c = 44 then [] :: splitC r else match splitC r with | [] => [[c]] | y :: ys => (c :: y) :: ys

theorem splitC_ne (l : List UInt8) : splitC l ≠ [] := by
  cases l with
  | nil => simp [splitC]
  | cons c r =>
    unfold splitC
    split
    · simp
    · split <;> simp

theorem splitC_no : ∀ {l : List UInt8}, 44 ∉ l → splitC l = [l]
  | [], _ => rfl
  | c :: r, h => by
    have h1 : c ≠ 44 := fun e => h (by simp [e])
    rw [splitC, if_neg h1, splitC_no (fun e => h (List.mem_cons_of_mem _ e))]

theorem splitC_at : ∀ {p q : List UInt8}, 44 ∉ p → splitC (p ++ 44 :: q) = p :: splitC q
  | [], q, _ => by simp [splitC]
  | c :: p, q, h => by
    have h1 : c ≠ 44 := fun e => h (by simp [e])
    rw [List.cons_append, splitC, if_neg h1, splitC_at (fun e => h (List.mem_cons_of_mem _ e))]

theorem splitC_mem : ∀ {l : List UInt8}, ∀ x ∈ splitC l, 44 ∉ x
  | [], x, h => by simp [splitC] at h; subst h; simp
  | c :: r, x, h => by
    unfold splitC at h
    split at h
    · rcases List.mem_cons.1 h with rfl | h
      · simp
      · exact splitC_mem x h
    · rename_i hc
      have ih := splitC_mem (l := r)
      split at h
      · simp at h; subst h; simp [Ne.symm hc]
      · rename_i y ys hy
        rw [hy] at ih
        rcases List.mem_cons.1 h with rfl | h
        · have := ih y (by simp)
          simp [Ne.symm hc, this]
        · exact ih x (by simp [h])

def joinC : List (List UInt8) → List UInt8
  | [] => []
  | [x] => x
  | x :: y :: r => x ++ 44 :: joinC (y :: r)

theorem joinC_cons {x : List UInt8} {r : List (List UInt8)} (h : r ≠ []) : joinC (x :: r) = x ++ 44 :: joinC r := by
  cases r with
  | nil => exact absurd rfl h
  | cons y r => rfl

theorem joinC_split : ∀ l : List UInt8, joinC (splitC l) = l
  | [] => rfl
  | c :: r => by
    have ih := joinC_split r
    unfold splitC
    split
    · rename_i hc
      rw [joinC_cons (splitC_ne r), ih, hc]; rfl
    · split
      · rename_i h; exact absurd h (splitC_ne r)
      · rename_i y ys hy
        rw [hy] at ih
        cases ys with
        | nil => simp only [joinC] at ih ⊢; rw [ih]
        | cons z zs =>
          rw [joinC_cons (by simp)] at ih ⊢
          rw [List.cons_append, ih]

theorem splitC_join : ∀ {ps : List (List UInt8)}, ps ≠ [] → (∀ x ∈ ps, 44 ∉ x) → splitC (joinC ps) = ps
  | [], h, _ => absurd rfl h
  | [x], _, h => splitC_no (h x (by simp))
  | x :: y :: r, _, h => by
    rw [joinC, splitC_at (h x (by simp)), splitC_join (by simp) (fun z hz => h z (List.mem_cons_of_mem _ hz))]

theorem tagsText_join (xs : List ByteArray) : tagsText xs = joinC (xs.map fmtT) := by
  have key : ∀ (y : List UInt8) (l : List (List UInt8)), joinC (y :: l) = y ++ l.flatMap (fun x => 44 :: x) := by
    intro y l
    induction l generalizing y with
    | nil => simp [joinC]
    | cons z r ih => rw [joinC_cons (by simp), ih]; simp
  cases xs with
  | nil => rfl
  | cons x r =>
    rw [List.map_cons, key]
    unfold tagsText
    simp [List.flatMap_map]

/-- A word of the text as a tag. -/
def wordOf (x : ByteArray) : Option ByteArray :=
  if x = star then some star
  else if x.size = 6 ∧ byteAt x 0 = 34 ∧ byteAt x 5 = 34 ∧ vTag (x.extract 1 5) = true then some (x.extract 1 5) else none

def okWords : List ByteArray → Option (List ByteArray)
  | [] => some []
  | x :: r => match wordOf x with | none => none | some t => (okWords r).map (t :: ·)

theorem okWords_snoc : ∀ (pre : List ByteArray) (x : ByteArray), okWords (pre ++ [x]) = match okWords pre with | none => none | some ts => (wordOf x).map fun t => ts ++ [t]
  | [], x => by cases h : wordOf x <;> simp [okWords, h]
  | y :: r, x => by
    rw [List.cons_append, okWords, okWords]
    cases h : wordOf y with
    | none => rfl
    | some t =>
      simp only
      rw [okWords_snoc r x]
      cases h2 : okWords r with
      | none => rfl
      | some ts => cases h3 : wordOf x <;> simp

theorem okWords_len : ∀ {ps ts : List ByteArray}, okWords ps = some ts → ts.length = ps.length
  | [], ts, h => by simp [okWords] at h; subst h; rfl
  | x :: r, ts, h => by
    unfold okWords at h
    split at h
    · cases h
    · obtain ⟨us, hu, rfl⟩ := Option.map_eq_some_iff.1 h
      simp [okWords_len hu]

theorem okWords_none_append : ∀ {pre : List ByteArray} (post : List ByteArray), okWords pre = none → okWords (pre ++ post) = none
  | [], _, h => by simp [okWords] at h
  | x :: r, post, h => by
    rw [List.cons_append]
    unfold okWords at h ⊢
    split
    · rfl
    · rename_i t ht
      rw [ht] at h
      simp only [Option.map_eq_none_iff] at h
      rw [okWords_none_append post h]; rfl

theorem vTag_len {x : ByteArray} (h : vTag x = true) : x.data.toList.length = 4 := by
  simp only [vTag, Bool.and_eq_true, decide_eq_true_eq] at h; exact h.1
theorem vTag_hex {x : ByteArray} (h : vTag x = true) : ∀ c ∈ x.data.toList, c ≠ 44 ∧ c ≠ 42 := by
  intro c hc
  simp only [vTag, Bool.and_eq_true, List.all_eq_true] at h
  have := h.2 c hc
  constructor
  · rintro rfl; revert this; decide
  · rintro rfl; revert this; decide

theorem vTag_not_star {x : ByteArray} (h : vTag x = true) : x ≠ star := by
  rintro rfl
  have := vTag_len h
  revert this; decide

theorem six {l : List UInt8} (h : l.length = 6) : ∃ a b c d e f, l = [a, b, c, d, e, f] := by
  match l, h with
  | [a, b, c, d, e, f], _ => exact ⟨a, b, c, d, e, f, rfl⟩
theorem four {l : List UInt8} (h : l.length = 4) : ∃ a b c d, l = [a, b, c, d] := by
  match l, h with
  | [a, b, c, d], _ => exact ⟨a, b, c, d, rfl⟩

theorem ext15 (a b c d e f : UInt8) : (bstr [a, b, c, d, e, f]).extract 1 5 = bstr [b, c, d, e] := by
  apply ByteArray.ext
  apply Array.ext'
  simp [bstr]

theorem wordOf_fmt {x : ByteArray} (h : x = star ∨ vTag x = true) : wordOf (bstr (fmtT x)) = some x := by
  by_cases hs : x = star
  · subst hs
    have : bstr (fmtT star) = star := by simp [fmtT, bstr, star]
    rw [this]
    simp [wordOf]
  · have hv := h.resolve_left hs
    obtain ⟨a, b, c, d, hl⟩ := four (vTag_len hv)
    have hx : bstr [a, b, c, d] = x := by rw [← hl, bstr_self]
    have hf : fmtT x = [34, a, b, c, d, 34] := by rw [fmtT, if_neg hs, hl]; rfl
    rw [hf]
    unfold wordOf
    rw [if_neg, ext15, hx, if_pos]
    · refine ⟨by rw [bstr_size]; rfl, ?_, ?_, hv⟩
      · exact byteAt_mid (pre := []) (c := 34) (post := [a, b, c, d, 34]) (by rw [bstr_data]; rfl)
      · exact byteAt_mid (pre := [34, a, b, c, d]) (c := 34) (post := []) (by rw [bstr_data]; rfl)
    · intro e
      have := congrArg ByteArray.size e
      rw [bstr_size] at this
      have h2 : star.size = 1 := rfl
      rw [h2] at this
      simp at this

theorem fmt_wordOf {p x : ByteArray} (h : wordOf p = some x) : p = bstr (fmtT x) ∧ (x = star ∨ vTag x = true) := by
  unfold wordOf at h
  split at h
  · rename_i hp
    obtain rfl := Option.some.inj h
    exact ⟨by rw [hp]; simp [fmtT, bstr, star], .inl rfl⟩
  · split at h
    · rename_i hs hq
      obtain rfl := Option.some.inj h
      obtain ⟨h6, h0, h5, hv⟩ := hq
      refine ⟨?_, .inr hv⟩
      rw [size_eq] at h6
      obtain ⟨a, b, c, d, e, f, hl⟩ := six h6
      have hp : p = bstr [a, b, c, d, e, f] := by rw [← hl, bstr_self]
      have q0 := byteAt_mid (s := p) (pre := []) (c := a) (post := [b, c, d, e, f]) (by rw [hl]; rfl)
      have q5 := byteAt_mid (s := p) (pre := [a, b, c, d, e]) (c := f) (post := []) (by rw [hl]; rfl)
      have ha : a = 34 := u8_eq (by have : byteAt p 0 = (a.toNat : Int) := q0; rw [← this, h0]; rfl)
      have hf : f = 34 := u8_eq (by have : byteAt p 5 = (f.toNat : Int) := q5; rw [← this, h5]; rfl)
      subst ha hf
      have he : p.extract 1 5 = bstr [b, c, d, e] := by rw [hp, ext15]
      rw [fmtT, if_neg (vTag_not_star hv), he, bstr_data, hp]
      rfl
    · cases h

theorem fmtT_no44 {x : ByteArray} (h : x = star ∨ vTag x = true) : 44 ∉ fmtT x := by
  unfold fmtT
  split
  · decide
  · rename_i hs
    have hv := h.resolve_left hs
    intro hm
    rw [List.mem_append, List.mem_cons] at hm
    rcases hm with (hm | hm) | hm
    · revert hm; decide
    · exact (vTag_hex hv 44 hm).1 rfl
    · revert hm; decide

theorem okWords_fmt : ∀ {xs : List ByteArray}, (∀ x ∈ xs, x = star ∨ vTag x = true) → okWords (xs.map fun x => bstr (fmtT x)) = some xs
  | [], _ => rfl
  | x :: r, h => by
    rw [List.map_cons, okWords, wordOf_fmt (h x (by simp))]
    simp only
    rw [okWords_fmt fun y hy => h y (List.mem_cons_of_mem _ hy)]
    rfl

theorem fmt_okWords : ∀ {ps xs : List ByteArray}, okWords ps = some xs → ps = xs.map (fun x => bstr (fmtT x)) ∧ ∀ x ∈ xs, x = star ∨ vTag x = true
  | [], xs, h => by simp [okWords] at h; subst h; exact ⟨rfl, by simp⟩
  | p :: r, xs, h => by
    unfold okWords at h
    split at h
    · cases h
    · rename_i t ht
      obtain ⟨us, hu, rfl⟩ := Option.map_eq_some_iff.1 h
      obtain ⟨h1, h2⟩ := fmt_wordOf ht
      obtain ⟨h3, h4⟩ := fmt_okWords hu
      refine ⟨by rw [h1, h3]; rfl, fun x hx => ?_⟩
      rcases List.mem_cons.1 hx with rfl | hx
      · exact h2
      · exact h4 x hx

/-- What the program reads. -/
def partsOf (s : ByteArray) : List ByteArray := (splitC s.data.toList).map bstr
def readI (s : ByteArray) : Option (List ByteArray) := if s = emptyB then some [] else if (partsOf s).length ≤ 4 then okWords (partsOf s) else none

theorem emptyB_data {s : ByteArray} (h : s.data.toList = []) : s = emptyB := by
  rw [← bstr_self s, h]; rfl

theorem vTags_iff {xs : List ByteArray} : vTags xs = true ↔ xs.length ≤ 4 ∧ ∀ x ∈ xs, x = star ∨ vTag x = true := by
  simp [vTags, List.all_eq_true]

/-- What is written can be read. -/
theorem readI_fmt {xs : List ByteArray} (hv : vTags xs = true) : readI (fmtStr xs) = some xs := by
  obtain ⟨h4, hall⟩ := vTags_iff.1 hv
  have hf : fmtStr xs = bstr (tagsText xs) := by rw [fmtStr, if_pos hv]
  unfold readI
  by_cases hx : xs = []
  · subst hx
    rw [hf, if_pos (by rfl)]
  · have hparts : partsOf (fmtStr xs) = xs.map fun x => bstr (fmtT x) := by
      unfold partsOf
      rw [hf, bstr_data, tagsText_join, splitC_join (by simpa using hx) (by
        intro y hy
        obtain ⟨x, hm, rfl⟩ := List.mem_map.1 hy
        exact fmtT_no44 (hall x hm)), List.map_map]
      rfl
    rw [if_neg, hparts, if_pos (by simpa using h4), okWords_fmt hall]
    intro e
    rw [e] at hparts
    have h1 : partsOf emptyB = [emptyB] := rfl
    rw [h1] at hparts
    cases xs with
    | nil => exact hx rfl
    | cons x r =>
      simp only [List.map_cons, List.cons.injEq] at hparts
      have := congrArg ByteArray.size hparts.1
      rw [bstr_size] at this
      unfold fmtT at this
      split at this
      · revert this; decide
      · have h2 : emptyB.size = 0 := rfl
        rw [h2] at this
        simp at this

/-- What is read is written so. -/
theorem readI_out {s : ByteArray} {xs : List ByteArray} (h : readI s = some xs) : vTags xs = true ∧ fmtStr xs = s := by
  unfold readI at h
  split at h
  · rename_i hs
    obtain rfl := Option.some.inj h
    exact ⟨rfl, by rw [hs]; rfl⟩
  · split at h
    · rename_i hs h4
      obtain ⟨h1, h2⟩ := fmt_okWords h
      have hl := okWords_len h
      have hv : vTags xs = true := vTags_iff.2 ⟨by omega, h2⟩
      refine ⟨hv, ?_⟩
      rw [fmtStr, if_pos hv, tagsText_join]
      have : xs.map fmtT = splitC s.data.toList := by
        unfold partsOf at h1
        have h3 := congrArg (List.map fun (x : ByteArray) => x.data.toList) h1
        rw [List.map_map, List.map_map] at h3
        have e1 : ((fun (x : ByteArray) => x.data.toList) ∘ bstr) = id := by funext l; exact bstr_data l
        have e2 : ((fun (x : ByteArray) => x.data.toList) ∘ fun x => bstr (fmtT x)) = fmtT := by funext l; exact bstr_data _
        rw [e1, e2, List.map_id] at h3
        exact h3.symm
      rw [this, joinC_split, bstr_self]
    · cases h

/-! ### The specification's way of reading -/

/-- 'n' steps at most. -/
def scanS : Nat → Bool → List UInt8 → List ByteArray → Option (List ByteArray)
  | 0, _, _, acc => some acc
  | _ + 1, _, [], acc => some acc
  | n + 1, first, c :: r, acc =>
    if 4 < acc.length then some acc
    else if first = false ∧ c = 44 then scanS n false r acc
    else if c = 42 then scanS n false r (acc ++ [star])
    else if 6 ≤ (c :: r).length then scanS n false ((c :: r).drop 6) (acc ++ [bstr (((c :: r).take 5).drop 1)])
    else none

def readS (s : ByteArray) : Option (List ByteArray) :=
  match scanS s.size true s.data.toList [] with
  | none => none
  | some xs => if fmtStr xs = s ∧ vTags xs = true then some xs else none

theorem scan_join : ∀ (xs : List ByteArray) (n : Nat) (first : Bool) (acc : List ByteArray), (∀ x ∈ xs, x = star ∨ vTag x = true) → acc.length + xs.length ≤ 4 → (joinC (xs.map fmtT)).length ≤ n →
    scanS n first (joinC (xs.map fmtT)) acc = some (acc ++ xs)
  | [], n, first, acc, _, _, _ => by cases n <;> simp [joinC, scanS]
  | x :: r, n, first, acc, h, hl, hn => by
    have hx := h x (by simp)
    have hr : ∀ y ∈ r, y = star ∨ vTag y = true := fun y hy => h y (List.mem_cons_of_mem _ hy)
    simp only [List.length_cons] at hl
    -- what stands behind the first word
    have rest : ∀ (m : Nat) (t : List UInt8), (r = [] ∧ t = []) ∨ (r ≠ [] ∧ t = 44 :: joinC (r.map fmtT)) → t.length ≤ m → scanS m false t (acc ++ [x]) = some (acc ++ (x :: r)) := by
      intro m t ht hm
      rcases ht with ⟨rfl, rfl⟩ | ⟨hne, rfl⟩
      · cases m <;> simp [scanS]
      · cases m with
        | zero => simp at hm
        | succ m =>
          rw [scanS, if_neg (by simp; omega), if_pos ⟨rfl, rfl⟩, scan_join r m false (acc ++ [x]) hr (by simp; omega) (by simpa using hm)]
          simp
    have hj : joinC ((x :: r).map fmtT) = fmtT x ++ (if r = [] then [] else 44 :: joinC (r.map fmtT)) := by
      rw [List.map_cons]
      by_cases hr0 : r = []
      · subst hr0; simp [joinC]
      · rw [joinC_cons (by simpa using hr0), if_neg hr0]
    have htail : (r = [] ∧ (if r = [] then [] else 44 :: joinC (r.map fmtT)) = []) ∨ (r ≠ [] ∧ (if r = [] then [] else 44 :: joinC (r.map fmtT)) = 44 :: joinC (r.map fmtT)) := by
      by_cases hr0 : r = []
      · left; simp [hr0]
      · right; simp [hr0]
    rw [hj] at hn ⊢
    generalize (if r = [] then [] else 44 :: joinC (r.map fmtT)) = t at hn htail
    rw [List.length_append] at hn
    by_cases hs : x = star
    · have hf : fmtT x = [42] := by rw [fmtT, if_pos hs]
      rw [hf] at hn ⊢
      cases n with
      | zero => simp at hn
      | succ n =>
        simp only [List.singleton_append, List.length_singleton] at hn ⊢
        rw [scanS, if_neg (by omega), if_neg (by simp), if_pos rfl, ← hs]
        exact rest n t htail (by omega)
    · have hv := hx.resolve_left hs
      obtain ⟨a, b, c, d, hl4⟩ := four (vTag_len hv)
      have hf : fmtT x = [34, a, b, c, d, 34] := by rw [fmtT, if_neg hs, hl4]; rfl
      have hxe : bstr [a, b, c, d] = x := by rw [← hl4, bstr_self]
      rw [hf] at hn ⊢
      cases n with
      | zero => simp at hn
      | succ n =>
        simp only [List.cons_append, List.nil_append, List.length_cons, List.length_nil] at hn ⊢
        rw [scanS, if_neg (by omega), if_neg (by simp), if_neg (by decide), if_pos (by simp)]
        simp only [List.drop_succ_cons, List.drop_zero, List.take_succ_cons, List.take_zero]
        rw [hxe]
        exact rest n t htail (by omega)

theorem read_same (s : ByteArray) : readS s = readI s := by
  cases hI : readI s with
  | some xs =>
    obtain ⟨hv, hf⟩ := readI_out hI
    obtain ⟨h4, hall⟩ := vTags_iff.1 hv
    unfold readS
    have hs : s.data.toList = joinC (xs.map fmtT) := by
      rw [← hf, fmtStr, if_pos hv, bstr_data, tagsText_join]
    have := scan_join xs s.size true [] hall (by simpa using h4) (by rw [← hs, size_eq]; exact Nat.le_refl _)
    rw [hs, this]
    simp [hf, hv]
  | none =>
    unfold readS
    cases hsc : scanS s.size true s.data.toList [] with
    | none => rfl
    | some xs =>
      simp only
      split
      · rename_i hc
        have := readI_fmt hc.2
        rw [hc.1, hI] at this
        cases this
      · rfl
end Go.Proofs

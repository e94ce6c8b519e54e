/-
  What functions of this seat compute, part 'CallsMath': contracts over their readable predicates. Conditions: each theorem's own hypotheses.
-/
import Derived.Test.YtneehnkdgjijiaaBase
import Derived.Test.YtneehnkdgjijiaaOpen
import Derived.Test.YtneehnkdgjijiaaGen
import Derived.Test.YtneehnkdgjijiaaCCalls
import Derived.Test.YtneehnkdgjijiaaCCalls2
import Derived.Test.YtneehnkdgjijiaaCCalls3
namespace Go.Proofs
open Go Go.Vc Go.RowKit
set_option maxRecDepth 100000
set_option linter.unusedVariables false
--! C:Calls C:Calls2 C:Calls3
/-! ## Orders: what the laws say, as facts about lists -/

/-- A beginning of an order. -/
structure PG (xs : List Cz) (bg : List Nat) (v : Int) : Prop where
  nodup : bg.Nodup
  lt : ∀ k ∈ bg, k < xs.length
  ok : bg.Pairwise fun a b => ¬ til xs b < frm xs a
  rest : ∀ a ∈ bg, ∀ j, j < xs.length → j ∉ bg → ¬ til xs j < frm xs a
  val : vals xs 0 bg = true
  valv : valOf xs 0 bg = v

theorem PG.nil (xs : List Cz) : PG xs [] 0 := ⟨List.nodup_nil, by simp, List.Pairwise.nil, by simp, rfl, rfl⟩

theorem mayF_spec {xs : List Cz} {bg : List Nat} {k : Nat} (h : mayF xs bg k = true) : k ∉ bg ∧ ∀ j, j < xs.length → j ∉ bg → j ≠ k → ¬ til xs j < frm xs k := by
  unfold mayF at h
  simp only [Bool.and_eq_true, Bool.not_eq_true', decide_eq_false_iff_not, List.all_eq_true, List.mem_range, Bool.or_eq_true, decide_eq_true_eq] at h
  refine ⟨h.1, fun j hj h1 h2 => ?_⟩
  rcases h.2 j hj with (h3 | h3) | h3
  · exact absurd h3 h1
  · exact absurd h3 h2
  · exact h3

theorem mayF_mk {xs : List Cz} {bg : List Nat} {k : Nat} (h1 : k ∉ bg) (h2 : ∀ j, j < xs.length → j ∉ bg → j ≠ k → ¬ til xs j < frm xs k) : mayF xs bg k = true := by
  unfold mayF
  simp only [Bool.and_eq_true, Bool.not_eq_true', decide_eq_false_iff_not, List.all_eq_true, List.mem_range, Bool.or_eq_true, decide_eq_true_eq]
  refine ⟨h1, fun j hj => ?_⟩
  by_cases a1 : j ∈ bg
  · exact .inl (.inl a1)
  by_cases a2 : j = k
  · exact .inl (.inr a2)
  exact .inr (h2 j hj a1 a2)

theorem PG.step {xs : List Cz} {bg : List Nat} {v : Int} {k : Nat} (h : PG xs bg v) (hok : okNext xs bg v k = true) : k < xs.length ∧ PG xs (bg ++ [k]) (valN xs k) := by
  unfold okNext at hok
  cases hc : xs[k]? with
  | none => rw [hc] at hok; cases hok
  | some c =>
    rw [hc] at hok
    simp only [Bool.and_eq_true, Bool.or_eq_true, decide_eq_true_eq] at hok
    obtain ⟨hm, hv⟩ := hok
    have hk : k < xs.length := (List.getElem?_eq_some_iff.1 hc).1
    obtain ⟨h1, h2⟩ := mayF_spec hm
    have hval : valN xs k = c.2.2.2 := by simp [valN, hc]
    refine ⟨hk, ?_, ?_, ?_, ?_, ?_, ?_⟩
    · rw [List.nodup_append]
      exact ⟨h.nodup, by simp, fun x hx y hy => by simp at hy; subst hy; exact fun e => h1 (e ▸ hx)⟩
    · intro x hx
      rcases List.mem_append.1 hx with hx | hx
      · exact h.lt x hx
      · simp at hx; omega
    · rw [List.pairwise_append]
      exact ⟨h.ok, List.pairwise_singleton _ _, fun a ha b hb => by simp at hb; subst hb; exact h.rest a ha _ hk h1⟩
    · intro a ha j hj hnj
      simp only [List.mem_append, List.mem_singleton, not_or] at hnj ha
      rcases ha with ha | rfl
      · exact h.rest a ha j hj hnj.1
      · exact h2 j hj hnj.1 hnj.2
    · exact vals_step h.val hc (hv.imp id (fun e => by rw [e, h.valv]))
    · rw [valOf_step hc _ _ h.val, hval]
      split
      · rfl
      · rename_i hw
        rcases hv with hv | hv
        · exact absurd hv hw
        · rw [h.valv, hv]

theorem srch_sound {xs : List Cz} : ∀ (f : Nat) (bg : List Nat) (v : Int) (r : List Nat), PG xs bg v → bg.length + f = xs.length → srch xs f bg v = some r → Good xs r
  | 0, bg, v, r, h, hl, hs => by
    simp only [srch, Option.some.injEq] at hs
    subst hs
    exact ⟨by omega, h.nodup, h.lt, h.ok, h.val⟩
  | f + 1, bg, v, r, h, hl, hs => by
    simp only [srch] at hs
    obtain ⟨k, hk, hg⟩ := List.exists_of_findSome?_eq_some hs
    split at hg
    · rename_i hok
      exact srch_sound f _ _ r (h.step hok).2 (by simp; omega) hg
    · cases hg

theorem findO_sound {xs : List Cz} {r : List Nat} (h : findO xs = some r) : vCs xs = true ∧ Good xs r := by
  unfold findO at h
  split at h
  · rename_i hv
    exact ⟨hv, srch_sound _ _ _ _ (PG.nil xs) (by simp) h⟩
  · cases h

theorem srch_some {xs : List Cz} {f : Nat} {bg : List Nat} {v : Int} {k : Nat} (hk : k < xs.length) (hok : okNext xs bg v k = true) (hs : (srch xs f (bg ++ [k]) (valN xs k)).isSome = true) : (srch xs (f + 1) bg v).isSome = true := by
  cases h : srch xs (f + 1) bg v with
  | some r => rfl
  | none =>
    exfalso
    simp only [srch] at h
    have := List.findSome?_eq_none_iff.1 h k (List.mem_range.2 hk)
    rw [if_pos hok] at this
    rw [this] at hs; cases hs

theorem srch_complete {xs : List Cz} : ∀ (f : Nat) (bg rest : List Nat) (v : Int), Good xs (bg ++ rest) → valOf xs 0 bg = v → bg.length + f = xs.length → (srch xs f bg v).isSome = true
  | 0, bg, rest, v, _, _, _ => rfl
  | f + 1, bg, rest, v, hg, hv, hl => by
    have hlen := hg.len
    cases rest with
    | nil => simp at hlen; omega
    | cons k rest =>
      have hkn : k < xs.length := hg.lt k (by simp)
      obtain ⟨c, hc⟩ : ∃ c, xs[k]? = some c := ⟨_, List.getElem?_eq_getElem hkn⟩
      have hnd := hg.nodup
      rw [List.nodup_append] at hnd
      have hkb : k ∉ bg := fun hm => hnd.2.2 k hm k (by simp) rfl
      have hvals := hg.val
      rw [vals_append, Bool.and_eq_true] at hvals
      have hvk := hvals.2
      rw [hv] at hvk
      simp only [vals, hc] at hvk
      have hval : valN xs k = c.2.2.2 := by simp [valN, hc]
      have hmay : mayF xs bg k = true := mayF_mk hkb fun j hj h1 h2 => by
        have hin := mem_of_full hg.len hg.nodup hg.lt hj
        simp only [List.mem_append, List.mem_cons] at hin
        rcases hin with hin | hin | hin
        · exact absurd hin h1
        · exact absurd hin h2
        · exact pairwise_at hg.ok rfl j hin
      have hwv : c.2.2.1 = true ∨ c.2.2.2 = v := by
        by_cases hw : c.2.2.1 = true
        · exact .inl hw
        · rw [if_neg hw] at hvk
          simp only [Bool.and_eq_true, decide_eq_true_eq] at hvk
          exact .inr hvk.1
      have hok : okNext xs bg v k = true := by
        unfold okNext
        rw [hc]
        simp only [hmay, Bool.true_and, Bool.or_eq_true, decide_eq_true_eq]
        exact hwv
      refine srch_some hkn hok (srch_complete f (bg ++ [k]) rest _ (by simpa using hg) ?_ (by simp; omega))
      rw [valOf_step hc _ _ hvals.1, hval]
      split
      · rfl
      · rename_i hw
        rcases hwv with h | h
        · exact absurd h hw
        · rw [hv, h]

theorem findO_complete {xs : List Cz} {r : List Nat} (hv : vCs xs = true) (h : Good xs r) : (findO xs).isSome = true := by
  unfold findO
  rw [if_pos hv]
  exact srch_complete _ [] r 0 (by simpa using h) rfl (by simp)

/-! ### Times moved -/

def sh (c : Cz) : Cz := (c.1 + 7, c.2.1 + 7, c.2.2.1, c.2.2.2)

theorem sh_get (xs : List Cz) (k : Nat) : (xs.map sh)[k]? = (xs[k]?).map sh := by simp

theorem okNext_sh (xs : List Cz) (bg : List Nat) (v : Int) (k : Nat) : okNext (xs.map sh) bg v k = okNext xs bg v k := by
  unfold okNext
  rw [sh_get]
  cases hc : xs[k]? with
  | none => rfl
  | some c =>
    simp only [Option.map_some]
    have hm : mayF (xs.map sh) bg k = mayF xs bg k := by
      unfold mayF
      rw [List.length_map]
      congr 1
      rw [Bool.eq_iff_iff, List.all_eq_true, List.all_eq_true]
      have key : ∀ j ∈ List.range xs.length, (decide (til (xs.map sh) j < frm (xs.map sh) k)) = decide (til xs j < frm xs k) := by
        intro j hj
        obtain ⟨d, hd⟩ : ∃ d, xs[j]? = some d := ⟨_, List.getElem?_eq_getElem (List.mem_range.1 hj)⟩
        have h1 : til (xs.map sh) j = til xs j + 7 := by unfold til; rw [sh_get, hd]; rfl
        have h2 : frm (xs.map sh) k = frm xs k + 7 := by unfold frm; rw [sh_get, hc]; rfl
        rw [h1, h2]
        congr 1
        rw [eq_iff_iff]; omega
      constructor
      · intro h j hj; have := h j hj; rwa [key j hj] at this
      · intro h j hj; have := h j hj; rwa [← key j hj] at this
    rw [hm]
    rfl

theorem valN_sh (xs : List Cz) (k : Nat) : valN (xs.map sh) k = valN xs k := by
  unfold valN
  rw [sh_get]
  cases xs[k]? <;> rfl

theorem srch_sh (xs : List Cz) : ∀ (f : Nat) (bg : List Nat) (v : Int), srch (xs.map sh) f bg v = srch xs f bg v
  | 0, _, _ => rfl
  | f + 1, bg, v => by
    simp only [srch, List.length_map]
    congr 1
    funext k
    rw [okNext_sh, valN_sh, srch_sh xs f]

theorem findO_sh {xs : List Cz} (h : ∀ c ∈ xs, c.2.1 + 7 ≤ 999 ∧ 0 ≤ c.1) : findO (xs.map sh) = findO xs := by
  have hv : vCs (xs.map sh) = vCs xs := by
    unfold vCs
    rw [List.length_map, List.all_map]
    congr 1
    rw [Bool.eq_iff_iff, List.all_eq_true, List.all_eq_true]
    have key : ∀ c ∈ xs, (okC ∘ sh) c = okC c := by
      intro c hc
      have := h c hc
      simp only [Function.comp_apply, okC, sh]
      congr 1
      rw [eq_iff_iff]; omega
    constructor
    · intro h' c hc; have := h' c hc; rwa [key c hc] at this
    · intro h' c hc; have := h' c hc; rwa [← key c hc] at this
  unfold findO
  rw [hv, List.length_map, srch_sh]

/-! ### Calls that only write -/

theorem exists_min (g : Nat → Int) : ∀ (l : List Nat), l ≠ [] → ∃ k ∈ l, ∀ j ∈ l, g k ≤ g j
  | [], h => absurd rfl h
  | a :: r, _ => by
    by_cases hr : r = []
    · subst hr; exact ⟨a, by simp, by simp⟩
    · obtain ⟨k, hk, hmin⟩ := exists_min g r hr
      by_cases hle : g a ≤ g k
      · refine ⟨a, by simp, fun j hj => ?_⟩
        rcases List.mem_cons.1 hj with rfl | hj
        · omega
        · have := hmin j hj; omega
      · refine ⟨k, by simp [hk], fun j hj => ?_⟩
        rcases List.mem_cons.1 hj with rfl | hj
        · omega
        · exact hmin j hj

theorem srch_writes {xs : List Cz} (hv : xs.all okC = true) (hw : ∀ c ∈ xs, c.2.2.1 = true) : ∀ (f : Nat) (bg : List Nat) (v : Int), bg.Nodup → (∀ k ∈ bg, k < xs.length) → bg.length + f = xs.length → (srch xs f bg v).isSome = true
  | 0, _, _, _, _, _ => rfl
  | f + 1, bg, v, hnd, hlt, hl => by
    have hne : ((List.range xs.length).filter fun k => decide (k ∉ bg)) ≠ [] := by
      intro he
      rw [List.filter_eq_nil_iff] at he
      have hsub : List.range xs.length ⊆ bg := by
        intro k hk
        have := he k hk
        simpa using this
      have := (List.nodup_range (n := xs.length)).length_le_of_subset hsub
      simp at this
      omega
    obtain ⟨k, hk, hmin⟩ := exists_min (frm xs) _ hne
    rw [List.mem_filter, List.mem_range] at hk
    have hkb : k ∉ bg := by simpa using hk.2
    obtain ⟨c, hc⟩ : ∃ c, xs[k]? = some c := ⟨_, List.getElem?_eq_getElem hk.1⟩
    have hmay : mayF xs bg k = true := mayF_mk hkb fun j hj h1 h2 => by
      have h3 := hmin j (List.mem_filter.2 ⟨List.mem_range.2 hj, by simpa using h1⟩)
      obtain ⟨d, hd⟩ : ∃ d, xs[j]? = some d := ⟨_, List.getElem?_eq_getElem hj⟩
      have h4 := List.all_eq_true.1 hv d (List.mem_of_getElem? hd)
      have h5 := of_decide_eq_true h4
      rw [frm_get hd] at h3
      rw [til_get hd]
      omega
    have hok : okNext xs bg v k = true := by
      unfold okNext
      rw [hc]
      simp [hmay, hw c (List.mem_of_getElem? hc)]
    refine srch_some hk.1 hok (srch_writes hv hw f _ _ ?_ ?_ (by simp; omega))
    · rw [List.nodup_append]
      exact ⟨hnd, by simp, fun x hx y hy => by simp at hy; subst hy; exact fun e => hkb (e ▸ hx)⟩
    · intro x hx
      rcases List.mem_append.1 hx with hx | hx
      · exact hlt x hx
      · simp at hx; omega

theorem findO_writes {xs : List Cz} (hv : vCs xs = true) : (findO (xs.filter fun c => c.2.2.1)).isSome = true := by
  obtain ⟨h1, h2⟩ := vCs_parts hv
  have h3 : (xs.filter fun c => c.2.2.1).all okC = true := by
    rw [List.all_eq_true] at h1 ⊢
    exact fun c hc => h1 c (List.mem_filter.1 hc).1
  have hvf : vCs (xs.filter fun c => c.2.2.1) = true := by
    have := List.length_filter_le (fun c : Cz => c.2.2.1) xs
    simp only [vCs, h3, Bool.true_and, decide_eq_true_eq]
    omega
  unfold findO
  rw [if_pos hvf]
  exact srch_writes h3 (fun c hc => (List.mem_filter.1 hc).2) _ _ _ List.nodup_nil (by simp) (by simp)

/-! ### Calls named one by one -/

theorem one_read : findO [(1, 2, false, 0)] = some [0] := by decide +kernel
theorem one_bad : findO [(1, 2, false, 5)] = none := by decide +kernel

theorem nine {n : Int} (h1 : 1 ≤ n) (h9 : n ≤ 9) : n = 1 ∨ n = 2 ∨ n = 3 ∨ n = 4 ∨ n = 5 ∨ n = 6 ∨ n = 7 ∨ n = 8 ∨ n = 9 := by omega

theorem two_good {n : Int} (h1 : 1 ≤ n) (h9 : n ≤ 9) : findO [(1, 2, true, n), (3, 4, false, n)] = some [0, 1] := by
  rcases nine h1 h9 with rfl | rfl | rfl | rfl | rfl | rfl | rfl | rfl | rfl <;> decide +kernel
theorem two_bad {n : Int} (h1 : 1 ≤ n) (h9 : n ≤ 9) : findO [(1, 2, true, n), (3, 4, false, n + 1)] = none := by
  rcases nine h1 h9 with rfl | rfl | rfl | rfl | rfl | rfl | rfl | rfl | rfl <;> decide +kernel
theorem two_back {n : Int} (h1 : 1 ≤ n) (h9 : n ≤ 9) : findO [(1, 3, true, n), (2, 4, false, 0)] = some [1, 0] := by
  rcases nine h1 h9 with rfl | rfl | rfl | rfl | rfl | rfl | rfl | rfl | rfl <;> decide +kernel

theorem findO_short {xs : List Cz} : ((findO xs).getD []).length ≤ 6 := by
  cases h : findO xs with
  | none => simp
  | some r =>
    have := findO_sound h
    have h2 := this.2.len
    have h3 := (vCs_parts this.1).2
    simp only [Option.getD_some]
    omega
end Go.Proofs

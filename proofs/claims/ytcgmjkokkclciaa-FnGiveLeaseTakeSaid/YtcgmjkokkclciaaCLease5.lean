/-
  What functions of this seat compute, part 'Lease5': contracts over their readable predicates. Conditions: each theorem's own hypotheses.
-/
import Derived.Test.YtcgmjkokkclciaaBase
import Derived.Test.YtcgmjkokkclciaaOpen
import Derived.Test.YtcgmjkokkclciaaGen
import Derived.Test.YtcgmjkokkclciaaCLease
import Derived.Test.YtcgmjkokkclciaaCLease2
import Derived.Test.YtcgmjkokkclciaaCLease3
import Derived.Test.YtcgmjkokkclciaaCLease4
namespace Go.Proofs
open Go Go.Vc Go.RowKit
set_option maxRecDepth 100000
set_option linter.unusedVariables false
--! C:Lease C:Lease2 C:Lease3 C:Lease4
/-! ## Leases: taken and given back -/

def ltN (name : ByteArray) (l : Lz) : Bool := sltB l.1 name
def gtN (name : ByteArray) (l : Lz) : Bool := sltB name l.1
def putL (xs : List Lz) (name : ByteArray) (x : Lz) : List Lz := xs.filter (ltN name) ++ x :: xs.filter (gtN name)
def okTake (xs : List Lz) (name : ByteArray) (owner now span : Int) : Bool := vLs xs && vName name && decide (1 ≤ owner ∧ owner ≤ 5) && inT now && decide (1 ≤ span ∧ span ≤ 100)
def takeL (xs : List Lz) (name : ByteArray) (owner now span : Int) : Option (List Lz) :=
  if okTake xs name owner now span = true ∧ (hold xs name now = 0 ∨ hold xs name now = owner) ∧ vLs (putL xs name (name, owner, now + span)) = true then some (putL xs name (name, owner, now + span)) else none
def giveL (xs : List Lz) (name : ByteArray) (owner now : Int) : Option (List Lz) :=
  if holderOf xs name now = owner ∧ owner ≠ 0 then some (xs.filter (notN name)) else none

/-- What the calls hand back: nil and false, or a list in new memory and true. -/
def TakeR (base : Nat) (w' : World) (r : Option (List Lz)) (v : Value) : Prop := ∃ l : Sl, v = .tuple #[.slice l.a l.len l.cap, .bool r.isSome] ∧ Own base 40 3 w' l ((r.getD []).flatMap cL)

theorem TakeR.no (base : Nat) (w' : World) : TakeR base w' none (.tuple #[.slice none 0 0, .bool false]) := ⟨⟨none, 0, 0⟩, rfl, Own.nil _ _ _ _⟩

theorem ascL_tail {a : Lz} {r : List Lz} (h : ascL (a :: r) = true) : ascL r = true := by
  cases r with
  | nil => rfl
  | cons b r => simp only [ascL, Bool.and_eq_true] at h; exact h.2

theorem ascL_head {a : Lz} {r : List Lz} (h : ascL (a :: r) = true) : ∀ x ∈ r, sltB a.1 x.1 = true := by
  intro x hx
  obtain ⟨k, hk⟩ := List.getElem?_of_mem hx
  exact ascL_lt (i := 0) (j := k + 1) h (by omega) rfl (by simpa using hk)

theorem takeWhile_lt {name : ByteArray} : ∀ {xs : List Lz}, ascL xs = true → (xs.filter (notN name)).takeWhile (ltN name) = xs.filter (ltN name)
  | [], _ => rfl
  | a :: r, h => by
    have ih := takeWhile_lt (name := name) (ascL_tail h)
    by_cases he : a.1 = name
    · have h1 : notN name a = false := by simp [notN, he]
      have h2 : ltN name a = false := by unfold ltN; rw [he]; exact slt_irrefl _
      rw [List.filter_cons_of_neg (by simp [h1]), List.filter_cons_of_neg (by simp [h2]), ih]
    · have h1 : notN name a = true := by simp [notN, he]
      rw [List.filter_cons_of_pos h1]
      cases h2 : ltN name a with
      | true => rw [List.takeWhile_cons_of_pos h2, List.filter_cons_of_pos h2, ih]
      | false =>
        rw [List.takeWhile_cons_of_neg (by simp [h2]), List.filter_cons_of_neg (by simp [h2])]
        symm
        rw [List.filter_eq_nil_iff]
        intro x hx hlt
        have h3 := ascL_head h x hx
        have h4 := slt_trans h3 hlt
        unfold ltN at h2
        rw [h4] at h2; cases h2

theorem filter_gt_not {name : ByteArray} (xs : List Lz) : (xs.filter (notN name)).filter (gtN name) = xs.filter (gtN name) := by
  rw [List.filter_filter]
  congr 1
  funext x
  cases h : gtN name x with
  | false => rfl
  | true =>
    have : x.1 ≠ name := fun e => by unfold gtN at h; rw [e, slt_irrefl] at h; cases h
    simp [notN, this]

theorem takeWhile_all {α : Type} {p : α → Bool} {pre : List α} (h : ∀ x ∈ pre, p x = true) : pre.takeWhile p = pre := by
  induction pre with
  | nil => rfl
  | cons a r ih => rw [List.takeWhile_cons_of_pos (h a List.mem_cons_self), ih (fun x hx => h x (List.mem_cons_of_mem _ hx))]

theorem takeWhile_mid {α : Type} {p : α → Bool} {xs pre post : List α} {c : α} (hx : xs = pre ++ c :: post) (h : ∀ x ∈ pre, p x = true) (hc : p c = false) : xs.takeWhile p = pre := by
  subst hx
  induction pre with
  | nil => rw [List.nil_append, List.takeWhile_cons_of_neg (by simp [hc])]
  | cons a r ih => rw [List.cons_append, List.takeWhile_cons_of_pos (h a List.mem_cons_self), ih (fun x hx => h x (List.mem_cons_of_mem _ hx))]

theorem vLs_parts {xs : List Lz} (h : vLs xs = true) : xs.all okL = true ∧ ascL xs = true ∧ xs.length ≤ 10 := by
  simp only [vLs, Bool.and_eq_true, decide_eq_true_eq] at h
  exact ⟨h.1.1, h.1.2, h.2⟩

theorem putL_mem {xs : List Lz} {name : ByteArray} {x y : Lz} (h : y ∈ putL xs name x) : y ∈ xs ∨ y = x := by
  unfold putL at h
  simp only [List.mem_append, List.mem_cons, List.mem_filter] at h
  rcases h with h | h | h
  · exact .inl h.1
  · exact .inr h
  · exact .inl h.1

theorem putL_len (xs : List Lz) (name : ByteArray) (x : Lz) : (putL xs name x).length ≤ 2 * xs.length + 1 := by
  have h1 := List.length_filter_le (ltN name) xs
  have h2 := List.length_filter_le (gtN name) xs
  unfold putL
  simp only [List.length_append, List.length_cons]
  omega

theorem vName_size {s : ByteArray} (h : vName s = true) : s.size ≤ 8 := by
  simp only [vName, Bool.and_eq_true, decide_eq_true_eq] at h
  omega

theorem takeL_bad {xs : List Lz} {name : ByteArray} {owner now span : Int} (h : okTake xs name owner now span = false) : takeL xs name owner now span = none := by
  unfold takeL; rw [if_neg (by rw [h]; simp)]

set_option maxHeartbeats 2000000 in
theorem c_spec_TakeLease {w : World} {s : Sl} {xs : List Lz} (name : ByteArray) (owner now span : Int) (h : Leases w s xs) (hl : xs.length ≤ maxLen) (hs : ∀ x ∈ xs, x.1.size ≤ maxLen) (hn : name.size ≤ maxLen) :
    CallR Try.prog 38 [.slice s.a s.len s.cap, .string name, .int .i64 owner, .int .i64 now, .int .i64 span] w (fun v w' => TakeR w.heap.size w' (takeL xs name owner now span) v ∧ Ext w w') := by
  refine fn_spec_TakeLease _ _ _ _ _ _ _ ?_
  unfold g_spec_TakeLease
  have bad : okTake xs name owner now span = false → ∀ w', Ext w w' → TakeR w.heap.size w' (takeL xs name owner now span) (.tuple #[.slice none 0 0, .bool false]) ∧ Ext w w' := fun hb w' he => by
    rw [takeL_bad hb]; exact ⟨TakeR.no _ _, he⟩
  refine (c_spec_validLeases h hl hs).go fun w1 e1 => ⟨_, rfl, br_i (fun g => bad (by simp [okTake, nott g]) _ e1) (fun g1 => ?_)⟩
  refine (c_spec_validName name _ hn).go fun w2 e2 => ⟨_, rfl, br_i (fun g => bad (by simp [okTake, nott g]) _ (e1.trans e2)) (fun g2 => ?_)⟩
  refine (c_spec_inRange _ _ _ _).go fun w3 e3 => ⟨_, rfl, br_i (fun g => bad (by simp only [okTake, nott g]; simp) _ ((e1.trans e2).trans e3)) (fun g3 => ?_)⟩
  refine (c_spec_inRange _ _ _ _).go fun w4 e4 => ⟨_, rfl, br_i (fun g => bad (by simp only [okTake, inT, nott g]; simp) _ (((e1.trans e2).trans e3).trans e4)) (fun g4 => ?_)⟩
  refine (c_spec_inRange _ _ _ _).go fun w5 e5 => ⟨_, rfl, br_i (fun g => bad (by simp only [okTake, nott g]; simp) _ ((((e1.trans e2).trans e3).trans e4).trans e5)) (fun g5 => ?_)⟩
  have e05 := (((e1.trans e2).trans e3).trans e4).trans e5
  have ok : okTake xs name owner now span = true := by
    simp only [okTake, inT, notf g1, notf g2, notf g3, notf g4, notf g5]; rfl
  have v1 := vLs_parts (notf g1)
  have b3 := of_decide_eq_true (notf g3)
  have b4 := of_decide_eq_true (notf g4)
  have b5 := of_decide_eq_true (notf g5)
  have hnm := vName_size (notf g2)
  clear g1 g2 g3 g4 g5 e1 e2 e3 e4 e5
  refine (c_spec_holder name now (h.ext e05) hl).go fun w6 e6 => ⟨_, rfl, ?_⟩
  have e06 := e05.trans e6
  refine br_i (fun g1 => br_i (fun g2 => ?_) (fun g2 => ?_)) (fun g1 => ?_)
  · have : takeL xs name owner now span = none := by
      unfold takeL
      rw [if_neg]
      rintro ⟨_, h2, _⟩
      simp at g1 g2
      rcases h2 with h2 | h2
      · exact g1 h2
      · exact g2 h2
    rw [this]
    exact ⟨TakeR.no _ _, e06⟩
  all_goals
    have hh : hold xs name now = 0 ∨ hold xs name now = owner := by
      first
      | (left; simpa using g1)
      | (right; simpa using g2)
    refine letW_i fun w7 hw7 => ?_
    have e07 : Ext w w7 := by rw [hw7]; exact e06.alloc _
    have o7 : Own w.heap.size 40 3 w7 ⟨some ⟨w6.heap.size, 0, none⟩, 0, 0⟩ (([] : List Lz).flatMap cL) := by rw [hw7]; exact Own.fresh w6 _ 3 _ e06.size
    refine (c_spec_without name (h.ext e07) (by omega)).mono ?_
    rintro _ w8 ⟨lr, rfl, or8, e8⟩
    refine ⟨lr, rfl, inR_i64 (by omega) (by omega), local3 fun w9 r9 e9 => ?_⟩
    have hz9 : Leases w9 lr (xs.filter (notN name)) := (or8.slOf cL_len (by decide)).ext e9
    have aw9 : Away w6.heap.size w9.heap.size lr := or8.away (by rw [hw7]; simp) e9.size
    have hbl1 : w8.heap.size ≠ w6.heap.size := by
      have := e8.size
      rw [hw7] at this; simp at this; omega
    have hbl2 : w8.heap.size < w9.heap.size := r9.lt
    have e79 := e8.trans e9
    have e09 := e07.trans e79
    have o9 := o7.ext e79
    have hzl : (xs.filter (notN name)).length ≤ 10 := Nat.le_trans (List.length_filter_le _ _) v1.2.2
    have hT := takeWhile_lt (name := name) v1.2.1
    have hG := filter_gt_not (name := name) xs
    have hlz := hz9.len
    have lt9 : Late w6.heap.size w9.heap.size ⟨some ⟨w6.heap.size, 0, none⟩, 0, 0⟩ := Late.new _ _ _ _
    generalize hzs : xs.filter (notN name) = zs at *
    generalize hbl : w8.heap.size = bl at *
    generalize hb0 : w6.heap.size = b6 at *
    have hb7 : w.heap.size ≤ w9.heap.size := e09.size
    clear hw7 e8 e9 or8 e79
    refine sLoop_list zs (fun pre t w' => Ext w w' ∧ Own w.heap.size 40 3 w' t.1 (pre.flatMap cL) ∧ (∀ x ∈ pre, ltN name x = true) ∧ Late b6 w9.heap.size t.1 ∧ Leases w' lr zs ∧ Row w' bl [.string name, .int .i64 owner, .int .i64 (now + span)] 40 ∧ w9.heap.size ≤ w'.heap.size) ⟨e09, o9, by simp, lt9, hz9, r9, Nat.le_refl _⟩ ?_ ?_
    · rintro K pre post c ⟨l, u⟩ w10 hx ⟨he, ho, hp, hla, hz, hr, hsz⟩ hK _
      have hm := mid_len hx
      have hb0 : ((0 : Int) ≤ pre.length ∧ (pre.length : Int) < (lr.len : Int)) := ⟨by omega, by omega⟩
      obtain ⟨a, hsa, c0, c1, c2⟩ := lz_mid hz hx
      refine br_dt (by omega) (onSome_i hsa ⟨hb0, _, c0, br_i (fun g => onSome_i hsa ⟨hb0, _, c0, _, c1, _, c2, ?_⟩) (fun g => ?_)⟩)
      · refine push1_at (x := c) cL_len (by decide) (cL_one c) ho (by omega) (by omega) (by decide) hla hsz (fun s' wm w' hl' o' em om hg hla' => ⟨inR_i64 (by omega) (by omega), hK _ _ ⟨(he.trans em).own om hg (Nat.le_refl _), o', ?_, hla', (hz.ext em).late hg hla aw9, (hr.ext em).late hg hla hbl1 hbl2, Nat.le_trans hsz (Nat.le_trans em.size hg.size)⟩⟩)
        intro y hy
        rcases List.mem_append.1 hy with hy | hy
        · exact hp y hy
        · simp at hy; rw [hy]; exact g
      · have hTW := takeWhile_mid hx hp g
        have hpl : pre.length ≤ 10 := by omega
        generalize hpre : pre = W at *
        clear hK hm hb0 c0 c1 c2 hx g hp
        refine ⟨_, hr.cell rfl, _, hr.cell rfl, _, hr.cell rfl, push1_at (x := (name, owner, now + span)) cL_len (by decide) (cL_one _) ho (by omega) (by omega) (by decide) hla hsz (fun s' wm w11 hl' o' em om hg hla' => ?_)⟩
        have e11 := (he.trans em).own om hg (Nat.le_refl _)
        have z11 := (hz.ext em).late hg hla aw9
        have s11 : w9.heap.size ≤ w11.heap.size := Nat.le_trans hsz (Nat.le_trans em.size hg.size)
        clear he ho hla hz hr hsz em om hg
        refine sLoop_list zs (fun pre t w' => Ext w w' ∧ Own w.heap.size 40 3 w' t.1 ((W ++ [(name, owner, now + span)] ++ pre.filter (gtN name)).flatMap cL) ∧ Late b6 w9.heap.size t.1 ∧ Leases w' lr zs ∧ w9.heap.size ≤ w'.heap.size) ⟨e11, by simpa using o', hla', z11, s11⟩ ?_ ?_
        · rintro K pre post c ⟨l, u⟩ w12 hx ⟨he, ho, hla, hz, hsz⟩ hK _
          have hm := mid_len hx
          have hb0 : ((0 : Int) ≤ pre.length ∧ (pre.length : Int) < (lr.len : Int)) := ⟨by omega, by omega⟩
          obtain ⟨a, hsa, c0, c1, c2⟩ := lz_mid hz hx
          refine br_dt (by omega) (onSome_i hsa ⟨hb0, _, c0, ?_⟩)
          rw [sle_not, Bool.not_not]
          refine br_i (fun g => onSome_i hsa ⟨hb0, _, c0, _, c1, _, c2, ?_⟩) (fun g => ⟨inR_i64 (by omega) (by omega), hK _ _ ⟨he, ?_, hla, hz, hsz⟩⟩)
          · have hfl : (pre.filter (gtN name)).length ≤ pre.length := List.length_filter_le _ _
            refine push1_at (x := c) cL_len (by decide) (cL_one c) ho (by omega) (by simp only [List.length_append, List.length_singleton]; omega) (by decide) hla hsz (fun s' wm w' hl' o' em om hg hla' => ⟨inR_i64 (by omega) (by omega), hK _ _ ⟨(he.trans em).own om hg (Nat.le_refl _), ?_, hla', (hz.ext em).late hg hla aw9, Nat.le_trans hsz (Nat.le_trans em.size hg.size)⟩⟩)
            have : gtN name c = true := g
            simpa [List.filter_append, this] using o'
          · have : gtN name c = false := g
            simpa [List.filter_append, this] using ho
        · rintro K ⟨l, u⟩ w12 ⟨he, ho, hla, hz, hsz⟩ _
          refine br_df (by omega) ?_
          have hput : W ++ [(name, owner, now + span)] ++ zs.filter (gtN name) = putL xs name (name, owner, now + span) := by
            unfold putL
            rw [← hT, hTW, hG]
            simp
          rw [hput] at ho
          have so := ho.slOf cL_len (by decide)
          refine (c_spec_validLeases so (by have := putL_len xs name (name, owner, now + span); unfold maxLen; omega) (fun y hy => by
            rcases putL_mem hy with hy | rfl
            · exact hs y hy
            · exact hn)).go fun w13 e13 => ⟨_, rfl, br_i (fun g => ?_) (fun g => ?_)⟩
          · have : takeL xs name owner now span = none := by
              unfold takeL; rw [if_neg]; rintro ⟨_, _, h3⟩; rw [h3] at g; cases g
            rw [this]
            exact ⟨TakeR.no _ _, he.trans e13⟩
          · have : takeL xs name owner now span = some (putL xs name (name, owner, now + span)) := by
              unfold takeL; rw [if_pos ⟨ok, hh, notf g⟩]
            rw [this]
            exact ⟨⟨l, rfl, ho.ext e13⟩, he.trans e13⟩
    · rintro K ⟨l, u⟩ w10 ⟨he, ho, hp, hla, hz, hr, hsz⟩ _
      have hTW := takeWhile_all hp
      refine br_df (by omega) ?_
      obtain ⟨W, hW, hpl⟩ : ∃ W, zs.takeWhile (ltN name) = W ∧ W.length ≤ 10 := ⟨zs, hTW, hzl⟩
      rw [← hTW, hW] at ho
      rw [hW] at hTW
      replace hTW := hW
      refine ⟨_, hr.cell rfl, _, hr.cell rfl, _, hr.cell rfl, push1_at (x := (name, owner, now + span)) cL_len (by decide) (cL_one _) ho (by omega) (by omega) (by decide) hla hsz (fun s' wm w11 hl' o' em om hg hla' => ?_)⟩
      have e11 := (he.trans em).own om hg (Nat.le_refl _)
      have z11 := (hz.ext em).late hg hla aw9
      have s11 : w9.heap.size ≤ w11.heap.size := Nat.le_trans hsz (Nat.le_trans em.size hg.size)
      clear he ho hla hz hr hsz em om hg
      refine sLoop_list zs (fun pre t w' => Ext w w' ∧ Own w.heap.size 40 3 w' t.1 ((W ++ [(name, owner, now + span)] ++ pre.filter (gtN name)).flatMap cL) ∧ Late b6 w9.heap.size t.1 ∧ Leases w' lr zs ∧ w9.heap.size ≤ w'.heap.size) ⟨e11, by simpa using o', hla', z11, s11⟩ ?_ ?_
      · rintro K pre post c ⟨l, u⟩ w12 hx ⟨he, ho, hla, hz, hsz⟩ hK _
        have hm := mid_len hx
        have hb0 : ((0 : Int) ≤ pre.length ∧ (pre.length : Int) < (lr.len : Int)) := ⟨by omega, by omega⟩
        obtain ⟨a, hsa, c0, c1, c2⟩ := lz_mid hz hx
        refine br_dt (by omega) (onSome_i hsa ⟨hb0, _, c0, ?_⟩)
        rw [sle_not, Bool.not_not]
        refine br_i (fun g => onSome_i hsa ⟨hb0, _, c0, _, c1, _, c2, ?_⟩) (fun g => ⟨inR_i64 (by omega) (by omega), hK _ _ ⟨he, ?_, hla, hz, hsz⟩⟩)
        · have hfl : (pre.filter (gtN name)).length ≤ pre.length := List.length_filter_le _ _
          refine push1_at (x := c) cL_len (by decide) (cL_one c) ho (by omega) (by simp only [List.length_append, List.length_singleton]; omega) (by decide) hla hsz (fun s' wm w' hl' o' em om hg hla' => ⟨inR_i64 (by omega) (by omega), hK _ _ ⟨(he.trans em).own om hg (Nat.le_refl _), ?_, hla', (hz.ext em).late hg hla aw9, Nat.le_trans hsz (Nat.le_trans em.size hg.size)⟩⟩)
          have : gtN name c = true := g
          simpa [List.filter_append, this] using o'
        · have : gtN name c = false := g
          simpa [List.filter_append, this] using ho
      · rintro K ⟨l, u⟩ w12 ⟨he, ho, hla, hz, hsz⟩ _
        refine br_df (by omega) ?_
        have hput : W ++ [(name, owner, now + span)] ++ zs.filter (gtN name) = putL xs name (name, owner, now + span) := by
          unfold putL
          rw [← hT, hTW, hG]
          simp
        rw [hput] at ho
        have so := ho.slOf cL_len (by decide)
        refine (c_spec_validLeases so (by have := putL_len xs name (name, owner, now + span); unfold maxLen; omega) (fun y hy => by
          rcases putL_mem hy with hy | rfl
          · exact hs y hy
          · exact hn)).go fun w13 e13 => ⟨_, rfl, br_i (fun g => ?_) (fun g => ?_)⟩
        · have : takeL xs name owner now span = none := by
            unfold takeL; rw [if_neg]; rintro ⟨_, _, h3⟩; rw [h3] at g; cases g
          rw [this]
          exact ⟨TakeR.no _ _, he.trans e13⟩
        · have : takeL xs name owner now span = some (putL xs name (name, owner, now + span)) := by
            unfold takeL; rw [if_pos ⟨ok, hh, notf g⟩]
          rw [this]
          exact ⟨⟨l, rfl, ho.ext e13⟩, he.trans e13⟩

theorem take_mem_get {α : Type} {xs : List α} {i : Nat} {x : α} (h : x ∈ xs.take i) : ∃ k, k < i ∧ xs[k]? = some x := by
  obtain ⟨k, hk⟩ := List.getElem?_of_mem h
  rw [List.getElem?_take] at hk
  split at hk
  · rename_i hlt; exact ⟨k, hlt, hk⟩
  · cases hk

theorem drop_mem_get {α : Type} {xs : List α} {i : Nat} {x : α} (h : x ∈ xs.drop i) : ∃ k, i ≤ k ∧ xs[k]? = some x := by
  obtain ⟨k, hk⟩ := List.getElem?_of_mem h
  rw [List.getElem?_drop] at hk
  exact ⟨i + k, by omega, hk⟩

theorem pos_lt {xs : List Lz} {name : ByteArray} {i : Nat} (hp : Pos xs name i) : xs.filter (ltN name) = xs.take i := by
  conv => lhs; rw [← List.take_append_drop i xs]
  rw [List.filter_append, List.filter_eq_self.2, List.filter_eq_nil_iff.2, List.append_nil]
  · intro x hx
    obtain ⟨k, hk, hxk⟩ := drop_mem_get hx
    unfold ltN
    rw [hp.hi k x hk hxk]; simp
  · intro x hx
    obtain ⟨k, hk, hxk⟩ := take_mem_get hx
    exact hp.lo k x hk hxk

theorem pos_gt {xs : List Lz} {name : ByteArray} {i : Nat} (hasc : ascL xs = true) (hp : Pos xs name i) : xs.filter (gtN name) = if isAt xs name i = true then xs.drop (i + 1) else xs.drop i := by
  have h1 : (xs.take i).filter (gtN name) = [] := by
    rw [List.filter_eq_nil_iff]
    intro x hx
    obtain ⟨k, hk, hxk⟩ := take_mem_get hx
    unfold gtN
    rw [slt_asymm (hp.lo k x hk hxk)]; simp
  conv => lhs; rw [← List.take_append_drop i xs]
  rw [List.filter_append, h1, List.nil_append]
  by_cases ha : isAt xs name i = true
  · rw [if_pos ha]
    cases hx : xs[i]? with
    | none => simp [isAt, hx] at ha
    | some x =>
      have hlt := (List.getElem?_eq_some_iff.1 hx).1
      have hxi : xs[i] = x := (List.getElem?_eq_some_iff.1 hx).2
      have hn : x.1 = name := by simpa [isAt, hx] using ha
      rw [List.drop_eq_getElem_cons hlt, hxi, List.filter_cons_of_neg (by unfold gtN; rw [hn, slt_irrefl]; simp), List.filter_eq_self]
      intro y hy
      obtain ⟨k, hk, hyk⟩ := drop_mem_get hy
      unfold gtN
      rw [← hn]
      exact ascL_lt hasc (by omega) hx hyk
  · rw [if_neg ha, List.filter_eq_self]
    intro y hy
    obtain ⟨k, hk, hyk⟩ := drop_mem_get hy
    have h2 := hp.hi k y hk hyk
    unfold gtN
    cases h3 : sltB name y.1 with
    | true => rfl
    | false =>
      exfalso
      have he := slt_total h2 h3
      have hki : k = i := by
        rcases Nat.lt_or_ge i k with h | h
        · exfalso
          have hl : i < xs.length := by have := (List.getElem?_eq_some_iff.1 hyk).1; omega
          have h5 := ascL_lt hasc h (List.getElem?_eq_getElem hl) hyk
          have h6 := hp.hi i xs[i] (Nat.le_refl _) (List.getElem?_eq_getElem hl)
          rw [he, h6] at h5; cases h5
        · omega
      subst hki
      apply ha
      simp [isAt, hyk, he]

set_option maxHeartbeats 2000000 in
theorem c_impl_TakeLease {w : World} {s : Sl} {xs : List Lz} (name : ByteArray) (owner now span : Int) (h : Leases w s xs) :
    CallR Try.prog 36 [.slice s.a s.len s.cap, .string name, .int .i64 owner, .int .i64 now, .int .i64 span] w (fun v w' => TakeR w.heap.size w' (takeL xs name owner now span) v ∧ Ext w w') := by
  refine fn_impl_TakeLease _ _ _ _ _ _ _ ?_
  unfold g_impl_TakeLease
  have bad : okTake xs name owner now span = false → ∀ w', Ext w w' → TakeR w.heap.size w' (takeL xs name owner now span) (.tuple #[.slice none 0 0, .bool false]) ∧ Ext w w' := fun hb w' he => by
    rw [takeL_bad hb]; exact ⟨TakeR.no _ _, he⟩
  refine (c_impl_ValidLeases h).go fun w1 e1 => ⟨_, rfl, br_i (fun g => bad (by simp [okTake, nott g]) _ e1) (fun g1 => ?_)⟩
  refine (c_impl_isName name _).go fun w2 e2 => ⟨_, rfl, br_i (fun g => bad (by simp [okTake, nott g]) _ (e1.trans e2)) (fun g2 => ?_)⟩
  refine (c_impl_isOwner _ _).go fun w3 e3 => ⟨_, rfl, br_i (fun g => bad (by simp only [okTake, nott g]; simp) _ ((e1.trans e2).trans e3)) (fun g3 => ?_)⟩
  refine (c_impl_isTime _ _).go fun w4 e4 => ⟨_, rfl, br_i (fun g => bad (by simp only [okTake, inT, nott g]; simp) _ (((e1.trans e2).trans e3).trans e4)) (fun g4 => ?_)⟩
  have e04 := ((e1.trans e2).trans e3).trans e4
  refine br_d (fun g => bad (by have : ¬ (1 ≤ span ∧ span ≤ 100) := by omega
                                simp [okTake, this]) _ e04) (fun g5 => br_d (fun g => bad (by have : ¬ (1 ≤ span ∧ span ≤ 100) := by omega
                                                                                              simp [okTake, this]) _ e04) (fun g6 => ?_))
  have b5 : 1 ≤ span ∧ span ≤ 100 := by omega
  have ok : okTake xs name owner now span = true := by
    simp only [okTake, inT, notf g1, notf g2, notf g3, notf g4, decide_eq_true b5]; rfl
  have v0 := notf g1
  have v1 := vLs_parts (notf g1)
  have b3 := of_decide_eq_true (notf g3)
  have b4 := of_decide_eq_true (notf g4)
  have it : inT now = true := decide_eq_true b4
  clear g1 g2 g3 g4 g5 g6 e1 e2 e3 e4
  refine (c_impl_HolderOf name now (h.ext e04)).go fun w5 e5 => ⟨_, rfl, ?_⟩
  have hho : holderOf xs name now = hold xs name now := by simp [holderOf, v0, it]
  rw [hho]
  have e05 := e04.trans e5
  refine br_i (fun g1 => br_i (fun g2 => ?_) (fun g2 => ?_)) (fun g1 => ?_)
  · have : takeL xs name owner now span = none := by
      unfold takeL
      rw [if_neg]
      rintro ⟨_, h2, _⟩
      simp at g1 g2
      rcases h2 with h2 | h2
      · exact g1 h2
      · exact g2 h2
    rw [this]
    exact ⟨TakeR.no _ _, e05⟩
  all_goals
    have hh : hold xs name now = 0 ∨ hold xs name now = owner := by
      first
      | (left; simpa using g1)
      | (right; simpa using g2)
    refine ⟨inR_i64 (by omega) (by omega), local3 fun w6 r6 e6 => ?_⟩
    have e06 := e05.trans e6
    refine (c_slices_Clone (h.ext e06) (by omega)).mono ?_
    rintro _ w7 ⟨l, rfl, o7, e7⟩
    have e07 := e06.trans e7
    have r7 := r6.ext e7
    refine ⟨l, rfl, (c_impl_findLease name (o7.slOf cL_len (by decide)) (by omega) v1.2.1).mono ?_⟩
    rintro _ w8 ⟨i, rfl, hp, e8⟩
    have e08 := e07.trans e8
    have r8 := r7.ext e8
    have o8 := o7.ext e8
    have hlt6 : w5.heap.size < w6.heap.size := r6.lt
    have hb6 : w.heap.size ≤ w6.heap.size := e06.size
    have plt := pos_lt hp
    have pgt := pos_gt v1.2.1 hp
    have fin : ∀ (l' : Sl) (w9 : World), Ext w w9 → Own w.heap.size 40 3 w9 l' ((putL xs name (name, owner, now + span)).flatMap cL) →
        CallR Try.prog 21 [.slice l'.a l'.len l'.cap] w9 (fun r w' => ∃ b : Bool, r = .bool b ∧ br (!b) (TakeR w.heap.size w' (takeL xs name owner now span) (.tuple #[.slice none 0 0, .bool false]) ∧ Ext w w')
          (TakeR w.heap.size w' (takeL xs name owner now span) (.tuple #[.slice l'.a l'.len l'.cap, .bool true]) ∧ Ext w w')) := fun l' w9 e9 o9 =>
      (c_impl_ValidLeases (o9.slOf cL_len (by decide))).go fun w10 e10 => ⟨_, rfl, br_i (fun g => by
        have : takeL xs name owner now span = none := by
          unfold takeL; rw [if_neg]; rintro ⟨_, _, h3⟩; rw [h3] at g; cases g
        rw [this]
        exact ⟨TakeR.no _ _, e9.trans e10⟩) (fun g => by
        have : takeL xs name owner now span = some (putL xs name (name, owner, now + span)) := by
          unfold takeL; rw [if_pos ⟨ok, hh, notf g⟩]
        rw [this]
        exact ⟨⟨l', rfl, o9.ext e10⟩, e9.trans e10⟩)⟩
    refine ⟨_, _, rfl, br_i (fun g => ?_) (fun g => ?_)⟩
    · rw [if_pos g] at pgt
      cases hx : xs[i]? with
      | none => simp [isAt, hx] at g
      | some x =>
        have hlt := (List.getElem?_eq_some_iff.1 hx).1
        have hxi : xs[i] = x := (List.getElem?_eq_some_iff.1 hx).2
        have hxs : xs = xs.take i ++ x :: xs.drop (i + 1) := by
          rw [← hxi]; simp
        have hti : (xs.take i).length = i := by simp; omega
        rw [hxs] at o8
        obtain ⟨a, ha, hil, hput⟩ := Own.put3 (y := (name, owner, now + span)) cL_len o8 rfl (K := fun w9 => _) (fun w9 o9 g9 => fin l w9 (e08.own o8 g9 (Nat.le_trans hb6 (Nat.le_refl _))) (by
          unfold putL; rw [plt, pgt]; exact o9.base_le hb6))
        rw [hti] at hput hil
        exact ⟨_, r8.cell rfl, _, r8.cell rfl, _, r8.cell rfl, onSome_i ha ⟨⟨by omega, by omega⟩, hput⟩⟩
    · rw [if_neg (by rw [g]; simp)] at pgt
      have hxs : xs = xs.take i ++ xs.drop i := (List.take_append_drop i xs).symm
      have hti : (xs.take i).length = i := by have := hp.le; simp; omega
      rw [hxs] at o8
      refine ⟨_, r8.cell rfl, _, r8.cell rfl, _, r8.cell rfl, letW_i fun w9 hw9 => ?_⟩
      have e89 : Ext w8 w9 := by rw [hw9]; exact (Ext.refl w8).alloc _
      have r9 : Row w9 w8.heap.size (cL (name, owner, now + span)) 40 := by rw [hw9]; exact Row.new w8 _ _
      have hne : l.v.ownBlock ≠ some w8.heap.size := fun hk => by
        have := (o8.lt _ hk).2
        omega
      have := c_slices_Insert (o8.ext e89) r9 hne (Nat.le_trans (Nat.le_trans e7.size e8.size) e89.size) (by rw [← hxs]; omega)
      rw [hti] at this
      refine this.mono ?_
      rintro _ w10 ⟨l', rfl, o10, e10⟩
      refine ⟨l', rfl, fin l' w10 (e10 w (e08.trans e89) hb6) ?_⟩
      unfold putL; rw [plt, pgt]; exact o10.base_le hb6

theorem hold_bounds {xs : List Lz} {name : ByteArray} {now : Int} (h : xs.all okL = true) : 0 ≤ hold xs name now ∧ hold xs name now ≤ 5 := by
  unfold hold
  split
  · rename_i l hl
    have hm := List.mem_of_find?_eq_some hl
    have := List.all_eq_true.1 h l hm
    simp only [okL, Bool.and_eq_true, decide_eq_true_eq] at this
    omega
  · omega

theorem holderOf_bounds (xs : List Lz) (name : ByteArray) (now : Int) : 0 ≤ holderOf xs name now ∧ holderOf xs name now ≤ 5 := by
  unfold holderOf
  split
  · rename_i h
    exact hold_bounds (vLs_parts h.1).1
  · omega

theorem holderOf_valid {xs : List Lz} {name : ByteArray} {now : Int} (h : holderOf xs name now ≠ 0) : vLs xs = true ∧ inT now = true ∧ hold xs name now ≠ 0 := by
  unfold holderOf at h
  split at h
  · rename_i hh
    exact ⟨hh.1, hh.2, h⟩
  · exact absurd rfl h

theorem c_spec_GiveLease {w : World} {s : Sl} {xs : List Lz} (name : ByteArray) (owner now : Int) (h : Leases w s xs) (hl : xs.length ≤ maxLen) (hs : ∀ x ∈ xs, x.1.size ≤ maxLen) :
    CallR Try.prog 33 [.slice s.a s.len s.cap, .string name, .int .i64 owner, .int .i64 now] w (fun v w' => TakeR w.heap.size w' (giveL xs name owner now) v ∧ Ext w w') := by
  refine fn_spec_GiveLease _ _ _ _ _ _ ?_
  unfold g_spec_GiveLease
  refine (c_spec_HolderOf name now h hl hs).go fun w1 e1 => ⟨_, rfl, br_i (fun g => ?_) (fun g => br_i (fun g' => ?_) (fun g' => ?_))⟩
  · have : giveL xs name owner now = none := by
      unfold giveL; rw [if_neg]; rintro ⟨h1, _⟩; rw [h1] at g; simp at g
    rw [this]; exact ⟨TakeR.no _ _, e1⟩
  · have : giveL xs name owner now = none := by
      unfold giveL; rw [if_neg]; rintro ⟨_, h1⟩; simp at g'; exact h1 g'
    rw [this]; exact ⟨TakeR.no _ _, e1⟩
  · have hho : holderOf xs name now = owner := by simpa using g
    have hne : owner ≠ 0 := by simpa using g'
    have hv := holderOf_valid (by rw [hho]; exact hne)
    have h10 := (vLs_parts hv.1).2.2
    refine (c_spec_without name (h.ext e1) (by omega)).mono ?_
    rintro _ w2 ⟨l, rfl, o, e2⟩
    have : giveL xs name owner now = some (xs.filter (notN name)) := by
      unfold giveL; rw [if_pos ⟨hho, hne⟩]
    rw [this]
    exact ⟨l, rfl, ⟨l, rfl, o.base_le e1.size⟩, e1.trans e2⟩

theorem notN_split {name : ByteArray} : ∀ {xs : List Lz}, ascL xs = true → xs.filter (notN name) = xs.filter (ltN name) ++ xs.filter (gtN name)
  | [], _ => rfl
  | a :: r, h => by
    have ih := notN_split (name := name) (ascL_tail h)
    by_cases he : a.1 = name
    · have h1 : notN name a = false := by simp [notN, he]
      have h2 : ltN name a = false := by unfold ltN; rw [he]; exact slt_irrefl _
      have h3 : gtN name a = false := by unfold gtN; rw [he]; exact slt_irrefl _
      rw [List.filter_cons_of_neg (by simp [h1]), List.filter_cons_of_neg (by simp [h2]), List.filter_cons_of_neg (by simp [h3]), ih]
    · have h1 : notN name a = true := by simp [notN, he]
      rw [List.filter_cons_of_pos h1, ih]
      cases h2 : ltN name a with
      | true =>
        have h3 : gtN name a = false := slt_asymm h2
        rw [List.filter_cons_of_pos h2, List.filter_cons_of_neg (by simp [h3])]
        rfl
      | false =>
        have h3 : gtN name a = true := by
          cases h3 : gtN name a with
          | true => rfl
          | false => exact absurd (slt_total h2 h3) he
        have h4 : r.filter (ltN name) = [] := by
          rw [List.filter_eq_nil_iff]
          intro x hx hlt
          have h5 := slt_trans (ascL_head h x hx) hlt
          unfold ltN at h2
          rw [h5] at h2; cases h2
        rw [List.filter_cons_of_neg (by simp [h2]), List.filter_cons_of_pos h3, h4]
        rfl

theorem c_impl_GiveLease {w : World} {s : Sl} {xs : List Lz} (name : ByteArray) (owner now : Int) (h : Leases w s xs) :
    CallR Try.prog 34 [.slice s.a s.len s.cap, .string name, .int .i64 owner, .int .i64 now] w (fun v w' => TakeR w.heap.size w' (giveL xs name owner now) v ∧ Ext w w') := by
  refine fn_impl_GiveLease _ _ _ _ _ _ ?_
  unfold g_impl_GiveLease
  have hbd := holderOf_bounds xs name now
  refine (c_impl_isOwner _ _).go fun w1 e1 => ⟨_, rfl, br_i (fun g => ?_) (fun g0 => ?_)⟩
  · have : giveL xs name owner now = none := by
      have := of_decide_eq_false (nott g)
      unfold giveL; rw [if_neg]; rintro ⟨h1, h2⟩; omega
    rw [this]; exact ⟨TakeR.no _ _, e1⟩
  have b0 := of_decide_eq_true (notf g0)
  refine (c_impl_HolderOf name now (h.ext e1)).go fun w2 e2 => ⟨_, rfl, br_i (fun g => ?_) (fun g => ?_)⟩
  · have : giveL xs name owner now = none := by
      unfold giveL; rw [if_neg]; rintro ⟨h1, _⟩; rw [h1] at g; simp at g
    rw [this]; exact ⟨TakeR.no _ _, e1.trans e2⟩
  have hho : holderOf xs name now = owner := by simpa using g
  have hne : owner ≠ 0 := by omega
  have hv := holderOf_valid (by rw [hho]; exact hne)
  have v1 := vLs_parts hv.1
  have e02 := e1.trans e2
  have hgive : giveL xs name owner now = some (xs.filter (notN name)) := by
    unfold giveL; rw [if_pos ⟨hho, hne⟩]
  rw [hgive]
  refine (c_impl_findLease name (h.ext e02) (by omega) v1.2.1).mono ?_
  rintro _ w3 ⟨i, rfl, hp, e3⟩
  have e03 := e02.trans e3
  have plt := pos_lt hp
  have pgt := pos_gt v1.2.1 hp
  have heq := hold_eq (now := now) v1.2.1 hp
  cases hx : xs[i]? with
  | none => rw [hx] at heq; exact absurd heq hv.2.2
  | some x =>
    rw [hx] at heq
    have hn : x.1 = name := by
      by_cases hn : x.1 = name
      · exact hn
      · exfalso; simp only [hn, false_and, if_false] at heq; exact hv.2.2 heq
    have hat : isAt xs name i = true := by simp [isAt, hx, hn]
    rw [if_pos hat] at pgt
    have hlt := (List.getElem?_eq_some_iff.1 hx).1
    have hxi : xs[i] = x := (List.getElem?_eq_some_iff.1 hx).2
    have hxs : xs = xs.take i ++ x :: xs.drop (i + 1) := by
      rw [← hxi]; simp
    have hti : (xs.take i).length = i := by simp; omega
    refine ⟨_, _, rfl, (c_slices_Clone (h.ext e03) (by omega)).mono ?_⟩
    rintro _ w4 ⟨l, rfl, o4, e4⟩
    rw [hxs] at o4
    have hd := c_slices_Delete o4
    rw [hti] at hd
    refine ⟨l, rfl, inR_i64 (by omega) (by omega), hd.mono ?_⟩
    rintro _ w5 ⟨l', rfl, o5, e5⟩
    refine ⟨l', rfl, ⟨l', rfl, ?_⟩, e5 w (e03.trans e4) e03.size⟩
    rw [notN_split v1.2.1, plt, pgt]
    exact o5.base_le e03.size
end Go.Proofs

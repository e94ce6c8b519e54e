/-
  What functions of this seat compute, part 'LeaseMath': contracts over their readable predicates. Conditions: each theorem's own hypotheses.
-/
import Derived.Test.YtcgmjkokkclciaaBase
import Derived.Test.YtcgmjkokkclciaaOpen
import Derived.Test.YtcgmjkokkclciaaGen
import Derived.Test.YtcgmjkokkclciaaCLease
import Derived.Test.YtcgmjkokkclciaaCLease2
import Derived.Test.YtcgmjkokkclciaaCLease3
import Derived.Test.YtcgmjkokkclciaaCLease5
namespace Go.Proofs
open Go Go.Vc Go.RowKit
set_option maxRecDepth 100000
set_option linter.unusedVariables false
--! C:Lease C:Lease2 C:Lease3 C:Lease5
/-! ## Leases: what the laws say, as facts about lists -/

theorem ascL_iff : ∀ {xs : List Lz}, ascL xs = true ↔ xs.Pairwise fun a b => sltB a.1 b.1 = true
  | [] => by simp [ascL]
  | a :: r => by
    rw [List.pairwise_cons, ← ascL_iff (xs := r)]
    constructor
    · intro h; exact ⟨ascL_head h, ascL_tail h⟩
    · rintro ⟨h1, h2⟩
      cases r with
      | nil => rfl
      | cons b r => simp only [ascL, Bool.and_eq_true]; exact ⟨h1 b List.mem_cons_self, h2⟩

theorem ascL_filter {xs : List Lz} (p : Lz → Bool) (h : ascL xs = true) : ascL (xs.filter p) = true := ascL_iff.2 ((ascL_iff.1 h).filter p)

theorem all_filter {xs : List Lz} {q : Lz → Bool} (p : Lz → Bool) (h : xs.all q = true) : (xs.filter p).all q = true := by
  rw [List.all_eq_true] at h ⊢
  intro x hx
  exact h x (List.mem_filter.1 hx).1

theorem vLs_mk {xs : List Lz} (h1 : xs.all okL = true) (h2 : ascL xs = true) (h3 : xs.length ≤ 10) : vLs xs = true := by simp [vLs, h1, h2, h3]

theorem vLs_filter {xs : List Lz} (p : Lz → Bool) (h : vLs xs = true) : vLs (xs.filter p) = true := by
  obtain ⟨h1, h2, h3⟩ := vLs_parts h
  exact vLs_mk (all_filter p h1) (ascL_filter p h2) (Nat.le_trans (List.length_filter_le _ _) h3)

theorem vLs_take {xs : List Lz} (k : Nat) (h : vLs xs = true) : vLs (xs.take k) = true := by
  obtain ⟨h1, h2, h3⟩ := vLs_parts h
  refine vLs_mk ?_ (ascL_iff.2 ((ascL_iff.1 h2).sublist (List.take_sublist k xs))) (by simp; omega)
  rw [List.all_eq_true] at h1 ⊢
  exact fun x hx => h1 x (List.mem_of_mem_take hx)

theorem ascL_split {A B : List Lz} {c : Lz} (h : ascL (A ++ c :: B) = true) : (∀ x ∈ A, sltB x.1 c.1 = true) ∧ (∀ x ∈ B, sltB c.1 x.1 = true) := by
  rw [ascL_iff, List.pairwise_append] at h
  obtain ⟨_, h2, h3⟩ := h
  exact ⟨fun x hx => h3 x hx c List.mem_cons_self, (List.pairwise_cons.1 h2).1⟩

theorem notN_ne {name : ByteArray} {x : Lz} (h : x.1 ≠ name) : notN name x = true := by simp [notN, h]

theorem filter_mid {A B : List Lz} {c : Lz} (h : ascL (A ++ c :: B) = true) : (A ++ c :: B).filter (notN c.1) = A ++ B := by
  obtain ⟨h1, h2⟩ := ascL_split h
  rw [List.filter_append, List.filter_cons_of_neg (by simp [notN]), List.filter_eq_self.2, List.filter_eq_self.2]
  · intro x hx; exact notN_ne (slt_ne (h2 x hx)).symm
  · intro x hx; exact notN_ne (slt_ne (h1 x hx))

theorem hold_mid {A B : List Lz} {c : Lz} {now : Int} (h1 : ∀ x ∈ A, x.1 ≠ c.1) (h2 : ∀ x ∈ B, x.1 ≠ c.1) : hold (A ++ c :: B) c.1 now = if now < c.2.2 then c.2.1 else 0 := by
  have hA : A.find? (fun l => decide (l.1 = c.1) && decide (now < l.2.2)) = none := by
    rw [List.find?_eq_none]; intro x hx; simp [h1 x hx]
  have hB : B.find? (fun l => decide (l.1 = c.1) && decide (now < l.2.2)) = none := by
    rw [List.find?_eq_none]; intro x hx; simp [h2 x hx]
  unfold hold
  rw [List.find?_append, hA, Option.none_or]
  by_cases hn : now < c.2.2
  · rw [List.find?_cons_of_pos (by simp [hn]), if_pos hn]
  · rw [List.find?_cons_of_neg (by simp [hn]), hB, if_neg hn]

theorem hold_asc {A B : List Lz} {c : Lz} {now : Int} (h : ascL (A ++ c :: B) = true) : hold (A ++ c :: B) c.1 now = if now < c.2.2 then c.2.1 else 0 := by
  obtain ⟨h1, h2⟩ := ascL_split h
  exact hold_mid (fun x hx => slt_ne (h1 x hx)) (fun x hx => (slt_ne (h2 x hx)).symm)

theorem hold_none {xs : List Lz} {name : ByteArray} {now : Int} (h : ∀ x ∈ xs, x.1 ≠ name) : hold xs name now = 0 := by
  have : xs.find? (fun l => decide (l.1 = name) && decide (now < l.2.2)) = none := by
    rw [List.find?_eq_none]; intro x hx; simp [h x hx]
  unfold hold; rw [this]

theorem hold_live {xs : List Lz} {name : ByteArray} {now : Int} : hold (xs.filter (live now)) name now = hold xs name now := by
  unfold hold
  rw [List.find?_filter]
  congr 2
  funext x
  unfold live
  cases h : decide (now < x.2.2) <;> simp

theorem holderOf_zero {xs : List Lz} {name : ByteArray} {now : Int} (h : hold xs name now = 0) : holderOf xs name now = 0 := by
  unfold holderOf; split <;> simp [h]

theorem holderOf_val {xs : List Lz} {name : ByteArray} {now : Int} (h1 : vLs xs = true) (h2 : inT now = true) : holderOf xs name now = hold xs name now := by
  unfold holderOf; rw [if_pos ⟨h1, h2⟩]

theorem holderOf_live {xs : List Lz} {name : ByteArray} {now : Int} (h1 : vLs xs = true) (h2 : inT now = true) : holderOf (xs.filter (live now)) name now = holderOf xs name now := by
  rw [holderOf_val (vLs_filter _ h1) h2, holderOf_val h1 h2, hold_live]

theorem lt_ne {xs : List Lz} {name : ByteArray} : ∀ x ∈ xs.filter (ltN name), x.1 ≠ name := fun x hx => slt_ne (List.mem_filter.1 hx).2
theorem gt_ne {xs : List Lz} {name : ByteArray} : ∀ x ∈ xs.filter (gtN name), x.1 ≠ name := fun x hx => (slt_ne (a := name) (List.mem_filter.1 hx).2).symm

theorem hold_put {xs : List Lz} {name : ByteArray} {o u now : Int} : hold (putL xs name (name, o, u)) name now = if now < u then o else 0 := by
  unfold putL
  exact hold_mid (c := (name, o, u)) lt_ne gt_ne

theorem lt_put {xs : List Lz} {name : ByteArray} {x : Lz} (hx : x.1 = name) : (putL xs name x).filter (ltN name) = xs.filter (ltN name) := by
  unfold putL
  rw [List.filter_append, List.filter_filter, List.filter_cons_of_neg (by unfold ltN; rw [hx, slt_irrefl]; simp), List.filter_filter]
  have h1 : xs.filter (fun a => ltN name a && ltN name a) = xs.filter (ltN name) := by congr 1; funext a; simp
  have h2 : xs.filter (fun a => ltN name a && gtN name a) = [] := by
    rw [List.filter_eq_nil_iff]
    intro a _
    cases h : gtN name a with
    | false => simp
    | true => unfold ltN; rw [slt_asymm h]; simp
  rw [h1, h2, List.append_nil]

theorem gt_put {xs : List Lz} {name : ByteArray} {x : Lz} (hx : x.1 = name) : (putL xs name x).filter (gtN name) = xs.filter (gtN name) := by
  unfold putL
  rw [List.filter_append, List.filter_filter, List.filter_cons_of_neg (by unfold gtN; rw [hx, slt_irrefl]; simp), List.filter_filter]
  have h1 : xs.filter (fun a => gtN name a && gtN name a) = xs.filter (gtN name) := by congr 1; funext a; simp
  have h2 : xs.filter (fun a => gtN name a && ltN name a) = [] := by
    rw [List.filter_eq_nil_iff]
    intro a _
    cases h : ltN name a with
    | false => simp
    | true => unfold gtN; rw [slt_asymm h]; simp
  rw [h1, h2, List.nil_append]

theorem put_put {xs : List Lz} {name : ByteArray} {x y : Lz} (hx : x.1 = name) : putL (putL xs name x) name y = putL xs name y := by
  rw [putL, lt_put hx, gt_put hx, ← putL]

theorem put_ascL {xs : List Lz} {name : ByteArray} {x : Lz} (hx : x.1 = name) (h : ascL xs = true) : ascL (putL xs name x) = true := by
  have hp := ascL_iff.1 h
  rw [ascL_iff]
  unfold putL
  rw [List.pairwise_append, List.pairwise_cons]
  refine ⟨hp.filter _, ⟨fun a ha => by rw [hx]; exact (List.mem_filter.1 ha).2, hp.filter _⟩, fun a ha b hb => ?_⟩
  have h1 : sltB a.1 name = true := (List.mem_filter.1 ha).2
  rcases List.mem_cons.1 hb with rfl | hb
  · rw [hx]; exact h1
  · exact slt_trans h1 (List.mem_filter.1 hb).2

theorem put_okL {xs : List Lz} {name : ByteArray} {x : Lz} (h : xs.all okL = true) (hx : okL x = true) : (putL xs name x).all okL = true := by
  rw [List.all_eq_true] at h ⊢
  intro y hy
  rcases putL_mem hy with hy | rfl
  · exact h y hy
  · exact hx

theorem put_len_same (xs : List Lz) (name : ByteArray) (x y : Lz) : (putL xs name x).length = (putL xs name y).length := by simp [putL]

theorem put_len_notN {xs : List Lz} {name : ByteArray} {x : Lz} (h : ascL xs = true) : (putL xs name x).length = (xs.filter (notN name)).length + 1 := by
  rw [notN_split h]
  simp only [putL, List.length_append, List.length_cons]
  omega

theorem takeL_some {xs ys : List Lz} {name : ByteArray} {owner now span : Int} (h : takeL xs name owner now span = some ys) :
    vLs xs = true ∧ vName name = true ∧ (1 ≤ owner ∧ owner ≤ 5) ∧ (0 ≤ now ∧ now ≤ 999) ∧ (1 ≤ span ∧ span ≤ 100) ∧ vLs ys = true ∧ ys = putL xs name (name, owner, now + span) ∧ now + span ≤ 999 := by
  unfold takeL at h
  split at h
  · rename_i hh
    obtain rfl := Option.some.inj h
    obtain ⟨h1, _, h3⟩ := hh
    simp only [okTake, inT, Bool.and_eq_true, decide_eq_true_eq] at h1
    refine ⟨h1.1.1.1.1, h1.1.1.1.2, h1.1.1.2, h1.1.2, h1.2, h3, rfl, ?_⟩
    have h4 := List.all_eq_true.1 (vLs_parts h3).1 (name, owner, now + span) (by simp [putL])
    simp only [okL, Bool.and_eq_true, decide_eq_true_eq] at h4
    omega
  · cases h

theorem inT_mk {now : Int} (h1 : 0 ≤ now) (h2 : now ≤ 999) : inT now = true := decide_eq_true ⟨h1, h2⟩

theorem take_holds {xs ys : List Lz} {name : ByteArray} {owner now span t : Int} (h : takeL xs name owner now span = some ys) (h1 : now ≤ t) (h2 : t < now + span) : holderOf ys name t = owner := by
  obtain ⟨_, _, _, hn, hs, hv, hy, hle⟩ := takeL_some h
  rw [holderOf_val hv (inT_mk (by omega) (by omega)), hy, hold_put, if_pos h2]

theorem take_ends {xs ys : List Lz} {name : ByteArray} {owner now span : Int} (h : takeL xs name owner now span = some ys) : holderOf ys name (now + span) = 0 := by
  obtain ⟨_, _, _, hn, hs, hv, hy, hle⟩ := takeL_some h
  refine holderOf_zero ?_
  rw [hy, hold_put, if_neg (by omega)]

theorem take_again {xs ys : List Lz} {name : ByteArray} {owner now span : Int} (h : takeL xs name owner now span = some ys) (h1 : now + span < 999) (h2 : span ≠ 100) :
    ∃ zs, takeL ys name owner now (span + 1) = some zs ∧ zs.length = ys.length ∧ holderOf zs name (now + span) = owner := by
  obtain ⟨hv0, hvn, ho, hn, hs, hv, hy, hle⟩ := takeL_some h
  have hh := take_holds h (Int.le_refl now) (by omega)
  rw [holderOf_val hv (inT_mk hn.1 hn.2)] at hh
  have hput : putL ys name (name, owner, now + (span + 1)) = putL xs name (name, owner, now + (span + 1)) := by rw [hy]; exact put_put rfl
  have p0 := vLs_parts hv0
  have p1 := vLs_parts hv
  have hlen : (putL xs name (name, owner, now + (span + 1))).length = ys.length := by rw [hy]; exact put_len_same _ _ _ _
  have hok : okL (name, owner, now + (span + 1)) = true := by
    simp only [okL, hvn, Bool.true_and, Bool.and_eq_true, decide_eq_true_eq]
    omega
  have hv2 : vLs (putL ys name (name, owner, now + (span + 1))) = true := by
    rw [hput]
    exact vLs_mk (put_okL p0.1 hok) (put_ascL rfl p0.2.1) (by rw [hlen]; exact p1.2.2)
  have hts : takeL ys name owner now (span + 1) = some (putL ys name (name, owner, now + (span + 1))) := by
    have hk : okTake ys name owner now (span + 1) = true := by
      simp only [okTake, hv, hvn, inT_mk hn.1 hn.2, Bool.true_and, Bool.and_true, Bool.and_eq_true, decide_eq_true_eq]
      omega
    unfold takeL
    rw [if_pos ⟨hk, .inr hh, hv2⟩]
  exact ⟨_, hts, by rw [hput, hlen], take_holds hts (by omega) (by omega)⟩

theorem take_other {xs ys : List Lz} {name : ByteArray} {owner now span other : Int} (h : takeL xs name owner now span = some ys) (h1 : other ≠ owner) (span' : Int) : takeL ys name other now span' = none := by
  obtain ⟨hv0, hvn, ho, hn, hs, hv, hy, hle⟩ := takeL_some h
  have hh := take_holds h (Int.le_refl now) (by omega)
  rw [holderOf_val hv (inT_mk hn.1 hn.2)] at hh
  unfold takeL
  rw [if_neg]
  rintro ⟨_, h2, _⟩
  rw [hh] at h2
  omega

theorem giveL_some {xs ys : List Lz} {name : ByteArray} {owner now : Int} (h : giveL xs name owner now = some ys) :
    holderOf xs name now = owner ∧ owner ≠ 0 ∧ ys = xs.filter (notN name) := by
  unfold giveL at h
  split at h
  · rename_i hh
    obtain rfl := Option.some.inj h
    exact ⟨hh.1, hh.2, rfl⟩
  · cases h

theorem give_parts {xs ys : List Lz} {name : ByteArray} {owner now : Int} (h : giveL xs name owner now = some ys) :
    vLs xs = true ∧ inT now = true ∧ (1 ≤ owner ∧ owner ≤ 5) ∧ vLs ys = true ∧ ys.length + 1 = xs.length ∧ hold ys name now = 0 ∧ vName name = true := by
  obtain ⟨h1, h2, hy⟩ := giveL_some h
  have hv := holderOf_valid (xs := xs) (name := name) (now := now) (by rw [h1]; exact h2)
  have hb := holderOf_bounds xs name now
  have p := vLs_parts hv.1
  have hne := hv.2.2
  unfold hold at hne
  split at hne
  · rename_i l hl
    have hm := List.mem_of_find?_eq_some hl
    have hp := List.find?_some hl
    simp only [Bool.and_eq_true, decide_eq_true_eq] at hp
    obtain ⟨A, B, hAB⟩ := List.append_of_mem hm
    have hf := filter_mid (by rw [← hAB]; exact p.2.1)
    rw [← hAB, hp.1] at hf
    have hok := List.all_eq_true.1 p.1 l hm
    simp only [okL, Bool.and_eq_true] at hok
    refine ⟨hv.1, hv.2.1, by omega, by rw [hy]; exact vLs_filter _ hv.1, ?_, ?_, by rw [← hp.1]; exact hok.1.1⟩
    · rw [hy, hf, hAB]; simp; omega
    · rw [hy]
      exact hold_none fun x hx => by
        have := (List.mem_filter.1 hx).2
        simpa [notN] using this
  · exact absurd rfl hne

theorem give_take {xs ys : List Lz} {name : ByteArray} {owner now o : Int} (h : giveL xs name owner now = some ys) (h1 : now + 5 ≤ 999) (h2 : 1 ≤ o ∧ o ≤ 5) : ∃ zs, takeL ys name o now 5 = some zs := by
  obtain ⟨hv, ht, ho, hvy, hlen, hh, hn⟩ := give_parts h
  have pt := of_decide_eq_true ht
  have p := vLs_parts hv
  have py := vLs_parts hvy
  have hok : okL (name, o, now + 5) = true := by
    simp only [okL, hn, Bool.true_and, Bool.and_eq_true, decide_eq_true_eq]
    omega
  have hk : okTake ys name o now 5 = true := by
    simp only [okTake, hvy, hn, ht, Bool.true_and, Bool.and_true, Bool.and_eq_true, decide_eq_true_eq]
    omega
  have hv2 : vLs (putL ys name (name, o, now + 5)) = true := by
    refine vLs_mk (put_okL py.1 hok) (put_ascL rfl py.2.1) ?_
    rw [put_len_notN py.2.1]
    have := List.length_filter_le (notN name) ys
    omega
  refine ⟨putL ys name (name, o, now + 5), ?_⟩
  unfold takeL
  rw [if_pos ⟨hk, .inl hh, hv2⟩]
end Go.Proofs

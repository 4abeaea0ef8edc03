/- ClockPlays: the plain law: the clock and the document's clock stay alike. -/
import Derived.Test.YtkalckpfepanaaaRefI
namespace Go.Proofs.Ytkalckpfepanaaa
set_option linter.unusedVariables false
set_option linter.unusedSimpArgs false
set_option linter.unusedSectionVars false
open Go.My Go.RowKit Go.ChangeMaps

structure Rel (s : Clk) (r : Ref) : Prop where
  now : r.now = s.now
  perm : r.l.Perm s.at_
  sorted : r.l.Pairwise aheadP
  later : s.Later

theorem get_perm {l l' : List (Nm × Nat)} (hp : l.Perm l') (hn : (l'.map (·.1)).Nodup) (n : Nm) : get l n = get l' n := by
  have hn' : (l.map (·.1)).Nodup := ((hp.map (·.1)).nodup_iff).2 hn
  cases h : get l' n with
  | some t => rw [get_some_iff hn', hp.mem_iff, ← get_some_iff hn]; exact h
  | none => rw [get_none] at h ⊢; rw [(hp.map (·.1)).mem_iff]; exact h
theorem ahead_trans {a b c : Nm × Nat} (h1 : aheadP a b) (h2 : aheadP b c) : aheadP a c := by
  unfold aheadP Nm.lt at *; omega
theorem ahead_total {a b : Nm × Nat} (h : a.1 ≠ b.1) (h1 : ¬ aheadP a b) : aheadP b a := by
  unfold aheadP at *
  by_cases h2 : b.2 < a.2
  · exact .inl h2
  · refine .inr ⟨by omega, ?_⟩
    have a1 : ¬ a.1.lt b.1 := fun k => h1 (.inr ⟨by omega, k⟩)
    rcases Classical.em (b.1.lt a.1) with k | k
    · exact k
    · exact absurd (Nm.lt_total a.1 b.1 a1 k) h
theorem ins_sorted {l : List (Nm × Nat)} {p : Nm × Nat} (h : l.Pairwise aheadP) (hp : p.1 ∉ l.map (·.1)) : (ins l p).Pairwise aheadP := by
  have hlt : ∀ j (hj : j < insAt l p) (hl : j < l.length), aheadP l[j] p := fun j hj hl => by
    have := List.not_of_lt_findIdx (p := fun q => decide (¬ aheadP q p)) (xs := l) (i := j) hj
    simpa using this
  have hge : ∀ q ∈ l.drop (insAt l p), aheadP p q := by
    intro q hq
    have hk : insAt l p < l.length := by
      rcases Nat.lt_or_ge (insAt l p) l.length with h' | h'
      · exact h'
      · rw [List.drop_of_length_le h'] at hq; cases hq
    have hx : ¬ aheadP l[insAt l p] p := by
      have := List.findIdx_getElem (p := fun q => decide (¬ aheadP q p)) (xs := l) (w := hk)
      exact of_decide_eq_true this
    have hf : aheadP p l[insAt l p] := ahead_total (fun e => hp (e ▸ List.mem_map.2 ⟨_, List.getElem_mem hk, rfl⟩)) hx
    rw [List.drop_eq_getElem_cons hk] at hq
    rcases List.mem_cons.1 hq with rfl | hq
    · exact hf
    · have h2 : (l.drop (insAt l p)).Pairwise aheadP := h.sublist (List.drop_sublist _ _)
      rw [List.drop_eq_getElem_cons hk, List.pairwise_cons] at h2
      exact ahead_trans hf (h2.1 q hq)
  unfold ins
  rw [List.pairwise_append, List.pairwise_cons]
  refine ⟨h.sublist (List.take_sublist _ _), ⟨hge, h.sublist (List.drop_sublist _ _)⟩, fun a ha b hb => ?_⟩
  obtain ⟨j, hj, rfl⟩ := List.getElem_of_mem ha
  have hj' := hj
  rw [List.length_take] at hj'
  have hap : aheadP (l.take (insAt l p))[j] p := by
    rw [List.getElem_take]
    exact hlt j (by omega) (by omega)
  rcases List.mem_cons.1 hb with rfl | hb
  · exact hap
  · exact ahead_trans hap (hge b hb)

section
variable {s : Clk} {r : Ref}
theorem Rel.get (h : Rel s r) (hn : (s.at_.map (·.1)).Nodup) (n : Nm) : My.get r.l n = My.get s.at_ n := get_perm h.perm hn n
theorem Rel.setE (h : Rel s r) (hn : (s.at_.map (·.1)).Nodup) (hf : s.at_.length ≤ 1024) (n : Nm) (a : Nat) : r.setE n a = s.setE n a := by
  unfold Ref.setE Clk.setE
  rw [h.now, h.get hn, h.perm.length_eq]
  congr 2
  have : (My.get s.at_ n = none ∧ 1024 ≤ s.at_.length) = ((My.get s.at_ n).isNone = true ∧ s.at_.length = 1024) := by
    rw [eq_iff_iff, Option.isNone_iff_eq_none]
    constructor
    · rintro ⟨h1, h2⟩; exact ⟨h1, by omega⟩
    · rintro ⟨h1, h2⟩; exact ⟨h1, by omega⟩
  simp only [this]
theorem Rel.del (h : Rel s r) (n : Nm) : (My.del r.l n).Perm (My.del s.at_ n) := h.perm.filter _
theorem Rel.stop (h : Rel s r) (hn : (s.at_.map (·.1)).Nodup) (n : Nm) : Rel (s.stop n) (r.stop n) := by
  refine ⟨h.now, h.del n, h.sorted.sublist List.filter_sublist, fun m t hm => ?_⟩
  simp only [Clk.stop, get_del hn] at hm
  split at hm
  · cases hm
  · exact h.later m t hm
theorem Rel.set (h : Rel s r) (hn : (s.at_.map (·.1)).Nodup) (hf : s.at_.length ≤ 1024) (n : Nm) (a : Nat) : Rel (s.set n a) (r.set n a) := by
  have hl := Later.set h.later hn n a
  unfold Ref.set
  rw [h.setE hn hf]
  unfold Clk.set at hl ⊢
  split
  · rename_i he
    rw [if_pos he] at hl
    refine ⟨h.now, ?_, ?_, hl⟩
    · have h1 : My.get (My.del s.at_ n) n = none := by rw [get_del hn, if_pos rfl]
      show (ins _ _).Perm (put _ _ _)
      rw [put_of_none h1, h.now]
      refine (ins_perm _ _).trans ?_
      refine (List.Perm.cons _ (h.del n)).trans ?_
      exact (List.perm_append_singleton _ _).symm
    · exact ins_sorted (h.sorted.sublist List.filter_sublist) (not_mem_del r.l n)
  · rename_i he
    rw [if_neg he] at hl
    exact h
theorem left_eq {T : Nat} : ∀ {l : List (Nm × Nat)}, l.Pairwise aheadP → (∀ p ∈ l, T ≤ p.2) → rangL T l = l.filter (fun p => p.2 = T) ∧ leftL T l = l.filter (fun p => ¬ p.2 = T)
  | [], _, _ => by simp [rangL, leftL]
  | p :: l, h, hT => by
    rw [List.pairwise_cons] at h
    have ih := left_eq (T := T) h.2 (fun q hq => hT q (List.mem_cons_of_mem _ hq))
    by_cases hp : p.2 = T
    · obtain ⟨h1, h2⟩ := ih
      unfold rangL at h1
      unfold leftL at h2
      simp [rangL, leftL, hp, h1, h2]
    · have hno : ∀ q ∈ p :: l, ¬ q.2 = T := by
        intro q hq
        rcases List.mem_cons.1 hq with rfl | hq
        · exact hp
        · have h1 := h.1 q hq
          have h2 := hT p List.mem_cons_self
          unfold aheadP at h1
          omega
      have e1 : (p :: l).filter (fun p => p.2 = T) = [] := by
        rw [List.filter_eq_nil_iff]
        intro q hq
        simpa using hno q hq
      have e2 : (p :: l).filter (fun p => ¬ p.2 = T) = p :: l := by
        rw [List.filter_eq_self]
        intro q hq
        simpa using hno q hq
      rw [e1, e2]
      simp [rangL, leftL, hp]
theorem Rel.due (h : Rel s r) (hn : (s.at_.map (·.1)).Nodup) : ∀ p ∈ r.l, s.now + 1 ≤ p.2 := fun p hp => h.later p.1 p.2 ((get_some_iff hn).2 (h.perm.mem_iff.1 hp))
theorem Rel.tick (h : Rel s r) (hn : (s.at_.map (·.1)).Nodup) : Rel s.tick r.tick := by
  obtain ⟨h1, h2⟩ := left_eq h.sorted (h.due hn)
  have e : r.tick.l = r.l.filter (fun p => ¬ p.2 = s.now + 1) := by unfold Ref.tick; rw [h.now]; exact h2
  refine ⟨?_, ?_, ?_, Later.tick h.later hn⟩
  · show r.now + 1 = s.now + 1; rw [h.now]
  · rw [e]; exact h.perm.filter _
  · rw [e]; exact h.sorted.sublist List.filter_sublist
theorem Rel.rang (h : Rel s r) (hn : (s.at_.map (·.1)).Nodup) : r.rang = s.rung := by
  obtain ⟨h1, h2⟩ := left_eq h.sorted (h.due hn)
  have e : r.rang = (r.l.filter (fun p => p.2 = s.now + 1)).map (·.1) := by unfold Ref.rang; rw [h.now, h1]
  have hs : r.rang.Pairwise (fun a b => leNm a b = true) := by
    rw [e, List.pairwise_map]
    have h3 : (r.l.filter (fun p => p.2 = s.now + 1)).Pairwise aheadP := h.sorted.sublist List.filter_sublist
    refine h3.imp_of_mem ?_
    intro a b ha hb hab
    simp only [List.mem_filter, decide_eq_true_eq] at ha hb
    rw [leNm_iff]
    unfold aheadP Nm.lt at *
    omega
  have hp : r.rang.Perm (Due (s.now + 1) s.at_) := by
    rw [e]
    unfold Due
    exact (h.perm.filter _).map _
  unfold Clk.rung
  rw [← sortNm_perm hp]
  unfold sortNm
  exact (List.mergeSort_of_pairwise hs).symm
theorem Rel.order (h : Rel s r) (hn : (s.at_.map (·.1)).Nodup) : s.order = r.l.map (·.1) := by
  have hn' : (r.l.map (·.1)).Nodup := ((h.perm.map (·.1)).nodup_iff).2 hn
  have hs : (r.l.map (·.1)).Pairwise (fun a b => leT s.at_ a b = true) := by
    rw [List.pairwise_map]
    refine h.sorted.imp_of_mem ?_
    intro a b ha hb hab
    have ta : timeOf s.at_ a.1 = a.2 := by unfold timeOf; rw [← h.get hn, mem_get hn' (show (a.1, a.2) ∈ r.l from ha)]; rfl
    have tb : timeOf s.at_ b.1 = b.2 := by unfold timeOf; rw [← h.get hn, mem_get hn' (show (b.1, b.2) ∈ r.l from hb)]; rfl
    rw [leT_iff]
    unfold tlt
    rw [ta, tb]
    unfold aheadP Nm.lt at *
    omega
  unfold Clk.order
  rw [← sortT_perm s.at_ (h.perm.map (·.1))]
  unfold sortT
  exact List.mergeSort_of_pairwise hs
theorem Rel.next (h : Rel s r) (hn : (s.at_.map (·.1)).Nodup) {p : Nm × Nat} {q : List (Nm × Nat)} (he : r.l = p :: q) : ∃ o, s.order = p.1 :: o ∧ timeOf s.at_ p.1 = p.2 := by
  have hn' : (r.l.map (·.1)).Nodup := ((h.perm.map (·.1)).nodup_iff).2 hn
  refine ⟨q.map (·.1), by rw [h.order hn, he]; rfl, ?_⟩
  unfold timeOf
  rw [← h.get hn, mem_get hn' (show (p.1, p.2) ∈ r.l by rw [he]; simp)]
  rfl
end
end Go.Proofs.Ytkalckpfepanaaa

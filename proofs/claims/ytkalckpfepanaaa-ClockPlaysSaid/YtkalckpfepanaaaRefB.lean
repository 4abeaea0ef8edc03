/- The reference's clock: Until, Stop. -/
import Derived.Test.YtkalckpfepanaaaRefA
namespace Go.Proofs.Ytkalckpfepanaaa
set_option linter.unusedVariables false
set_option linter.unusedSimpArgs false
set_option linter.unusedSectionVars false
open Go.My Go.RowKit Go.ChangeMaps
set_option maxHeartbeats 400000
set_option maxRecDepth 100000

theorem place_cases {l : List (Nm × Nat)} (hn : (l.map (·.1)).Nodup) (n : Nm) :
    (∃ k, ∃ hk : k < l.length, placeR l n = k ∧ l[k].1 = n ∧ get l n = some l[k].2 ∧ del l n = l.take k ++ l.drop (k + 1)) ∨ (placeR l n = -1 ∧ get l n = none ∧ del l n = l) := by
  cases hg : get l n with
  | none =>
    right
    have hno : ∀ p ∈ l, p.1 ≠ n := fun p hp e => by
      have := mem_get hn (show (p.1, p.2) ∈ l from hp)
      rw [e, hg] at this; cases this
    exact ⟨placeR_none (fun j hj => hno _ (List.getElem_mem hj)), rfl, del_eq_self hg⟩
  | some t =>
    left
    have hm := (get_some_iff hn).1 hg
    obtain ⟨k, hk, he⟩ := List.getElem_of_mem hm
    have hk1 : l[k].1 = n := by rw [he]
    have huniq : ∀ j (hj : j < l.length), l[j].1 = n → j = k := fun j hj hjn => by
      have h := List.pairwise_iff_getElem.1 hn
      rcases Nat.lt_trichotomy j k with h2 | h2 | h2
      · have := h j k (by simpa using hj) (by simpa using hk) h2
        simp [hjn, hk1] at this
      · exact h2
      · have := h k j (by simpa using hk) (by simpa using hj) h2
        simp [hjn, hk1] at this
    refine ⟨k, hk, placeR_at hk hk1 (fun j hj hjl e => by have := huniq j hjl e; omega), hk1, by rw [he], ?_⟩
    unfold del
    have hsplit : l = l.take k ++ l[k] :: l.drop (k + 1) := by
      rw [← List.drop_eq_getElem_cons hk, List.take_append_drop]
    conv => lhs; rw [hsplit]
    rw [List.filter_append, List.filter_cons]
    have h1 : (l.take k).filter (fun p => p.1 ≠ n) = l.take k := by
      rw [List.filter_eq_self]
      intro p hp
      obtain ⟨j, hj, rfl⟩ := List.getElem_of_mem hp
      simp only [List.length_take] at hj
      rw [List.getElem_take]
      simp only [ne_eq, decide_eq_true_eq]
      intro e
      have := huniq j (by omega) e
      omega
    have h2 : (l.drop (k + 1)).filter (fun p => p.1 ≠ n) = l.drop (k + 1) := by
      rw [List.filter_eq_self]
      intro p hp
      obtain ⟨j, hj, rfl⟩ := List.getElem_of_mem hp
      simp only [List.length_drop] at hj
      rw [List.getElem_drop]
      simp only [ne_eq, decide_eq_true_eq]
      intro e
      have := huniq (k + 1 + j) (by omega) e
      omega
    simp only [hk1, ne_eq, not_true, decide_false, Bool.false_eq_true, if_false] at *
    rw [h1, h2]

theorem until_ref {w : World} {R : Nat} {s : Ref} (h : RefIn w R s) (n : Nm) :
    Calls Try.prog 23 #[rptr R, encN n] w fun e w' => e = .returned (.tuple #[encU ((get s.l n).getD 0), .bool (get s.l n).isSome]) ∧ Upd Nil w w' := by
  have h0 := h.nil ((Upd.refl Nil w).alloc (.cells (encN n).cells 27))
  have hu := (Upd.refl Nil w).alloc (.cells (encN n).cells 27)
  have hp := place_ref h0 n
  clear h
  simp only [encN, Value.cells, encU] at *
  rcases place_cases h0.nodup n with ⟨k, hk, hpk, hkn, hg, _⟩ | ⟨hpk, hg, _⟩
  · rw [hpk] at hp
    rw [hg]
    simp only [Option.getD_some, Option.isSome_some]
    have hfew := h0.few
    go_enter Try.func23, Try.ntmps23
    go_wp2_with fail
    refine hp.mono ?_
    rintro e w1 ⟨rfl, hu1⟩
    have h1 := h0.nil hu1
    have hu1 := hu.trans hu1
    obtain ⟨v, hb1, hs1⟩ := h1.out
    obtain ⟨r0, r1⟩ := box2 hb1
    obtain ⟨b, o, hb, hidx, hcell⟩ := hs1.index (P := Try.prog) Try.underlying48 size79 hk
    have c4 : w1.cell? ⟨b, o + 4, none⟩ = some (.int .u32 s.l[k].2) := hcell 4 (by omega)
    clear hp hcell h0 hu
    have hd : decide ((k : Int) < 0) = false := decide_eq_false (by omega)
    go_wp2_with fail
    go_ret2
    exact ⟨rfl, hu1⟩
  · rw [hpk] at hp
    rw [hg]
    simp only [Option.getD_none, Option.isSome_none]
    go_enter Try.func23, Try.ntmps23
    go_wp2_with fail
    refine hp.mono ?_
    rintro e w1 ⟨rfl, hu1⟩
    have hu1 := hu.trans hu1
    clear hp h0 hu
    go_wp2_with fail
    go_ret2
    exact ⟨rfl, hu1⟩
end Go.Proofs.Ytkalckpfepanaaa

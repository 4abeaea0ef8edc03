/- Worlds that have only grown (blocks behind, draws): what a comparison leaves. Plain theorems. -/
import Derived.Test.YtkalckpfepanaaaBase
import Derived.Test.YtkalckpfepanaaaReg
import Derived.Test.YtkalckpfepanaaaRegS
import Derived.Shelf.SlSortCmp.WholeK
namespace Go.My
set_option linter.unusedVariables false
set_option linter.unusedSimpArgs false
set_option linter.unusedSectionVars false
open Go.Sort Go.RowKit

def Gr (w w' : World) : Prop := ∃ q os, w' = grow (w.drewN q) os
theorem drewN_eq (w : World) (n : Nat) : w.drewN n = { w with drawn := w.drawn + n } := by
  cases w; rfl
section
variable {w w' a b c : World}
theorem Gr.refl (w : World) : Gr w w := ⟨0, #[], by rw [grow_empty]; rw [drewN_eq]; rfl⟩
theorem Gr.trans (h : Gr a b) (k : Gr b c) : Gr a c := by
  obtain ⟨q, os, rfl⟩ := h
  obtain ⟨q', os', rfl⟩ := k
  refine ⟨q + q', os ++ os', ?_⟩
  simp only [drewN_eq, grow, Array.append_assoc, Nat.add_assoc]
theorem Gr.alloc (h : Gr a w) (o : Obj) : Gr a (w.alloc o) := h.trans ⟨0, #[o], by rw [alloc_eq_grow, drewN_eq]; rfl⟩
theorem Gr.drew (h : Gr a w) : Gr a w.drew := h.trans ⟨1, #[], by rw [grow_empty, drewN_eq]; rfl⟩
theorem Gr.upd (h : Gr w w') : Upd Nil w w' := by
  obtain ⟨q, os, rfl⟩ := h
  refine ⟨by rw [drewN_eq]; rfl, by rw [drewN_eq]; rfl, by rw [drewN_eq]; rfl, by simp [grow, drewN_eq], fun i hi _ => ?_⟩
  simp only [grow, drewN_eq]
  rw [Array.getElem?_append_left hi]
theorem Gr.keep (h : Gr w w') {p : Nat} {o : Obj} (hb : w.heap[p]? = some o) : w'.heap[p]? = some o := h.upd.keep hb (fun k => k)
end

section
variable {P : Program} {ops : Array Oper} {C : World → Prop} {Q : Act → Prop}
attribute [go_sem] Oper.quietAt Oper.quietUpon
theorem wpQuiet_plain {a : Act} {o : Oper} {rest : List Oper} {v : Value} (hg : o.guard = none) (h1 : ∀ w, C w → o.quietAt P a C w v) (h2 : wpQuiet P ops C Q rest (a.put o.dst v)) : wpQuiet P ops C Q (o :: rest) a := by
  unfold wpQuiet
  rw [if_pos (by simp [Region.wanted, hg])]
  exact ⟨v, h1, h2⟩
theorem wpQuiet_want {a : Act} {o : Oper} {rest : List Oper} {v : Value} (hw : Region.wanted o (yielded ops a.tmps) = true) (h1 : ∀ w, C w → o.quietAt P a C w v) (h2 : wpQuiet P ops C Q rest (a.put o.dst v)) : wpQuiet P ops C Q (o :: rest) a := by
  unfold wpQuiet
  rw [if_pos hw]
  exact ⟨v, h1, h2⟩
theorem wpQuiet_pass {a : Act} {o : Oper} {rest : List Oper} (hw : Region.wanted o (yielded ops a.tmps) = false) (h2 : wpQuiet P ops C Q rest (a.put o.dst undef)) : wpQuiet P ops C Q (o :: rest) a := by
  unfold wpQuiet
  rw [if_neg (by rw [hw]; simp)]
  exact h2
/-- many operations that are not wanted -/
def putU : List Oper → Act → Act
  | [], a => a
  | o :: l, a => putU l (a.put o.dst undef)
def noneWanted (ops : Array Oper) : List Oper → Act → Bool
  | [], _ => true
  | o :: l, a => !(Region.wanted o (yielded ops a.tmps)) && noneWanted ops l (a.put o.dst undef)
theorem wpQuiet_passes : ∀ (l1 l2 : List Oper) (a : Act), noneWanted ops l1 a = true → wpQuiet P ops C Q l2 (putU l1 a) → wpQuiet P ops C Q (l1 ++ l2) a
  | [], _, _, _, h => h
  | o :: l1, l2, a, hw, h => by
    simp only [noneWanted, Bool.and_eq_true, Bool.not_eq_true'] at hw
    exact wpQuiet_pass hw.1 (wpQuiet_passes l1 l2 _ hw.2 h)
/-- a plain one, and n behind it that are not wanted (one by one the elaborator would reckon them all at each step) -/
theorem wpQuiet_plain_passes {a : Act} {o : Oper} {rest : List Oper} {v : Value} (n : Nat) (hg : o.guard = none) (h1 : ∀ w, C w → o.quietAt P a C w v) (hw : noneWanted ops (rest.take n) (a.put o.dst v) = true)
    (h2 : wpQuiet P ops C Q (rest.drop n) (putU (rest.take n) (a.put o.dst v))) : wpQuiet P ops C Q (o :: rest) a := by
  refine wpQuiet_plain hg h1 ?_
  have := wpQuiet_passes _ _ _ hw h2
  rwa [List.take_append_drop] at this
theorem wpQuiet_want_passes {a : Act} {o : Oper} {rest : List Oper} {v : Value} (n : Nat) (hg : Region.wanted o (yielded ops a.tmps) = true) (h1 : ∀ w, C w → o.quietAt P a C w v) (hw : noneWanted ops (rest.take n) (a.put o.dst v) = true)
    (h2 : wpQuiet P ops C Q (rest.drop n) (putU (rest.take n) (a.put o.dst v))) : wpQuiet P ops C Q (o :: rest) a := by
  refine wpQuiet_want hg h1 ?_
  have := wpQuiet_passes _ _ _ hw h2
  rwa [List.take_append_drop] at this
end
end Go.My

/- Worlds that turn in some blocks alone; maps as lists of pairs. Plain theorems, no program. -/
import Derived.WalkKit
import Derived.ProofKit
import Derived.Maps.RangeWalk
import Derived.Lib.Hide
import Derived.Deep.Draws
namespace Go.My
set_option linter.unusedVariables false
set_option linter.unusedSimpArgs false
set_option linter.unusedSectionVars false
open Go.RowKit Go.ChangeMaps Go.MapKept
open Go.Maps (Keyed)

/-- w' is w, but for the blocks of S and new ones. -/
structure Upd (S : Nat → Prop) (w w' : World) : Prop where
  os : w'.os = w.os
  tape : w'.tape = w.tape
  output : w'.output = w.output
  size : w.heap.size ≤ w'.heap.size
  block : ∀ b, b < w.heap.size → ¬ S b → w'.heap[b]? = w.heap[b]?

def Nil : Nat → Prop := fun _ => False

section
variable {S T : Nat → Prop} {a b c w w' : World}
theorem Upd.refl (S : Nat → Prop) (w : World) : Upd S w w := ⟨rfl, rfl, rfl, Nat.le_refl _, fun _ _ _ => rfl⟩
theorem Upd.trans (h : Upd S a b) (k : Upd S b c) : Upd S a c :=
  ⟨k.os.trans h.os, k.tape.trans h.tape, k.output.trans h.output, Nat.le_trans h.size k.size, fun i hi hs => (k.block i (Nat.lt_of_lt_of_le hi h.size) hs).trans (h.block i hi hs)⟩
theorem Upd.mono (h : Upd S a b) (hs : ∀ i, i < a.heap.size → S i → T i) : Upd T a b := ⟨h.os, h.tape, h.output, h.size, fun i hi ht => h.block i hi (fun k => ht (hs i hi k))⟩
/-- behind a step that turns blocks of T that are new, or of S -/
theorem Upd.then (h : Upd S a b) (k : Upd T b c) (hs : ∀ i, T i → i < a.heap.size → S i) : Upd S a c :=
  ⟨k.os.trans h.os, k.tape.trans h.tape, k.output.trans h.output, Nat.le_trans h.size k.size, fun i hi hn => (k.block i (Nat.lt_of_lt_of_le hi h.size) (fun ht => hn (hs i ht hi))).trans (h.block i hi hn)⟩
theorem Upd.drew (h : Upd S a w) : Upd S a w.drew := ⟨h.os, h.tape, h.output, h.size, h.block⟩
theorem Upd.drewN (h : Upd S a w) (n : Nat) : Upd S a (w.drewN n) := ⟨h.os, h.tape, h.output, h.size, h.block⟩
theorem Upd.alloc (h : Upd S a w) (o : Obj) : Upd S a (w.alloc o) :=
  ⟨h.os, h.tape, h.output, Nat.le_trans h.size (by simp), fun i hi hs => by rw [Below.heap_alloc _ _ _ (Nat.lt_of_lt_of_le hi h.size)]; exact h.block i hi hs⟩
theorem Upd.setCell (h : Upd S a w) {p : Addr} (hp : p.block < a.heap.size → S p.block) (v : Value) : Upd S a (w.setCell p v) :=
  ⟨h.os, h.tape, h.output, by simpa using h.size, fun i hi hs => by
    have hne : i ≠ p.block := fun e => by subst e; exact hs (hp hi)
    rw [Below.heap_setCell _ _ _ _ hne]; exact h.block i hi hs⟩
theorem Upd.setBlock (h : Upd S a w) {p : Nat} (hp : p < a.heap.size → S p) (o : Obj) : Upd S a (setBlock w p o) :=
  ⟨h.os, h.tape, h.output, by simpa [ChangeMaps.setBlock] using h.size, fun i hi hs => by
    have : i ≠ p := fun e => hs (e ▸ hp (e ▸ hi))
    rw [← h.block i hi hs]
    simp only [ChangeMaps.setBlock, Array.getElem?_setIfInBounds]
    rw [if_neg (Ne.symm this)]⟩
theorem Upd.of_grown {row : Option Nat} (h : a.grownBy b row) : Upd (fun i => row = some i) a b :=
  ⟨h.os, h.tape, h.output, h.size, fun i hi hn => h.block i hi (fun e => hn e.symm)⟩
theorem Upd.cell (h : Upd S w w') {p : Addr} (hp : p.block < w.heap.size) (hs : ¬ S p.block) : w'.cell? p = w.cell? p := World.cell?_of_block (w := w) (h.block _ hp hs)
theorem Upd.frozen (h : Upd S w w') {p : Addr} (hp : p.block < w.heap.size) (hs : ¬ S p.block) : w'.frozen? p = w.frozen? p := World.frozen?_of_block (w := w) (h.block _ hp hs)
theorem Upd.below {W W' : World} (h : Upd Nil W W') : Below W.heap.size W W' := ⟨h.os, h.tape, h.output, h.size, fun b hb => h.block b hb (fun k => k)⟩
theorem Upd.of_below {W W' : World} (h : Below W.heap.size W W') : Upd Nil W W' := ⟨h.os, h.tape, h.output, h.size, fun b hb _ => h.block b hb⟩
/-- a block that is there stays -/
theorem Upd.keep (h : Upd S w w') {p : Nat} {o : Obj} (hb : w.heap[p]? = some o) (hs : ¬ S p) : w'.heap[p]? = some o := by
  have : p < w.heap.size := (Array.getElem?_eq_some_iff.1 hb).1
  rw [h.block p this hs]; exact hb
end

theorem heap_lt {w : World} {p : Nat} {o : Obj} (hb : w.heap[p]? = some o) : p < w.heap.size := (Array.getElem?_eq_some_iff.1 hb).1
theorem hpNew (w : World) (o : Obj) : (w.alloc o).heap[w.heap.size]? = some o := (MapKept.heap_alloc w o).1
theorem hpOld {w : World} {p : Nat} {x : Obj} (o : Obj) (hb : w.heap[p]? = some x) : (w.alloc o).heap[p]? = some x := by
  rw [Below.heap_alloc _ _ _ (heap_lt hb)]; exact hb
theorem hpSetSame {w : World} {p : Nat} {c : Array Value} {t : TypeId} {f : Nat × Nat} (hb : w.heap[p]? = some (.cells c t f)) (o : Nat) (v : Value) :
    (w.setCell ⟨p, o, none⟩ v).heap[p]? = some (.cells (c.setIfInBounds o v) t f) := by
  simp only [World.setCell, Array.getElem?_modify, if_true, hb, Option.map_some, Option.isSome_none, Bool.false_eq_true, if_false]
theorem hpSetOther {w : World} {p : Nat} {a : Addr} {x : Obj} (v : Value) (hb : w.heap[p]? = some x) (h : p ≠ a.block) : (w.setCell a v).heap[p]? = some x := by
  rw [Below.heap_setCell _ _ _ _ h]; exact hb
theorem cell_of_heap {w : World} {p : Nat} {c : Array Value} {t : TypeId} {f : Nat × Nat} (hb : w.heap[p]? = some (.cells c t f)) (o : Nat) : w.cell? ⟨p, o, none⟩ = c[o]? := by
  simp [World.cell?, hb]
theorem frozen_of_heap {w : World} {p : Nat} {c : Array Value} {t : TypeId} (hb : w.heap[p]? = some (.cells c t (0, 0))) (o : Nat) : w.frozen? ⟨p, o, none⟩ = false := by
  simp [World.frozen?, hb]

theorem setBlock_same {w : World} {p : Nat} {x : Obj} (hb : w.heap[p]? = some x) (o : Obj) : (setBlock w p o).heap[p]? = some o := by
  simp only [setBlock, Array.getElem?_setIfInBounds, if_true, heap_lt hb]
theorem setBlock_other {w : World} {p i : Nat} (o : Obj) (h : i ≠ p) : (setBlock w p o).heap[i]? = w.heap[i]? := by
  simp only [setBlock, Array.getElem?_setIfInBounds]
  rw [if_neg (Ne.symm h)]
theorem addr_add (b j : Nat) : Addr.add ⟨b, 0, none⟩ j = ⟨b, j, none⟩ := by
  unfold Addr.add; split
  · rename_i h; rw [h]
  · simp
section
variable {w : World} {p : Nat} {t : TypeId} {f : Nat × Nat} {a0 a1 a2 a3 a4 a5 : Value}
theorem box1 (h : w.heap[p]? = some (.cells #[a0] t f)) : w.cell? ⟨p, 0, none⟩ = some a0 := cell_of_heap h 0
theorem box2 (h : w.heap[p]? = some (.cells #[a0, a1] t f)) : w.cell? ⟨p, 0, none⟩ = some a0 ∧ w.cell? ⟨p, 1, none⟩ = some a1 := ⟨cell_of_heap h 0, cell_of_heap h 1⟩
theorem box3 (h : w.heap[p]? = some (.cells #[a0, a1, a2] t f)) : w.cell? ⟨p, 0, none⟩ = some a0 ∧ w.cell? ⟨p, 1, none⟩ = some a1 ∧ w.cell? ⟨p, 2, none⟩ = some a2 := ⟨cell_of_heap h 0, cell_of_heap h 1, cell_of_heap h 2⟩
theorem box4 (h : w.heap[p]? = some (.cells #[a0, a1, a2, a3] t f)) : w.cell? ⟨p, 0, none⟩ = some a0 ∧ w.cell? ⟨p, 1, none⟩ = some a1 ∧ w.cell? ⟨p, 2, none⟩ = some a2 ∧ w.cell? ⟨p, 3, none⟩ = some a3 :=
  ⟨cell_of_heap h 0, cell_of_heap h 1, cell_of_heap h 2, cell_of_heap h 3⟩
theorem box5 (h : w.heap[p]? = some (.cells #[a0, a1, a2, a3, a4] t f)) : w.cell? ⟨p, 0, none⟩ = some a0 ∧ w.cell? ⟨p, 1, none⟩ = some a1 ∧ w.cell? ⟨p, 2, none⟩ = some a2 ∧ w.cell? ⟨p, 3, none⟩ = some a3 ∧ w.cell? ⟨p, 4, none⟩ = some a4 :=
  ⟨cell_of_heap h 0, cell_of_heap h 1, cell_of_heap h 2, cell_of_heap h 3, cell_of_heap h 4⟩
theorem box6 (h : w.heap[p]? = some (.cells #[a0, a1, a2, a3, a4, a5] t f)) : w.cell? ⟨p, 0, none⟩ = some a0 ∧ w.cell? ⟨p, 1, none⟩ = some a1 ∧ w.cell? ⟨p, 2, none⟩ = some a2 ∧ w.cell? ⟨p, 3, none⟩ = some a3 ∧ w.cell? ⟨p, 4, none⟩ = some a4 ∧ w.cell? ⟨p, 5, none⟩ = some a5 :=
  ⟨cell_of_heap h 0, cell_of_heap h 1, cell_of_heap h 2, cell_of_heap h 3, cell_of_heap h 4, cell_of_heap h 5⟩
end
/-! ### Maps -/
/-- The keys of type k are the values of κ. -/
structure KeyE (P : Program) (k : TypeId) {κ : Type} (ek : κ → Value) : Prop where
  keyed : Keyed P k
  key : ∀ a, ∃ l, keyOf P k (ek a) = some l
  inj : ∀ a b, ek a = ek b → a = b

section
variable {κ ν : Type} [DecidableEq κ]
def put (l : List (κ × ν)) (a : κ) (v : ν) : List (κ × ν) := if a ∈ l.map (·.1) then l.map (fun p => if p.1 = a then (a, v) else p) else l ++ [(a, v)]
def del (l : List (κ × ν)) (a : κ) : List (κ × ν) := l.filter (fun p => p.1 ≠ a)
def get (l : List (κ × ν)) (a : κ) : Option ν := (l.find? (fun p => p.1 = a)).map (·.2)

theorem get_none {l : List (κ × ν)} {a : κ} : get l a = none ↔ a ∉ l.map (·.1) := by
  simp only [get, Option.map_eq_none_iff, List.find?_eq_none, decide_eq_true_eq, List.mem_map, not_exists, not_and]
theorem get_some_mem {l : List (κ × ν)} {a : κ} {v : ν} (h : get l a = some v) : (a, v) ∈ l := by
  simp only [get, Option.map_eq_some_iff] at h
  obtain ⟨p, hp, rfl⟩ := h
  have h1 := List.find?_some hp
  have h2 := List.mem_of_find?_eq_some hp
  simp at h1
  rw [← h1]; exact h2
theorem mem_get {l : List (κ × ν)} (hn : (l.map (·.1)).Nodup) {a : κ} {v : ν} (h : (a, v) ∈ l) : get l a = some v := by
  induction l with
  | nil => cases h
  | cons p l ih =>
    simp only [List.map_cons, List.nodup_cons] at hn
    rcases List.mem_cons.1 h with rfl | h
    · simp [get]
    · have hne : p.1 ≠ a := fun e => hn.1 (List.mem_map.2 ⟨_, h, e.symm⟩)
      have := ih hn.2 h
      simpa [get, hne] using this
theorem get_some_iff {l : List (κ × ν)} (hn : (l.map (·.1)).Nodup) {a : κ} {v : ν} : get l a = some v ↔ (a, v) ∈ l := ⟨get_some_mem, mem_get hn⟩
theorem map_fst_put (l : List (κ × ν)) (a : κ) (v : ν) : (put l a v).map (·.1) = if a ∈ l.map (·.1) then l.map (·.1) else l.map (·.1) ++ [a] := by
  unfold put
  split
  · rw [List.map_map]
    apply List.map_congr_left
    intro p _
    by_cases h : p.1 = a <;> simp [h]
  · simp
theorem nodup_put {l : List (κ × ν)} (hn : (l.map (·.1)).Nodup) (a : κ) (v : ν) : ((put l a v).map (·.1)).Nodup := by
  rw [map_fst_put]
  split
  · exact hn
  · rename_i h
    rw [List.nodup_append]
    exact ⟨hn, by simp, fun x hx y hy => by simp at hy; subst hy; exact fun e => h (e ▸ hx)⟩
theorem nodup_del {l : List (κ × ν)} (hn : (l.map (·.1)).Nodup) (a : κ) : ((del l a).map (·.1)).Nodup := by
  unfold del
  exact hn.sublist ((List.filter_sublist).map _)
theorem mem_put {l : List (κ × ν)} {a : κ} {v : ν} {p : κ × ν} : p ∈ put l a v ↔ p = (a, v) ∨ (p ∈ l ∧ p.1 ≠ a) := by
  unfold put
  split
  · rename_i h
    simp only [List.mem_map]
    constructor
    · rintro ⟨q, hq, rfl⟩
      by_cases e : q.1 = a
      · simp [e]
      · simp [e, hq]
    · rintro (rfl | ⟨h1, h2⟩)
      · simp only [List.mem_map] at h
        obtain ⟨q, hq, rfl⟩ := h
        exact ⟨q, hq, by simp⟩
      · exact ⟨p, h1, by simp [h2]⟩
  · rename_i h
    simp only [List.mem_append, List.mem_singleton]
    constructor
    · rintro (h1 | rfl)
      · exact .inr ⟨h1, fun e => h (List.mem_map.2 ⟨p, h1, e⟩)⟩
      · exact .inl rfl
    · rintro (rfl | ⟨h1, _⟩)
      · exact .inr rfl
      · exact .inl h1
theorem mem_del {l : List (κ × ν)} {a : κ} {p : κ × ν} : p ∈ del l a ↔ p ∈ l ∧ p.1 ≠ a := by simp [del]
theorem get_put {l : List (κ × ν)} (hn : (l.map (·.1)).Nodup) (a x : κ) (v : ν) : get (put l a v) x = if x = a then some v else get l x := by
  by_cases h : x = a
  · subst h
    rw [if_pos rfl, get_some_iff (nodup_put hn _ _), mem_put]
    exact .inl rfl
  · rw [if_neg h]
    cases hg : get l x with
    | some u =>
      rw [get_some_iff (nodup_put hn _ _), mem_put]
      exact .inr ⟨get_some_mem hg, h⟩
    | none =>
      rw [get_none] at hg ⊢
      rw [map_fst_put]
      split
      · exact hg
      · simp [h] at hg ⊢; exact hg
theorem get_del {l : List (κ × ν)} (hn : (l.map (·.1)).Nodup) (a x : κ) : get (del l a) x = if x = a then none else get l x := by
  by_cases h : x = a
  · subst h
    rw [if_pos rfl, get_none]
    simp [del]
  · rw [if_neg h]
    cases hg : get l x with
    | some u =>
      rw [get_some_iff (nodup_del hn _), mem_del]
      exact ⟨get_some_mem hg, h⟩
    | none =>
      rw [get_none] at hg ⊢
      intro hm
      simp only [del, List.mem_map, List.mem_filter] at hm
      obtain ⟨p, ⟨hp, _⟩, rfl⟩ := hm
      exact hg (List.mem_map.2 ⟨p, hp, rfl⟩)
theorem del_eq_self {l : List (κ × ν)} {a : κ} (h : get l a = none) : del l a = l := by
  rw [get_none] at h
  unfold del
  rw [List.filter_eq_self]
  intro p hp
  simp only [decide_eq_true_eq, ne_eq]
  exact fun e => h (List.mem_map.2 ⟨p, hp, e⟩)
theorem length_put {l : List (κ × ν)} (a : κ) (v : ν) : (put l a v).length = if (get l a).isSome then l.length else l.length + 1 := by
  have : (put l a v).length = ((put l a v).map (·.1)).length := by simp
  rw [this, map_fst_put]
  by_cases h : a ∈ l.map (·.1)
  · rw [if_pos h]
    have : (get l a).isSome = true := by
      cases hg : get l a with
      | none => exact absurd h (get_none.1 hg)
      | some _ => rfl
    simp [this]
  · rw [if_neg h]
    have : get l a = none := get_none.2 h
    simp [this]
theorem put_of_none {l : List (κ × ν)} {a : κ} (h : get l a = none) (v : ν) : put l a v = l ++ [(a, v)] := by
  unfold put; rw [if_neg (get_none.1 h)]
theorem length_del {l : List (κ × ν)} (hn : (l.map (·.1)).Nodup) (a : κ) : (del l a).length = if (get l a).isSome then l.length - 1 else l.length := by
  cases hg : get l a with
  | none => rw [del_eq_self hg]; rfl
  | some v =>
    simp only [Option.isSome_some, if_true]
    have hm := get_some_mem hg
    clear hg
    induction l with
    | nil => cases hm
    | cons p l ih =>
      simp only [List.map_cons, List.nodup_cons] at hn
      by_cases e : p.1 = a
      · have h2 : del l a = l := by
          apply del_eq_self
          rw [get_none, ← e]
          exact hn.1
        have : del (p :: l) a = del l a := by simp [del, e]
        rw [this, h2]; simp
      · have h2 : (a, v) ∈ l := by
          rcases List.mem_cons.1 hm with rfl | h
          · exact absurd rfl e
          · exact h
        have h3 := ih hn.2 h2
        have : del (p :: l) a = p :: del l a := by simp [del, e]
        rw [this, List.length_cons, h3, List.length_cons]
        have : 0 < l.length := List.length_pos_of_mem h2
        omega

theorem perm_of_mem {α : Type} [DecidableEq α] : ∀ {l1 l2 : List α}, l1.Nodup → l2.Nodup → (∀ x, x ∈ l1 ↔ x ∈ l2) → l1.Perm l2
  | [], l2, _, _, h => by
    have : l2 = [] := List.eq_nil_iff_forall_not_mem.2 (fun x hx => by have := (h x).2 hx; cases this)
    rw [this]
  | a :: l1, l2, h1, h2, h => by
    have ha : a ∈ l2 := (h a).1 (by simp)
    rw [List.nodup_cons] at h1
    have h3 := perm_of_mem h1.2 (h2.sublist (List.erase_sublist (a := a))) (fun x => by
      rw [h2.mem_erase_iff]
      constructor
      · intro hx
        exact ⟨fun e => h1.1 (e ▸ hx), (h x).1 (by simp [hx])⟩
      · rintro ⟨hx, hx2⟩
        rcases List.mem_cons.1 ((h x).2 hx2) with e | e
        · exact absurd e hx
        · exact e)
    exact (List.Perm.cons a h3).trans (List.perm_cons_erase ha).symm
theorem nodup_of_keys {l : List (κ × ν)} (hn : (l.map (·.1)).Nodup) : l.Nodup := by
  induction l with
  | nil => simp
  | cons p l ih =>
    simp only [List.map_cons, List.nodup_cons] at hn ⊢
    exact ⟨fun h => hn.1 (List.mem_map.2 ⟨p, h, rfl⟩), ih hn.2⟩

/-- Block b of w is a map that holds l, in the order in which the keys came. -/
def MapOf (P : Program) (k : TypeId) (ek : κ → Value) (ev : ν → Value) (w : World) (b : Nat) (l : List (κ × ν)) : Prop :=
  ∃ es clock, w.heap[b]? = some (.map es clock) ∧ es.toList.map (fun e => (e.key, e.val)) = l.map (fun p => (ek p.1, ev p.2)) ∧
    (es.toList.map (·.born)).Pairwise (· < ·) ∧ (∀ e ∈ es.toList, e.born < clock) ∧ (l.map (·.1)).Nodup

variable {P : Program} {k e t : TypeId} {ek : κ → Value} {ev : ν → Value} {w w' : World} {b : Nat} {l : List (κ × ν)}

theorem MapOf.nodup (h : MapOf P k ek ev w b l) : (l.map (·.1)).Nodup := by obtain ⟨_, _, _, _, _, _, h⟩ := h; exact h
theorem MapOf.lt (h : MapOf P k ek ev w b l) : b < w.heap.size := by obtain ⟨_, _, h, _⟩ := h; exact heap_lt h
theorem MapOf.congr (h : MapOf P k ek ev w b l) (hb : w'.heap[b]? = w.heap[b]?) : MapOf P k ek ev w' b l := by
  obtain ⟨es, clock, h1, r⟩ := h; exact ⟨es, clock, hb.trans h1, r⟩
theorem MapOf.upd {S : Nat → Prop} (h : MapOf P k ek ev w b l) (hu : Upd S w w') (hs : ¬ S b) : MapOf P k ek ev w' b l := h.congr (hu.block b h.lt hs)
theorem MapOf.alloc (h : MapOf P k ek ev w b l) (o : Obj) : MapOf P k ek ev (w.alloc o) b l := h.congr (Below.heap_alloc _ _ _ h.lt)
theorem MapOf.drew (h : MapOf P k ek ev w b l) : MapOf P k ek ev w.drew b l := h
theorem MapOf.setCell (h : MapOf P k ek ev w b l) (a : Addr) (v : Value) (hne : b ≠ a.block) : MapOf P k ek ev (w.setCell a v) b l := h.congr (Below.heap_setCell _ _ _ _ hne)
theorem MapOf.made (w : World) : MapOf P k ek ev (w.alloc (.map #[] 0)) w.heap.size [] := ⟨#[], 0, hpNew _ _, by simp, by simp, by simp, by simp⟩

theorem find_at (K : KeyE P k ek) {es : List MapEntry} (hl : es.map (fun e => (e.key, e.val)) = l.map (fun p => (ek p.1, ev p.2))) (hn : (l.map (·.1)).Nodup) (a : κ) (w : World) :
    (get l a = none ∧ (Instr.findKey k (ek a) es).run P w = .ok none w) ∨
    ∃ j e v, get l a = some v ∧ (Instr.findKey k (ek a) es).run P w = .ok (some (j, ev v)) w ∧ es[j]? = some e ∧ l[j]? = some (a, v) ∧ e.key = ek a := by
  obtain ⟨la, hla⟩ := K.key a
  have hes : ∀ e ∈ es, ∃ q : κ × ν, q ∈ l ∧ e.key = ek q.1 ∧ e.val = ev q.2 := by
    intro e he
    have h1 : (e.key, e.val) ∈ l.map (fun p => (ek p.1, ev p.2)) := hl ▸ List.mem_map.2 ⟨e, he, rfl⟩
    obtain ⟨q, hq, hqe⟩ := List.mem_map.1 h1
    simp only [Prod.mk.injEq] at hqe
    exact ⟨q, hq, hqe.1.symm, hqe.2.symm⟩
  rcases K.keyed.find w hla es (fun e he => by obtain ⟨q, _, h1, _⟩ := hes e he; rw [h1]; exact K.key _) with ⟨h1, h2⟩ | ⟨j, e0, h1, h2, h3⟩
  · refine .inl ⟨?_, h1⟩
    rw [get_none]
    intro hm
    obtain ⟨q, hq, rfl⟩ := List.mem_map.1 hm
    have h4 : (ek q.1, ev q.2) ∈ es.map (fun e => (e.key, e.val)) := hl ▸ List.mem_map.2 ⟨q, hq, rfl⟩
    obtain ⟨e1, he1, he2⟩ := List.mem_map.1 h4
    simp only [Prod.mk.injEq] at he2
    exact h2 e1 he1 he2.1
  · have h4 : (es.map (fun e => (e.key, e.val)))[j]? = some (e0.key, e0.val) := by simp [h2]
    rw [hl] at h4
    simp only [List.getElem?_map, Option.map_eq_some_iff] at h4
    obtain ⟨q, hq, hqe⟩ := h4
    simp only [Prod.mk.injEq] at hqe
    have hqa : q.1 = a := K.inj _ _ (hqe.1.trans h3)
    refine .inr ⟨j, e0, q.2, mem_get hn ?_, by rw [h1, hqe.2], h2, ?_, h3⟩
    · have := List.mem_of_getElem? hq; rw [← hqa]; exact this
    · rw [hq, ← hqa]

theorem getObj_map {es : Array MapEntry} {clock : Nat} (h : w.heap[b]? = some (.map es clock)) : (getObj b).run P w = .ok (.map es clock) w := by simp [getObj, Sem.run, h]
theorem setObj_map {es : Array MapEntry} {clock : Nat} (h : w.heap[b]? = some (.map es clock)) (o : Obj) : (setObj b o).run P w = .ok () (setBlock w b o) := by simp [setObj, Sem.run, h, setBlock]

theorem run_underlying {d : TypeDesc} (h : P.underlying t = some d) : (underlying t).run P w = .ok d w := by simp [underlying, program, Sem.run_bind, Sem.run, h, Result.andThen, pure]

/-- 'm[k]', 'v, ok := m[k]' -/
theorem MapOf.lookup (h : MapOf P k ek ev w b l) (K : KeyE P k ek) (ht : P.underlying t = some (.map k e)) {z : Value} (hz : (zeroValue e).run P w = .ok z w) (a : κ) (ok : Bool) :
    (Instr.lookup t (.map (some b)) (ek a) ok).run P w = .ok (if ok then .tuple #[((get l a).map ev).getD z, .bool (get l a).isSome] else ((get l a).map ev).getD z) w := by
  obtain ⟨es, clock, hb, hl, _, _, hn⟩ := h
  obtain ⟨la, hla⟩ := K.key a
  simp only [Instr.lookup, Sem.run_bind, run_underlying ht, Result.andThen, getObj_map hb, Sem.run, pure, K.keyed.check w _ hla]
  rcases find_at K hl hn a w with ⟨h1, h2⟩ | ⟨j, e0, v, h1, h2, _⟩
  · simp [h2, h1, hz, Result.andThen, Sem.run_bind, Sem.run]
  · simp [h2, h1, Result.andThen, Sem.run]

theorem set_map_put (hn : (l.map (·.1)).Nodup) {j : Nat} {a : κ} {u : ν} (hj : l[j]? = some (a, u)) (v : ν) : l.set j (a, v) = put l a v := by
  have hm : a ∈ l.map (·.1) := List.mem_map.2 ⟨_, List.mem_of_getElem? hj, rfl⟩
  unfold put
  rw [if_pos hm]
  apply List.ext_getElem?
  intro i
  rw [List.getElem?_set, List.getElem?_map]
  have hjl : j < l.length := (List.getElem?_eq_some_iff.1 hj).1
  by_cases h : j = i
  · subst h
    rw [hj]; simp [hjl]
  · rw [if_neg h]
    cases hi : l[i]? with
    | none => rfl
    | some q =>
      have : q.1 ≠ a := by
        intro e
        have hil : i < l.length := (List.getElem?_eq_some_iff.1 hi).1
        have h1 : (l.map (·.1))[i]'(by simpa using hil) = (l.map (·.1))[j]'(by simpa using hjl) := by
          have e1 := (List.getElem?_eq_some_iff.1 hi).2
          have e2 := (List.getElem?_eq_some_iff.1 hj).2
          simp [e1, e2, e]
        exact h ((List.getElem_inj hn).1 h1).symm
      simp [this]

theorem MapOf.stored {es : Array MapEntry} {clock : Nat} (hb : w.heap[b]? = some (.map es clock)) (hl : es.toList.map (fun e => (e.key, e.val)) = l.map (fun p => (ek p.1, ev p.2)))
    (hp : (es.toList.map (·.born)).Pairwise (· < ·)) (hc : ∀ e ∈ es.toList, e.born < clock) (hn : (l.map (·.1)).Nodup) {a : κ} {v : ν} :
    (∀ j e u, es.toList[j]? = some e → l[j]? = some (a, u) → MapOf P k ek ev (setBlock w b (.map (es.modify j fun e => { e with key := ek a, val := ev v }) clock)) b (put l a v)) ∧
    (get l a = none → MapOf P k ek ev (setBlock w b (.map (es.push { key := ek a, val := ev v, born := clock }) (clock + 1))) b (put l a v)) := by
  constructor
  · intro j e u he hj
    refine ⟨_, clock, heap_setBlock_same hb _, ?_, ?_, ?_, nodup_put hn _ _⟩
    · rw [← set_map_put hn hj v]
      apply List.ext_getElem?
      intro i
      have h0 := congrArg (fun x => x[i]?) hl
      simp only [List.getElem?_map] at h0
      simp only [List.getElem?_map, Array.getElem?_toList, Array.getElem?_modify, List.getElem?_set] at h0 ⊢
      have hjl : j < l.length := (List.getElem?_eq_some_iff.1 hj).1
      by_cases hji : j = i
      · subst hji
        have he' : es[j]? = some e := by simpa using he
        simp [he', hjl]
      · simp only [hji, if_false]; exact h0
    · have : (es.modify j fun e => { e with key := ek a, val := ev v }).toList.map (·.born) = es.toList.map (·.born) := by
        apply List.ext_getElem?
        intro i
        simp only [List.getElem?_map, Array.getElem?_toList, Array.getElem?_modify]
        by_cases hji : j = i
        · subst hji
          cases es[j]? <;> simp
        · simp [hji]
      rw [this]; exact hp
    · intro x hx
      obtain ⟨i, hi⟩ := List.getElem?_of_mem hx
      simp only [Array.getElem?_toList, Array.getElem?_modify] at hi
      by_cases hji : j = i
      · subst hji
        simp only [if_true, Option.map_eq_some_iff] at hi
        obtain ⟨y, hy, rfl⟩ := hi
        exact hc y (by rw [← Array.getElem?_toList] at hy; exact List.mem_of_getElem? hy)
      · simp only [hji, if_false] at hi
        exact hc x (by rw [← Array.getElem?_toList] at hi; exact List.mem_of_getElem? hi)
  · intro hg
    refine ⟨_, _, heap_setBlock_same hb _, ?_, ?_, ?_, nodup_put hn _ _⟩
    · rw [put_of_none hg]
      simp [hl]
    · simp only [Array.toList_push, List.map_append, List.map_cons, List.map_nil, List.pairwise_append]
      refine ⟨hp, by simp, ?_⟩
      intro x hx y hy
      simp at hy
      subst hy
      obtain ⟨z, hz, rfl⟩ := List.mem_map.1 hx
      exact hc z hz
    · intro x hx
      simp only [Array.toList_push, List.mem_append, List.mem_singleton] at hx
      rcases hx with hx | rfl
      · exact Nat.lt_succ_of_lt (hc x hx)
      · exact Nat.lt_succ_self _

/-- 'm[k] = v' -/
theorem MapOf.update_at (h : MapOf P k ek ev w b l) (K : KeyE P k ek) (ht : P.underlying t = some (.map k e)) (a : κ) (v : ν) :
    ∃ o, (Instr.mapUpdate t (.map (some b)) (ek a) (ev v)).run P w = .ok () (setBlock w b o) ∧ MapOf P k ek ev (setBlock w b o) b (put l a v) := by
  obtain ⟨es, clock, hb, hl, hp, hc, hn⟩ := h
  obtain ⟨la, hla⟩ := K.key a
  obtain ⟨s1, s2⟩ := MapOf.stored (P := P) (k := k) (ek := ek) (ev := ev) (a := a) (v := v) hb hl hp hc hn
  simp only [Instr.mapUpdate, Sem.run_bind, run_underlying ht, Result.andThen, getObj_map hb, Sem.run, K.keyed.check w _ hla]
  rcases find_at K hl hn a w with ⟨h1, h2⟩ | ⟨j, e0, u, h1, h2, h3, h4, h5⟩
  · refine ⟨_, ?_, s2 h1⟩
    simp [h2, setObj_map hb]
  · refine ⟨_, ?_, s1 j e0 u h3 h4⟩
    have h3' : es[j]? = some e0 := by simpa using h3
    simp only [h2, h3', Option.map_some, Option.getD_some, h5, Sem.run_bind, K.keyed.stays w hla, Result.andThen, setObj_map hb]

/-- 'delete(m, k)' -/
theorem MapOf.delete_at (h : MapOf P k ek ev w b l) (K : KeyE P k ek) (ht : P.underlying t = some (.map k e)) (a : κ) (ty kt : TypeId) :
    ∃ o, (Builtin.delete_ #[t, kt] ty #[.map (some b), ek a]).run P w = .ok (.tuple #[]) (setBlock w b o) ∧ MapOf P k ek ev (setBlock w b o) b (del l a) := by
  obtain ⟨es, clock, hb, hl, hp, hc, hn⟩ := h
  obtain ⟨la, hla⟩ := K.key a
  simp only [Builtin.delete_, List.getElem?_toArray, List.getElem?_cons_zero, List.getElem?_cons_succ, Sem.run_bind, run_underlying ht, Result.andThen, getObj_map hb, Sem.run, K.keyed.check w _ hla]
  rcases find_at K hl hn a w with ⟨h1, h2⟩ | ⟨j, e0, u, h1, h2, h3, h4, h5⟩
  · refine ⟨.map es clock, by simp [h2, setObj_map hb, pure, Sem.run], es, clock, heap_setBlock_same hb _, ?_, hp, hc, nodup_del hn _⟩
    rw [del_eq_self h1]; exact hl
  · refine ⟨.map (es.eraseIdxIfInBounds j) clock, by simp [h2, setObj_map hb, pure, Sem.run], _, clock, heap_setBlock_same hb _, ?_, ?_, ?_, nodup_del hn _⟩
    · have hd : del l a = l.eraseIdx j := by
        unfold del
        clear h2 h3 hl h1
        induction l generalizing j with
        | nil => simp at h4
        | cons p l ih =>
          simp only [List.map_cons, List.nodup_cons] at hn
          cases j with
          | zero =>
            simp at h4
            subst h4
            simp
            intro x y hxy e
            subst e
            exact hn.1 (List.mem_map.2 ⟨_, hxy, rfl⟩)
          | succ j =>
            simp at h4
            have hne : p.1 ≠ a := fun e => hn.1 (e ▸ List.mem_map.2 ⟨_, List.mem_of_getElem? h4, rfl⟩)
            have := ih hn.2 j h4
            simp only [List.filter_cons, ne_eq, hne, not_false_eq_true, decide_true, if_true, List.eraseIdx_cons_succ]
            rw [← this]
      rw [hd]
      have hjl : j < es.size := by have := (List.getElem?_eq_some_iff.1 h3).1; simpa using this
      simp only [Array.toList_eraseIdxIfInBounds, map_eraseIdx, hl]
    · simp only [Array.toList_eraseIdxIfInBounds, map_eraseIdx]
      exact hp.sublist (List.eraseIdx_sublist _ _)
    · intro x hx
      simp only [Array.toList_eraseIdxIfInBounds] at hx
      exact hc x (List.mem_of_mem_eraseIdx hx)

/-- 'len(m)' -/
theorem MapOf.len (h : MapOf P k ek ev w b l) (ht : P.underlying t = some (.map k e)) (rt : TypeId) : (Builtin.len_ #[t] rt #[.map (some b)]).run P w = .ok (.int .i64 l.length) w := by
  obtain ⟨es, clock, hb, hl, _⟩ := h
  have : es.size = l.length := by have := congrArg List.length hl; simpa using this
  simp [Builtin.len_, Sem.run_bind, run_underlying ht, Result.andThen, getObj_map hb, Sem.run, pure, goInt, this]

theorem run_entryStore {es : Array MapEntry} {clock j : Nat} {e0 : MapEntry} (hb : w.heap[b]? = some (.map es clock)) (hp : (es.toList.map (·.born)).Pairwise (· < ·)) (hj : es[j]? = some e0) (u : Value) :
    (Instr.entryStore t (.map (some b)) (.int .i64 e0.born) u).run P w = .ok () (setBlock w b (.map (es.modify j fun e => { e with val := u }) clock)) := by
  have hjl : j < es.size := (Array.getElem?_eq_some_iff.1 hj).1
  have hje : es[j] = e0 := (Array.getElem?_eq_some_iff.1 hj).2
  have hf : es.findIdx? (fun e => (e.born : Int) == (e0.born : Int)) = some j := by
    rw [Array.findIdx?_eq_some_iff_getElem]
    refine ⟨hjl, by simp [hje], fun i hi => ?_⟩
    have h1 := List.pairwise_iff_getElem.1 hp i j (by simp; omega) (by simpa using hjl) hi
    simp [hje] at h1
    simp
    omega
  simp only [Instr.entryStore, Sem.run_bind, getObj_map hb, Result.andThen, asInt, asIntOf, Sem.run, pure, hf, setObj_map hb]

/-- 'm[k], .. = ..': the entry is laid, and filled behind. -/
theorem MapOf.entryUpdate_at (h : MapOf P k ek ev w b l) (K : KeyE P k ek) (ht : P.underlying t = some (.map k e)) {z : ν} (hz : (zeroValue e).run P w = .ok (ev z) w) (a : κ) (v : ν) :
    ∃ o n x, (Instr.mapEntry t (.map (some b)) (ek a)).run P w = .ok (.tuple #[x, .int .i64 n]) (setBlock w b o) ∧
      ∀ w', w'.heap[b]? = some o → ∃ o', (Instr.entryStore t (.map (some b)) (.int .i64 n) (ev v)).run P w' = .ok () (setBlock w' b o') ∧ MapOf P k ek ev (setBlock w' b o') b (put l a v) := by
  obtain ⟨es, clock, hb, hl, hp, hc, hn⟩ := h
  obtain ⟨la, hla⟩ := K.key a
  simp only [Instr.mapEntry, Sem.run_bind, run_underlying ht, Result.andThen, getObj_map hb, Sem.run, K.keyed.check w _ hla]
  rcases find_at K hl hn a w with ⟨h1, h2⟩ | ⟨j, e0, u, h1, h2, h3, h4, h5⟩
  · refine ⟨_, clock, ev z, by simp only [h2, Sem.run_bind, hz, Result.andThen, setObj_map hb, Sem.run, pure, goInt]; rfl, fun w' hw' => ?_⟩
    have hp' : ((es.push { key := ek a, val := ev z, born := clock }).toList.map (·.born)).Pairwise (· < ·) := by
      simp only [Array.toList_push, List.map_append, List.map_cons, List.map_nil, List.pairwise_append]
      refine ⟨hp, by simp, ?_⟩
      intro x hx y hy
      simp at hy
      subst hy
      obtain ⟨q, hq, rfl⟩ := List.mem_map.1 hx
      exact hc q hq
    refine ⟨_, run_entryStore (e0 := { key := ek a, val := ev z, born := clock }) hw' hp' (j := es.size) (by simp) (ev v), ?_⟩
    have hm : (es.push { key := ek a, val := ev z, born := clock }).modify es.size (fun e => { e with val := ev v }) = es.push { key := ek a, val := ev v, born := clock } := by
      apply Array.ext_getElem?
      intro i
      simp only [Array.getElem?_modify, Array.getElem?_push]
      by_cases hi : es.size = i
      · subst hi; simp
      · have : ¬ i = es.size := fun e => hi e.symm
        simp [hi, this]
    rw [hm]
    have hb2 : (setBlock w' b (.map es clock)).heap[b]? = some (.map es clock) := heap_setBlock_same hw' _
    have := (MapOf.stored (P := P) (k := k) (ek := ek) (ev := ev) (a := a) (v := v) hb2 hl hp hc hn).2 h1
    simpa [setBlock] using this
  · have h3' : es[j]? = some e0 := by simpa using h3
    refine ⟨_, e0.born, ev u, by simp only [h2, h3', Option.map_some, Option.getD_some, h5, Sem.run_bind, K.keyed.stays w hla, Result.andThen, setObj_map hb, Sem.run, pure, goInt]; rfl, fun w' hw' => ?_⟩
    have hp' : ((es.modify j fun e => { e with key := ek a }).toList.map (·.born)).Pairwise (· < ·) := by
      have : (es.modify j fun e => { e with key := ek a }).toList.map (·.born) = es.toList.map (·.born) := by
        apply List.ext_getElem?
        intro i
        simp only [List.getElem?_map, Array.getElem?_toList, Array.getElem?_modify]
        by_cases hji : j = i
        · subst hji
          cases es[j]? <;> simp
        · simp [hji]
      rw [this]; exact hp
    refine ⟨_, run_entryStore (e0 := { e0 with key := ek a }) hw' hp' (j := j) (by rw [Array.getElem?_modify, if_pos rfl, h3']; rfl) (ev v), ?_⟩
    have hm : (es.modify j fun e => { e with key := ek a }).modify j (fun e => { e with val := ev v }) = es.modify j (fun e => { e with key := ek a, val := ev v }) := by
      apply Array.ext_getElem?
      intro i
      simp only [Array.getElem?_modify]
      by_cases hi : j = i
      · subst hi; cases es[j]? <;> simp
      · simp [hi]
    rw [hm]
    have hb2 : (setBlock w' b (.map es clock)).heap[b]? = some (.map es clock) := heap_setBlock_same hw' _
    have := (MapOf.stored (P := P) (k := k) (ek := ek) (ev := ev) (a := a) (v := v) hb2 hl hp hc hn).1 j e0 u h3 h4
    simpa [setBlock] using this

theorem upd_setBlock (w : World) (b : Nat) (o : Obj) : Upd (· = b) w (setBlock w b o) := (Upd.refl (· = b) w).setBlock (fun _ => rfl) o
theorem size_setBlock (w : World) (b : Nat) (o : Obj) : (setBlock w b o).heap.size = w.heap.size := by simp [setBlock]

/-- 'm[k] = v', the world behind it a variable -/
theorem MapOf.update (h : MapOf P k ek ev w b l) (K : KeyE P k ek) (ht : P.underlying t = some (.map k e)) (a : κ) (v : ν) :
    ∃ w', (Instr.mapUpdate t (.map (some b)) (ek a) (ev v)).run P w = .ok () w' ∧ MapOf P k ek ev w' b (put l a v) ∧ Upd (· = b) w w' ∧ w'.heap.size = w.heap.size := by
  obtain ⟨o, h1, h2⟩ := h.update_at K ht a v
  exact ⟨_, h1, h2, upd_setBlock _ _ _, size_setBlock _ _ _⟩
/-- 'delete(m, k)', the world behind it a variable -/
theorem MapOf.delete (h : MapOf P k ek ev w b l) (K : KeyE P k ek) (ht : P.underlying t = some (.map k e)) (a : κ) (ty kt : TypeId) :
    ∃ w', (Builtin.delete_ #[t, kt] ty #[.map (some b), ek a]).run P w = .ok (.tuple #[]) w' ∧ MapOf P k ek ev w' b (del l a) ∧ Upd (· = b) w w' ∧ w'.heap.size = w.heap.size := by
  obtain ⟨o, h1, h2⟩ := h.delete_at K ht a ty kt
  exact ⟨_, h1, h2, upd_setBlock _ _ _, size_setBlock _ _ _⟩
/-- 'm[k], .. = ..', the worlds variables -/
theorem MapOf.entryUpdate (h : MapOf P k ek ev w b l) (K : KeyE P k ek) (ht : P.underlying t = some (.map k e)) {z : ν} (hz : (zeroValue e).run P w = .ok (ev z) w) (a : κ) (v : ν) :
    ∃ w1 n x, (Instr.mapEntry t (.map (some b)) (ek a)).run P w = .ok (.tuple #[x, .int .i64 n]) w1 ∧ Upd (· = b) w w1 ∧ w1.heap.size = w.heap.size ∧
      ∀ w', w'.heap[b]? = w1.heap[b]? → ∃ w2, (Instr.entryStore t (.map (some b)) (.int .i64 n) (ev v)).run P w' = .ok () w2 ∧ MapOf P k ek ev w2 b (put l a v) ∧ Upd (· = b) w' w2 ∧ w2.heap.size = w'.heap.size := by
  obtain ⟨o, n, x, h1, h2⟩ := h.entryUpdate_at K ht hz a v
  have hlt := h.lt
  have hb : (setBlock w b o).heap[b]? = some o := by simp [setBlock, hlt]
  refine ⟨_, n, x, h1, upd_setBlock _ _ _, size_setBlock _ _ _, fun w' hw' => ?_⟩
  obtain ⟨o', h3, h4⟩ := h2 w' (hw'.trans hb)
  exact ⟨_, h3, h4, upd_setBlock _ _ _, size_setBlock _ _ _⟩

/-! ### Ranging over a map that stays as it is -/
/-- Block r is an iterator over block b, which holds the entries 'rest' that are still to come. -/
def IterOf (P : Program) (k : TypeId) (ek : κ → Value) (ev : ν → Value) (w : World) (r b : Nat) (l rest : List (κ × ν)) : Prop :=
  ∃ es clock seen, w.heap[r]? = some (.mapIter (some b) clock seen clock) ∧ w.heap[b]? = some (.map es clock) ∧ es.toList.map (fun e => (e.key, e.val)) = l.map (fun p => (ek p.1, ev p.2)) ∧
    (es.toList.map (·.born)).Pairwise (· < ·) ∧ (∀ e ∈ es.toList, e.born < clock) ∧ (l.map (·.1)).Nodup ∧
    (leftOf es seen).toList.map (fun e => (e.key, e.val)) = rest.map (fun p => (ek p.1, ev p.2)) ∧ rest.Sublist l

theorem IterOf.mapOf {r : Nat} {rest : List (κ × ν)} (h : IterOf P k ek ev w r b l rest) : MapOf P k ek ev w b l := by
  obtain ⟨es, clock, seen, _, hb, hl, hp, hc, hn, _⟩ := h
  exact ⟨es, clock, hb, hl, hp, hc, hn⟩
theorem IterOf.lt {r : Nat} {rest : List (κ × ν)} (h : IterOf P k ek ev w r b l rest) : r < w.heap.size ∧ b < w.heap.size := by
  obtain ⟨es, clock, seen, h1, h2, _⟩ := h
  exact ⟨heap_lt h1, heap_lt h2⟩
theorem IterOf.congr {r : Nat} {rest : List (κ × ν)} (h : IterOf P k ek ev w r b l rest) (hr : w'.heap[r]? = w.heap[r]?) (hb : w'.heap[b]? = w.heap[b]?) : IterOf P k ek ev w' r b l rest := by
  obtain ⟨es, clock, seen, h1, h2, q⟩ := h
  exact ⟨es, clock, seen, hr.trans h1, hb.trans h2, q⟩
theorem IterOf.upd {S : Nat → Prop} {r : Nat} {rest : List (κ × ν)} (h : IterOf P k ek ev w r b l rest) (hu : Upd S w w') (hr : ¬ S r) (hb : ¬ S b) : IterOf P k ek ev w' r b l rest :=
  h.congr (hu.block r h.lt.1 hr) (hu.block b h.lt.2 hb)

/-- 'range m' -/
theorem MapOf.range (h : MapOf P k ek ev w b l) (ht : P.underlying t = some (.map k e)) :
    ∃ o, (Instr.range t (.map (some b))).run P w = .ok (.pointer (some ⟨w.heap.size, 0, none⟩)) (w.alloc o) ∧ IterOf P k ek ev (w.alloc o) w.heap.size b l l := by
  obtain ⟨es, clock, hb, hl, hp, hc, hn⟩ := h
  refine ⟨.mapIter (some b) clock #[] clock, ?_, es, clock, #[], hpNew _ _, hpOld _ hb, hl, hp, hc, hn, ?_, List.Sublist.refl _⟩
  · simp only [Instr.range, Sem.run_bind, run_underlying ht, Result.andThen, getObj_map hb, Sem.run, pure, newObj]
    rfl
  · have : leftOf es #[] = es := by unfold leftOf; simp
    rw [this]; exact hl

/-- the step -/
theorem IterOf.next {r : Nat} {rest : List (κ × ν)} (h : IterOf P k ek ev w r b l rest) (ty : TypeId) :
    (rest = [] ∧ (Instr.next (.pointer (some ⟨r, 0, none⟩)) false ty).run P w = .ok (.tuple #[.bool false]) w) ∨
    ∃ p rest1 rest2 w', rest = rest1 ++ p :: rest2 ∧ (Instr.next (.pointer (some ⟨r, 0, none⟩)) false ty).run P w = .ok (.tuple #[.bool true, ek p.1, ev p.2]) w' ∧
      IterOf P k ek ev w' r b l (rest1 ++ rest2) ∧ Upd (· = r) w w' ∧ w'.heap.size = w.heap.size ∧
      (∀ w'', w''.heap[r]? = w'.heap[r]? → w''.heap[b]? = w'.heap[b]? → (Instr.entry (.pointer (some ⟨r, 0, none⟩))).run P w'' = .ok (.tuple #[ek p.1, ev p.2]) w'') := by
  obtain ⟨es, clock, seen, hr, hb, hl, hp, hc, hn, hleft, hsub⟩ := h
  have hrb : r ≠ b := by intro e; subst e; rw [hr] at hb; cases hb
  have hnd : (es.toList.map (·.born)).Nodup := hp.imp (fun h => Nat.ne_of_lt h)
  rcases run_next_at (P := P) w ty r b clock clock seen es clock hr hb hc (Nat.le_refl _) with ⟨h0, hrun⟩ | ⟨e0, he0, w1, hw1, hrun⟩
  · left
    refine ⟨?_, hrun⟩
    have : rest.length = 0 := by have := congrArg List.length hleft; simp [h0] at this; simpa using this.symm
    exact List.eq_nil_of_length_eq_zero this
  · right
    obtain ⟨i, hi⟩ := List.getElem?_of_mem he0
    have h1 : (rest.map (fun p => (ek p.1, ev p.2)))[i]? = some (e0.key, e0.val) := by rw [← hleft]; simp [hi]
    simp only [List.getElem?_map, Option.map_eq_some_iff] at h1
    obtain ⟨p, hpi, hpe⟩ := h1
    simp only [Prod.mk.injEq] at hpe
    have hil : i < rest.length := (List.getElem?_eq_some_iff.1 hpi).1
    have hsplit : rest = rest.take i ++ p :: rest.drop (i + 1) := by
      have h2 : rest.drop i = p :: rest.drop (i + 1) := by
        rw [List.drop_eq_getElem_cons hil, (List.getElem?_eq_some_iff.1 hpi).2]
      rw [← h2, List.take_append_drop]
    have hmem : e0 ∈ es.toList := by
      have : e0 ∈ leftOf es seen := by simpa using he0
      unfold leftOf at this
      simp at this
      simpa using this.1
    have hr1 : w1.heap = w.heap := by rcases hw1 with rfl | rfl <;> rfl
    have hsz : w1.os = w.os ∧ w1.tape = w.tape ∧ w1.output = w.output := by rcases hw1 with rfl | rfl <;> exact ⟨rfl, rfl, rfl⟩
    refine ⟨p, rest.take i, rest.drop (i + 1), setBlock w1 r (.mapIter (some b) clock (seen.push e0.born) clock), hsplit, by rw [hrun, hpe.1, hpe.2], ?_, ?_, by simp [setBlock, hr1], ?_⟩
    · refine ⟨es, clock, seen.push e0.born, setBlock_same (by rw [hr1]; exact hr) _, ?_, hl, hp, hc, hn, ?_, ?_⟩
      · simp only [setBlock, Array.getElem?_setIfInBounds]
        rw [if_neg hrb, hr1]; exact hb
      · have hlf : (leftOf es (seen.push e0.born)).toList = (leftOf es seen).toList.eraseIdx i := by
          have e1 : (leftOf es (seen.push e0.born)).toList = (leftOf es seen).toList.filter (fun x => x.born ≠ e0.born) := by
            unfold leftOf
            simp only [Array.toList_filter, List.filter_filter]
            apply List.filter_congr
            intro x _
            simp only [Array.contains_push, Bool.not_or]
            rw [Bool.and_comm]
            congr 1
            by_cases hx : x.born = e0.born <;> simp [hx]
          rw [e1]
          have hnd2 : ((leftOf es seen).toList.map (·.born)).Nodup := by
            unfold leftOf
            rw [Array.toList_filter]
            exact hnd.sublist ((List.filter_sublist).map _)
          clear e1 hleft hmem he0 hrun
          generalize (leftOf es seen).toList = L at hi hnd2
          clear hpi hil hsplit
          induction L generalizing i with
          | nil => simp at hi
          | cons x L ih =>
            simp only [List.map_cons, List.nodup_cons] at hnd2
            cases i with
            | zero =>
              simp at hi
              subst hi
              simp only [List.eraseIdx_cons_zero, List.filter_cons, ne_eq, not_true, decide_false, Bool.false_eq_true, if_false]
              rw [List.filter_eq_self]
              intro y hy
              simp only [decide_eq_true_eq, ne_eq]
              exact fun e => hnd2.1 (e ▸ List.mem_map.2 ⟨y, hy, rfl⟩)
            | succ i =>
              simp at hi
              have hne : x.born ≠ e0.born := fun e => hnd2.1 (e ▸ List.mem_map.2 ⟨e0, List.mem_of_getElem? hi, rfl⟩)
              have := ih i hi hnd2.2
              simp only [List.filter_cons, ne_eq, hne, not_false_eq_true, decide_true, if_true, List.eraseIdx_cons_succ]
              rw [← this]
        rw [hlf, map_eraseIdx, hleft, ← map_eraseIdx]
        congr 1
        rw [List.eraseIdx_eq_take_drop_succ]
      · refine List.Sublist.trans ?_ hsub
        conv => rhs; rw [hsplit]
        exact List.Sublist.append_left (List.sublist_cons_self _ _) _
    · refine ⟨hsz.1, hsz.2.1, hsz.2.2, by simp [setBlock, hr1], fun i hi hne => ?_⟩
      simp only [setBlock, Array.getElem?_setIfInBounds]
      rw [if_neg (Ne.symm hne), hr1]
    · intro w'' h1 h2
      rw [setBlock_same (by rw [hr1]; exact hr)] at h1
      have h3 : w''.heap[b]? = some (.map es clock) := by
        rw [h2]
        simp only [setBlock, Array.getElem?_setIfInBounds]
        rw [if_neg hrb, hr1]; exact hb
      rw [run_entry_at w'' r b clock seen es clock e0 h1 h3 hmem hnd, hpe.1, hpe.2]
end

/-! ### Rows that the call owns -/
theorem ownsRow_upd {S : Nat → Prop} {w w' : World} {base : Nat} {e : TypeId} {size n : Nat} {v : Value} {xs : List Value} (h : w.ownsRow base e size v n xs) (hu : Upd S w w') (hs : ∀ b, base ≤ b → ¬ S b) : w'.ownsRow base e size v n xs := by
  obtain ⟨h1, h2⟩ := h
  refine ⟨h1, ?_⟩
  rcases h2 with h2 | ⟨g, cap, cur, hv, hg, hh, r⟩
  · exact .inl h2
  · exact .inr ⟨g, cap, cur, hv, hg, hu.keep hh (hs g hg), r⟩
theorem ownsRow_block {w : World} {base : Nat} {e : TypeId} {size n : Nat} {v : Value} {xs : List Value} (h : w.ownsRow base e size v n xs) {i : Nat} (hi : v.ownBlock = some i) : base ≤ i ∧ i < w.heap.size := by
  obtain ⟨h1, h2⟩ := h
  rcases h2 with ⟨rfl, _⟩ | ⟨g, cap, cur, rfl, hg, hh, r⟩
  · simp [Value.ownBlock] at hi
  · simp [Value.ownBlock] at hi
    subst hi
    exact ⟨hg, heap_lt hh⟩
theorem ownsRow_nil (w : World) (base : Nat) (e : TypeId) (size : Nat) : w.ownsRow base e size (.slice none 0 0) 0 [] := ⟨by simp, .inl ⟨rfl, rfl⟩⟩
theorem row_len {P : Program} {w : World} {base : Nat} {e : TypeId} {size n : Nat} {v : Value} {xs : List Value} (h : w.ownsRow base e size v n xs) {t e' : TypeId} (ht : P.underlying t = some (.slice e')) (rt : TypeId) (w' : World) :
    (Builtin.len_ #[t] rt #[v]).run P w' = .ok (.int .i64 n) w' := by
  have hv : ∃ a c, v = .slice a n c := by
    rcases h.2 with ⟨rfl, h0⟩ | ⟨g, cap, cur, rfl, _⟩
    · subst h0; exact ⟨_, _, rfl⟩
    · exact ⟨_, _, rfl⟩
  obtain ⟨a, c, rfl⟩ := hv
  simp [Builtin.len_, Sem.run_bind, run_underlying ht, Result.andThen, Sem.run, pure, goInt]
theorem run_indexAt {P : Program} {t el : TypeId} {size : Nat} (ht : P.underlying t = some (.slice el)) (hz : ∀ w, (Go.sizeOf el).run P w = .ok size w) (b off n cap : Nat) {k : Nat} (hk : k < n) (w' : World) :
    (Instr.indexAt t (.slice (some ⟨b, off, none⟩) n cap) (.int .i64 k)).run P w' = .ok (.pointer (some (Addr.add ⟨b, off, none⟩ (k * size)))) w' := by
  have hk2 : (0 : Int) ≤ k ∧ (k : Int) < n := ⟨by omega, by omega⟩
  simp only [Instr.indexAt, asIntOf, Sem.run_bind, Sem.run, pure, Result.andThen, run_underlying ht]
  simp only [hk2, and_self, if_true, Sem.run_bind, hz, Result.andThen, Sem.run, Int.toNat_natCast]
theorem row_index {P : Program} {w : World} {base : Nat} {e : TypeId} {size n : Nat} {v : Value} {xs : List Value} (h : w.ownsRow base e size v n xs) {t el : TypeId} (ht : P.underlying t = some (.slice el)) (hz : ∀ w, (Go.sizeOf el).run P w = .ok size w) {k : Nat} (hk : k < n) :
    ∃ g, base ≤ g ∧ g < w.heap.size ∧ (∀ w', (Instr.indexAt t v (.int .i64 k)).run P w' = .ok (.pointer (some ⟨g, k * size, none⟩)) w') ∧ ∀ j, j < size → w.cell? ⟨g, k * size + j, none⟩ = xs[k * size + j]? := by
  rcases h.2 with ⟨rfl, h0⟩ | ⟨g, cap, cur, rfl, hg, hh, hn, hc, hsz, htk⟩
  · omega
  · refine ⟨g, hg, heap_lt hh, fun w' => ?_, fun j hj => ?_⟩
    · rw [run_indexAt ht hz _ _ _ _ hk, addr_add]
    · have : k * size + j < n * size := by
        have : (k + 1) * size ≤ n * size := Nat.mul_le_mul_right _ hk
        rw [Nat.succ_mul] at this; omega
      rw [cell_of_heap hh, ← htk, List.getElem?_take, if_pos this]
      simp
/-- behind an append -/
theorem Upd.grown {S : Nat → Prop} {a b c : World} {row : Option Nat} (h : Upd S a b) (hg : b.grownBy c row) (hr : ∀ i, row = some i → i < a.heap.size → S i) : Upd S a c :=
  h.then (Upd.of_grown hg) (fun i hi hlt => hr i hi hlt)
end Go.My

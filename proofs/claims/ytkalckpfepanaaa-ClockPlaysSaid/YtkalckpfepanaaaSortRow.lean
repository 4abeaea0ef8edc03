/- slices.SortFunc over a row of structs that the call owns, in the words of Base. Plain theorems over any program that holds the library's sort. -/
import Derived.Test.YtkalckpfepanaaaGr
import Derived.Shelf.SlSortCmp.NoneTotal
namespace Go.My
set_option linter.unusedVariables false
set_option linter.unusedSimpArgs false
set_option linter.unusedSectionVars false
open Go.Sort Go.RowKit Go.Shelf Go.Proofs

theorem get_flat {α : Type} (enc : α → List Value) (k : Nat) (hk : ∀ x, (enc x).length = k) : ∀ (l : List α) (i j : Nat) (hi : i < l.length), j < k → (l.flatMap enc)[i * k + j]? = (enc l[i])[j]?
  | [], i, j, hi, _ => absurd hi (by simp)
  | x :: l, 0, j, _, hj => by
    simp only [List.flatMap_cons, Nat.zero_mul, Nat.zero_add]
    rw [List.getElem?_append_left (by rw [hk]; exact hj)]
    rfl
  | x :: l, i + 1, j, hi, hj => by
    simp only [List.flatMap_cons]
    have e : (i + 1) * k + j = k + (i * k + j) := by rw [Nat.succ_mul]; omega
    rw [e, List.getElem?_append_right (by rw [hk]; omega), hk, Nat.add_sub_cancel_left]
    have := get_flat enc k hk l i j (by simp at hi; omega) hj
    simpa using this
theorem length_flat {α : Type} (enc : α → List Value) (k : Nat) (hk : ∀ x, (enc x).length = k) (l : List α) : (l.flatMap enc).length = l.length * k := by
  induction l with
  | nil => simp
  | cons x l ih => simp [List.flatMap_cons, ih, hk, Nat.succ_mul]; omega

section
variable {α : Type} [Inhabited α] (enc : α → List Value) (k : Nat) (hk : ∀ x, (enc x).length = k)
include hk
theorem flatK_eq (hk0 : 0 < k) (l : List α) : flatK enc k l.toArray = (l.flatMap enc).toArray := by
  apply Array.ext
  · simp [length_flat enc k hk]
  · intro t h1 h2
    simp at h1
    have hi : t / k < l.length := by rw [Nat.div_lt_iff_lt_mul hk0]; exact h1
    have hj : t % k < k := Nat.mod_lt _ hk0
    have e := get_flat enc k hk l (t / k) (t % k) hi hj
    have e2 : t / k * k + t % k = t := by rw [Nat.mul_comm]; exact Nat.div_add_mod t k
    rw [e2] at e
    have h3 : (flatK enc k l.toArray)[t]! = (enc l[t / k])[t % k]'(by rw [hk]; exact hj) := by
      rw [get_flatK enc k l.toArray t (by simpa using h1)]
      have : l.toArray[t / k]! = l[t / k] := by simp [hi]
      rw [this, getElem!_pos _ _ (by rw [hk]; exact hj)]
    rw [getElem!_pos _ _ (by simpa using h1)] at h3
    rw [h3]
    have h2' : t < (l.flatMap enc).length := by rw [length_flat enc k hk]; exact h1
    have h4 : t % k < (enc l[t / k]).length := by rw [hk]; exact hj
    rw [List.getElem?_eq_getElem h2', List.getElem?_eq_getElem h4] at e
    rw [List.getElem_toArray]
    exact (Option.some.inj e).symm

/-- the row in memory -/
theorem holds_of_row (hk0 : 0 < k) {w : World} {g : Nat} {E : TypeId} {cur : Array Value} {l : List α} (hb : w.heap[g]? = some (.cells cur E (0, 0))) (ht : cur.toList.take (l.length * k) = l.flatMap enc) : HoldsK enc k w g 0 l.toArray := by
  unfold HoldsK Holds
  rw [flatK_eq enc k hk hk0]
  intro j hj
  simp at hj
  refine ⟨?_, frozen_of_heap hb _⟩
  rw [cell_of_heap hb, Nat.zero_add]
  have hl := length_flat enc k hk l
  have h1 : (l.flatMap enc)[j]? = cur[j]? := by
    rw [← ht, List.getElem?_take]
    rw [if_pos (by have : (l.flatMap enc).length = (l.map fun a => (enc a).length).sum := by simp [List.length_flatMap]
                   omega)]
    simp
  rw [← h1]
  have hj' : j < (l.flatMap enc).length := by simpa [List.length_flatMap] using hj
  rw [List.getElem?_eq_getElem hj', getElem!_pos _ _ (by simpa using hj')]
  simp

theorem sortWorldK_heap (hk0 : 0 < k) {w : World} {g : Nat} {E : TypeId} {cur : Array Value} {l : List α} (hb : w.heap[g]? = some (.cells cur E (0, 0))) (hsz : l.length * k ≤ cur.size) (m : Nat) (os : Array Obj) :
    Upd (· = g) w (sortWorldK enc k w g 0 m l.toArray os) ∧ ∃ cur', (sortWorldK enc k w g 0 m l.toArray os).heap[g]? = some (.cells cur' E (0, 0)) ∧ cur'.size = cur.size ∧ cur'.toList.take (l.length * k) = l.flatMap enc := by
  have hg : g < w.heap.size := heap_lt hb
  have hheap : ∀ i, i < w.heap.size → (sortWorldK enc k w g 0 m l.toArray os).heap[i]? = (mapBlock w g (putCells id 0 (flatK enc k l.toArray))).heap[i]? := by
    intro i hi
    unfold sortWorldK putRowK putRow
    simp only [grow, mapBlock, Go.Sort.ahead]
    rw [Array.getElem?_append_left (by simpa using hi)]
  refine ⟨⟨rfl, rfl, rfl, by simp [sortWorldK, putRowK, putRow, grow, mapBlock, Go.Sort.ahead], fun i hi hne => ?_⟩, putCells id 0 (flatK enc k l.toArray) cur, ?_, ?_, ?_⟩
  · rw [hheap i hi]
    simp only [mapBlock, Array.getElem?_modify]
    rw [if_neg (Ne.symm hne)]
  · rw [hheap g hg]
    simp only [mapBlock, Array.getElem?_modify, if_true, hb, Option.map_some, onCells]
  · simp [putCells]
  · rw [flatK_eq enc k hk hk0]
    have hl := length_flat enc k hk l
    apply List.ext_getElem?
    intro i
    rw [List.getElem?_take]
    by_cases hi : i < l.length * k
    · rw [if_pos hi]
      have hi2 : i < (l.flatMap enc).length := by omega
      have hi3 : i < cur.size := by omega
      simp only [putCells, Array.getElem?_toList, Array.getElem?_mapIdx]
      rw [Array.getElem?_eq_getElem hi3, List.getElem?_eq_getElem hi2]
      simp only [Option.map_some, Nat.zero_le, true_and, Nat.zero_add, Nat.sub_zero, List.size_toArray, hi2, if_true, id]
      rw [getElem!_pos _ _ (by simpa using hi2)]
      simp
    · rw [if_neg hi, List.getElem?_eq_none (by omega)]

theorem sort_row {P : Program} {ρ : Ren} (L : SlLaysF0.n6 P ρ) (hk0 : 0 < k) (aE : ∀ w, (isAgg (ρ.t 24)).run P w = .ok true w) (zE : ∀ w, (Go.sizeOf (ρ.t 24)).run P w = .ok k w)
    (h1 : ∀ x, ∀ v ∈ enc x, v.oneCell' = true) (cf : α → α → Int) (hO : SWO (ltOf cf)) (hT : ∀ x y, (ltOf cf) x y = false → (ltOf cf) y x = false → x = y) (f : Nat) (cb : Array Value) (ef : ∀ args w, (callFunc f args).run P w = .ok (.enter f args) w)
    {w : World} {g : Nat} {E : TypeId} {cur : Array Value} {l : List α} (cap : Nat) (hb : w.heap[g]? = some (.cells cur E (0, 0))) (ht : cur.toList.take (l.length * k) = l.flatMap enc) (hsz : l.length * k ≤ cur.size) (hlen : l.length < 4611686018427387904)
    (hcmp : ∀ w', Upd (· = g) w w' → ∀ x y, Calls P f (#[.agg (enc x).toArray, .agg (enc y).toArray] ++ cb) w' fun e w'' => e = .returned (.int .i64 (cf x y)) ∧ Gr w' w'') :
    Calls P (ρ.f 6) #[.slice (some ⟨g, 0, none⟩) l.length cap, .func (.func f) #[] cb] w fun e w' => e = .returned (.tuple #[]) ∧ Upd (· = g) w w' ∧
      ∃ cur', w'.heap[g]? = some (.cells cur' E (0, 0)) ∧ cur'.size = cur.size ∧ cur'.toList.take (l.length * k) = (l.mergeSort fun x y => !(ltOf cf) y x).flatMap enc := by
  have hH := holds_of_row enc k hk hk0 hb ht
  have h := AnyQ.slices_SortFunc_total L k aE zE enc hk h1 cf hO f cb g 0 cap l.toArray w ef (fun m os dk hdk x y => by
    have hu := (sortWorldK_heap enc k hk hk0 (l := dk.toList) hb (by simpa [hdk] using hsz) m os).1
    simp only [Array.toArray_toList] at hu
    exact (hcmp _ hu x y).mono fun e w'' h => ⟨h.1, h.2⟩) hH (heap_lt hb) (by simpa using hlen) hT
  simp only [List.size_toArray] at h
  refine h.mono ?_
  rintro e w' ⟨rfl, n, os, rfl⟩
  obtain ⟨hu, cur', h2, h3, h4⟩ := sortWorldK_heap enc k hk hk0 (l := l.mergeSort fun x y => !(ltOf cf) y x) hb (by simpa using hsz) n os
  exact ⟨rfl, hu, cur', h2, h3, by simpa using h4⟩
end
end Go.My

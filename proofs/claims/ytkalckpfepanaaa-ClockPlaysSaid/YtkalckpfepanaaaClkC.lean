/- The clock: New. -/
import Derived.Test.YtkalckpfepanaaaClkB
namespace Go.Proofs.Ytkalckpfepanaaa
set_option linter.unusedVariables false
set_option linter.unusedSimpArgs false
set_option linter.unusedSectionVars false
open Go.My Go.RowKit Go.ChangeMaps
set_option maxHeartbeats 400000
set_option maxRecDepth 100000

def newCells (B k : Nat) : Array Value := ((.int .u32 0 :: .map (some B) :: (List.range 64).map fun i => if i < k then .map (some (B + 2 + i)) else .map none) : List Value).toArray
theorem newCells_0 (B : Nat) : Try.zeroCells69.setIfInBounds 1 (Value.map (some B)) = newCells B 0 := by kernel_rfl
theorem newCells_get (B k : Nat) {i : Nat} (hi : i < 64) : (newCells B k)[2 + i]? = some (if i < k then .map (some (B + 2 + i)) else .map none) := by
  have : 2 + i = i + 1 + 1 := by omega
  simp [newCells, this, hi]
theorem newCells_set (B k : Nat) (hk : k < 64) : (newCells B k).setIfInBounds (2 + k) (.map (some (B + 2 + k))) = newCells B (k + 1) := by
  apply Array.ext_getElem?
  intro i
  rw [Array.getElem?_setIfInBounds]
  match i with
  | 0 => rw [if_neg (by omega)]; rfl
  | 1 => rw [if_neg (by omega)]; rfl
  | i + 2 =>
    by_cases hi : i < 64
    · have e : i + 2 = 2 + i := by omega
      rw [e, newCells_get _ _ hi, newCells_get _ _ hi]
      by_cases hik : k = i
      · subst hik
        rw [if_pos rfl, if_pos (by simp [newCells]; omega), if_pos (by omega)]
      · rw [if_neg (by omega)]
        by_cases h1 : i < k
        · rw [if_pos h1, if_pos (by omega)]
        · rw [if_neg h1, if_neg (by omega)]
    · have h1 : (newCells B k)[i + 2]? = none := Array.getElem?_eq_none (by simp [newCells]; omega)
      have h2 : (newCells B (k + 1))[i + 2]? = none := Array.getElem?_eq_none (by simp [newCells]; omega)
      rw [h1, h2, if_neg (by omega)]

structure NewInv (w wr : World) (k : Nat) : Prop where
  upd : Upd Nil w wr
  size : wr.heap.size = w.heap.size + 2 + k
  blk : wr.heap[w.heap.size + 1]? = some (.cells (newCells w.heap.size k) 69)
  at_ : wr.heap[w.heap.size]? = some (.map #[] 0)
  wh : ∀ i, i < k → wr.heap[w.heap.size + 2 + i]? = some (.map #[] 0)

theorem NewInv.start (w : World) : NewInv w ((w.alloc (Obj.map #[] 0)).alloc (Obj.cells (newCells w.heap.size 0) 69)) 0 := by
  refine ⟨((Upd.refl _ _).alloc _).alloc _, by simp, ?_, hpOld _ (hpNew _ _), fun i hi => by omega⟩
  have := hpNew (w.alloc (Obj.map #[] 0)) (Obj.cells (newCells w.heap.size 0) 69)
  simpa using this
theorem NewInv.step {w wr : World} {k : Nat} (h : NewInv w wr k) (hk : k < 64) : NewInv w ((wr.alloc (.map #[] 0)).setCell ⟨w.heap.size + 1, 2 + k, none⟩ (.map (some wr.heap.size))) (k + 1) := by
  have hs := h.size
  refine ⟨(h.upd.alloc _).setCell (fun hlt => by simp at hlt; omega) _, by simp; omega, ?_, ?_, fun i hi => ?_⟩
  · rw [hpSetSame (hpOld _ h.blk), hs, newCells_set _ _ hk]
  · exact hpSetOther _ (hpOld _ h.at_) (by simp)
  · refine hpSetOther _ ?_ (by simp; omega)
    by_cases hik : i = k
    · subst hik
      rw [← hs]; exact hpNew _ _
    · exact hpOld _ (h.wh i (by omega))
theorem mapOf_empty {w : World} {b : Nat} (h : w.heap[b]? = some (.map #[] 0)) : MapOf Try.prog 38 encN encU w b [] := ⟨#[], 0, h, by simp, by simp, by simp, by simp⟩
theorem NewInv.done {w wr : World} (h : NewInv w wr 64) : ClkIn wr ⟨w.heap.size + 1, w.heap.size, fun i => w.heap.size + 2 + i⟩ ⟨0, []⟩ := by
  refine ⟨?_, mapOf_empty h.at_, fun i hi => ⟨[], mapOf_empty (h.wh i hi), by simp [My.get]⟩, fun i j _ _ e => by simp at e; omega, fun i _ e => by simp at e; omega, by simp, by simp [My.get], by simp⟩
  rw [h.blk]
  congr 2

theorem new_clk {w : World} : Calls Try.prog 8 #[] w fun e w' => ∃ L : Lay, e = .returned L.ptr ∧ Upd Nil w w' ∧ ClkIn w' L ⟨0, []⟩ ∧ (∀ b, L.foot b → w.heap.size ≤ b) := by
  have hmm := @run_makeMap Try.prog
  have h0 := newCells_0
  have hi0 := NewInv.start w
  go_enter Try.func8, Try.ntmps8
  go_wp2_with fail
  go_loopw [6] (fun i wr => ∃ k : Nat, k ≤ 64 ∧ i = .int .i64 k ∧ NewInv w wr k) (fun i _ => 64 - (intOf i).toNat)
  case atStart => exact ⟨0, by omega, rfl, hi0⟩
  case round =>
    obtain ⟨k, hk, rfl, hinv⟩ := hrel
    by_cases hlt : k < 64
    · have hb := hpOld (.map #[] 0) hinv.blk
      have hc : (wr.alloc (.map #[] 0)).cell? ⟨w.heap.size + 1, 2 + k, none⟩ = some (.map none) := by
        rw [cell_of_heap hb, newCells_get _ _ hlt, if_neg (by omega)]
      have hf := frozen_of_heap hb (2 + k)
      clear hb
      have hnx := hinv.step hlt
      clear hi0 h0
      go_wp2_with fail
      go_roundw
      case rel => exact ⟨k + 1, by omega, by go_num, hnx⟩
      case measure => simp [intOf]; omega
    · obtain rfl : k = 64 := by omega
      clear hi0 h0
      go_wp2_with fail
      go_ret
      refine ⟨⟨w.heap.size + 1, w.heap.size, fun i => w.heap.size + 2 + i⟩, rfl, hinv.upd, hinv.done, ?_⟩
      rintro b (rfl | rfl | ⟨i, _, rfl⟩) <;> simp <;> omega
end Go.Proofs.Ytkalckpfepanaaa

/- A slice that is only read: its elements, by their values. Plain theorems over any program. -/
import Derived.Test.YtkalckpfepanaaaBase
import Derived.Deep.Slices
namespace Go.My
set_option linter.unusedVariables false
set_option linter.unusedSimpArgs false
set_option linter.unusedSectionVars false
open Go.RowKit Go.ChangeShapes Go.WideShapes

section
variable {α : Type} {enc : α → List Value} {size base : Nat} {xs : List α} {w w' : World} {v : Value}

theorem cell_lt {w : World} {p : Addr} {x : Value} (h : w.cell? p = some x) : p.block < w.heap.size := by
  unfold World.cell? at h
  cases hb : w.heap[p.block]? with
  | none => rw [hb] at h; cases h
  | some o => exact heap_lt hb
/-- slice v holds the elements xs, each of 'size' cells, in a block from base on -/
structure SliceAt (enc : α → List Value) (size base : Nat) (w : World) (v : Value) (xs : List α) : Prop where
  out : ∃ a cap, v = .slice a xs.length cap ∧ xs.length ≤ cap ∧ cap ≤ maxLen ∧ (a = none → cap = 0) ∧
    ∀ k (h : k < xs.length), ∃ b off, a = some ⟨b, off, none⟩ ∧ base ≤ b ∧ b < w.heap.size ∧ ∀ j, j < size → w.cell? ⟨b, off + k * size + j, none⟩ = (enc xs[k])[j]?

theorem SliceAt.upd (h : SliceAt enc size base w v xs) {S : Nat → Prop} (hu : Upd S w w') (hs : ∀ b, base ≤ b → b < w.heap.size → ¬ S b) : SliceAt enc size base w' v xs := by
  obtain ⟨a, cap, h1, h2, h3, h4, h5⟩ := h.out
  refine ⟨a, cap, h1, h2, h3, h4, fun k hk => ?_⟩
  obtain ⟨b, off, ha, hg, hb, hc⟩ := h5 k hk
  exact ⟨b, off, ha, hg, Nat.lt_of_lt_of_le hb hu.size, fun j hj => (hu.cell hb (hs b hg hb)).trans (hc j hj)⟩
theorem SliceAt.nil (h : SliceAt enc size base w v xs) (hu : Upd Nil w w') : SliceAt enc size base w' v xs := h.upd hu (fun _ _ _ k => k)
theorem SliceAt.base_mono (h : SliceAt enc size base w v xs) {base' : Nat} (hb : base' ≤ base) : SliceAt enc size base' w v xs := by
  obtain ⟨a, cap, h1, h2, h3, h4, h5⟩ := h.out
  exact ⟨a, cap, h1, h2, h3, h4, fun k hk => by obtain ⟨b, off, ha, hg, q⟩ := h5 k hk; exact ⟨b, off, ha, Nat.le_trans hb hg, q⟩⟩
theorem SliceAt.len_le (h : SliceAt enc size base w v xs) : xs.length ≤ maxLen := by
  obtain ⟨a, cap, h1, h2, h3, h4, h5⟩ := h.out
  omega
theorem SliceAt.val (h : SliceAt enc size base w v xs) : ∃ a cap, v = .slice a xs.length cap ∧ xs.length ≤ cap ∧ cap ≤ maxLen ∧ (a = none → cap = 0) := by
  obtain ⟨a, cap, h1, h2, h3, h4, h5⟩ := h.out
  exact ⟨a, cap, h1, h2, h3, h4⟩
theorem SliceAt.len {P : Program} (h : SliceAt enc size base w v xs) {t e' : TypeId} (ht : P.underlying t = some (.slice e')) (rt : TypeId) (w' : World) :
    (Builtin.len_ #[t] rt #[v]).run P w' = .ok (.int .i64 xs.length) w' := by
  obtain ⟨a, cap, rfl, _⟩ := h.out
  simp [Builtin.len_, Sem.run_bind, run_underlying ht, Result.andThen, Sem.run, pure, goInt]
theorem SliceAt.index {P : Program} (h : SliceAt enc size base w v xs) {t el : TypeId} (ht : P.underlying t = some (.slice el)) (hz : ∀ w, (Go.sizeOf el).run P w = .ok size w) {k : Nat} (hk : k < xs.length) :
    ∃ b o, b < w.heap.size ∧ (∀ w', (Instr.indexAt t v (.int .i64 k)).run P w' = .ok (.pointer (some ⟨b, o, none⟩)) w') ∧ ∀ j, j < size → w.cell? ⟨b, o + j, none⟩ = (enc xs[k])[j]? := by
  obtain ⟨a, cap, rfl, _, _, _, h5⟩ := h.out
  obtain ⟨b, off, rfl, hg, hb, hc⟩ := h5 k hk
  exact ⟨b, off + k * size, hb, fun w' => by rw [run_indexAt ht hz _ _ _ _ hk, add_plain], hc⟩
/-- a shorter slice of it -/
theorem SliceAt.take {n : Nat} {a : Option Addr} {cap : Nat} (h : SliceAt enc size base w (.slice a xs.length cap) xs) (hn : n ≤ xs.length) : SliceAt enc size base w (.slice a n cap) (xs.take n) := by
  obtain ⟨a', cap', h1, h2, h3, h4, h5⟩ := h.out
  obtain ⟨rfl, -, rfl⟩ := Value.slice.inj h1
  have hl : (xs.take n).length = n := by rw [List.length_take]; omega
  refine ⟨a, cap, by rw [hl], by omega, h3, h4, fun k hk => ?_⟩
  obtain ⟨b, off, ha, hg, hb, hc⟩ := h5 k (by omega)
  exact ⟨b, off, ha, hg, hb, fun j hj => by rw [hc j hj, List.getElem_take]⟩

/-- how a slice of a type whose elements all read as elements of α reads -/
theorem sliceAt_of_trod {H : Type} {en : TypeId × Value → H} {P : Program} {W : World} {t e : TypeId} {v : Value} {d : DataW H} {p : List MemPlace} (ht : P.underlying t = some (.slice e)) (hc : P.cellsOf e = size) (hs0 : 0 < size) (enc : α → List Value)
    (helt : ∀ fuel cs x, DataW.trod en P W 0 (fun _ => true) true fuel e cs = some x → ∃ y : α, cs = enc y)
    (hv : Value.okWide P W .any 0 t v) (h : DataW.Trod en P W 0 (fun _ => true) true t v d p) : ∃ xs : List α, SliceAt enc size 0 W v xs := by
  obtain ⟨a0, len0, cap0, rfl⟩ := okWide_slice ht hv
  obtain ⟨fuel, hf⟩ := h
  rcases Go.Deep.open_slice ht hf with ⟨h0, _⟩ | ⟨a, len, cap, m, n, D, Pl, h0, hb, hl, hm, hmm, _, hx⟩
  · simp [Value.cells] at h0
    obtain ⟨rfl, rfl, rfl⟩ := h0
    exact ⟨[], none, 0, rfl, by simp, by unfold maxLen; omega, by simp, fun k hk => by simp at hk⟩
  · simp [Value.cells] at h0
    obtain ⟨rfl, rfl, rfl⟩ := h0
    simp only [if_true] at hmm
    subst hmm
    by_cases hlen : len0 = 0
    · subst hlen
      exact ⟨[], some a, m, rfl, by simp, hm, by simp, fun k hk => by simp at hk⟩
    have hex : ∀ i, i < len0 → ∃ y : α, ∃ cs, W.cells? 0 (a.add (i * size)) size = some cs ∧ cs = enc y := fun i hi => by
      obtain ⟨cs, h1, h2⟩ := hx i (by omega)
      rw [hc] at h1
      obtain ⟨y, hy⟩ := helt _ _ _ h2
      exact ⟨y, cs, h1, hy⟩
    obtain ⟨y0, _⟩ := hex 0 (by omega)
    haveI : Inhabited α := ⟨y0⟩
    obtain ⟨f, hf⟩ := Go.Deep.choose_lt hex
    have hspot : a.spot = none := by
      obtain ⟨cs, h1, h2⟩ := hf 0 (by omega)
      obtain ⟨_, hlen, hcell⟩ := World.cells?_some h1
      have := hcell 0 hs0
      rw [Nat.zero_mul] at this
      rw [List.getElem?_eq_getElem (by omega)] at this
      obtain ⟨b, o, s⟩ := a
      cases s with
      | none => rfl
      | some s =>
        simp [Addr.add, World.cell?] at this
        split at this <;> cases this
    obtain ⟨b, off, spot⟩ := a
    simp only at hspot
    subst hspot
    have hcell : ∀ i, i < len0 → ∀ j, j < size → W.cell? ⟨b, off + i * size + j, none⟩ = (enc (f i))[j]? := fun i hi j hj => by
      obtain ⟨cs, h1, h2⟩ := hf i hi
      obtain ⟨_, hlen, hcell⟩ := World.cells?_some h1
      have := hcell j hj
      rw [add_plain, add_plain, h2] at this
      exact this
    have hblk : b < W.heap.size := by
      obtain ⟨cs, h1, h2⟩ := hf 0 (by omega)
      obtain ⟨_, hlen, hcell⟩ := World.cells?_some h1
      have := hcell 0 hs0
      rw [Nat.zero_mul, add_plain, add_plain, List.getElem?_eq_getElem (by omega)] at this
      exact cell_lt this
    refine ⟨(List.range len0).map f, some ⟨b, off, none⟩, m, by simp, by simpa using hl, hm, by simp, fun k hk => ⟨b, off, rfl, Nat.zero_le _, hblk, fun j hj => ?_⟩⟩
    have hk' : k < len0 := by simpa using hk
    rw [hcell k hk' j hj]
    simp
end
end Go.My

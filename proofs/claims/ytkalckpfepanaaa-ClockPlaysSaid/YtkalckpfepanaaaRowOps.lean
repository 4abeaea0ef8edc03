/- Rows that are read and appended to: what a slice expression and append yield, as run equations. Plain theorems over any program. -/
import Derived.Test.YtkalckpfepanaaaSliceAt
import Derived.Test.YtkalckpfepanaaaSortRow
namespace Go.My
set_option linter.unusedVariables false
set_option linter.unusedSimpArgs false
set_option linter.unusedSectionVars false
open Go.RowKit Go.ChangeShapes Go.WideShapes

section
variable {α : Type} {enc : α → List Value} {size base : Nat} {xs ys : List α} {w w' : World} {v u : Value} {P : Program}

theorem sliceAt_nil (enc : α → List Value) (size base : Nat) (w : World) : SliceAt enc size base w (.slice none 0 0) ([] : List α) :=
  ⟨none, 0, rfl, by simp, by unfold maxLen; omega, by simp, fun k hk => by simp at hk⟩
theorem sliceAt_of_owns {e : TypeId} {n : Nat} (h : w.ownsRow base e size v n (xs.flatMap enc)) (hn : n = xs.length) (hk : ∀ x, (enc x).length = size) : SliceAt enc size base w v xs := by
  subst hn
  rcases h.2 with ⟨rfl, h0⟩ | ⟨g, cap, cur, rfl, hg, hh, hn, hc, hsz, htk⟩
  · have : xs = [] := List.eq_nil_of_length_eq_zero h0
    subst this
    exact sliceAt_nil _ _ _ _
  · refine ⟨some ⟨g, 0, none⟩, cap, rfl, hn, hc, by simp, fun k hk2 => ⟨g, 0, rfl, hg, heap_lt hh, fun j hj => ?_⟩⟩
    have hlt : k * size + j < xs.length * size := by
      have : (k + 1) * size ≤ xs.length * size := Nat.mul_le_mul_right _ hk2
      rw [Nat.succ_mul] at this; omega
    rw [cell_of_heap hh, ← get_flat enc size hk xs k j hk2 hj, ← htk, List.getElem?_take, if_pos (by omega)]
    simp
theorem SliceAt.drop {n : Nat} {a : Option Addr} {cap : Nat} (h : SliceAt enc size base w (.slice a xs.length cap) xs) (hn : n ≤ xs.length) :
    SliceAt enc size base w (.slice (if cap = n then a else a.map (·.add (n * size))) (xs.length - n) (cap - n)) (xs.drop n) := by
  obtain ⟨a', cap', h1, h2, h3, h4, h5⟩ := h.out
  obtain ⟨rfl, -, rfl⟩ := Value.slice.inj h1
  have hl : (xs.drop n).length = xs.length - n := by rw [List.length_drop]
  refine ⟨_, cap - n, by rw [hl], by omega, by omega, ?_, fun k hk => ?_⟩
  · intro ha
    by_cases hc : cap = n
    · omega
    · rw [if_neg hc] at ha
      have := h4 (by simpa using ha)
      omega
  · have hk' : n + k < xs.length := by omega
    obtain ⟨b, off, ha, hg, hb, hc⟩ := h5 (n + k) hk'
    refine ⟨b, off + n * size, ?_, hg, hb, fun j hj => ?_⟩
    · rw [if_neg (by omega), ha]
      simp [add_plain]
    · have := hc j hj
      rw [Nat.add_mul] at this
      rw [show off + n * size + k * size + j = off + (n * size + k * size) + j by omega, this]
      simp

theorem owns_slice {e : TypeId} {n : Nat} {l : List Value} (h : w.ownsRow base e size v n l) : ∃ a c, v = .slice a n c := by
  rcases h.2 with ⟨rfl, h0⟩ | ⟨g, cap, cur, rfl, _⟩
  · subst h0; exact ⟨_, _, rfl⟩
  · exact ⟨_, _, rfl⟩
/-- v[:n] -/
theorem SliceAt.run_take (h : SliceAt enc size base w v xs) {t el : TypeId} (ht : P.underlying t = some (.slice el)) (hz : ∀ w, (Go.sizeOf el).run P w = .ok size w) {n : Nat} (hn : n ≤ xs.length) :
    ∃ v', (∀ w', (Instr.slice t v none (some (.int .i64 n)) none).run P w' = .ok v' w') ∧ SliceAt enc size base w v' (xs.take n) := by
  obtain ⟨a, cap, rfl, hcap, _⟩ := h.val
  refine ⟨_, fun w' => ?_, h.take hn⟩
  have h1 : (0 : Int) ≤ n ∧ (n : Int) ≤ cap := ⟨by omega, by omega⟩
  simp only [Instr.slice, Sem.run_bind, run_underlying ht, Result.andThen, Instr.sliceBounds, Instr.sliceBound, asIntOf, Sem.run, pure, h1, and_self, if_true, hz, Int.toNat_natCast]
  by_cases hc : cap = 0
  · simp [hc]
  · cases a <;> simp [hc, Addr.add]
/-- v[n:] -/
theorem SliceAt.run_drop (h : SliceAt enc size base w v xs) {t el : TypeId} (ht : P.underlying t = some (.slice el)) (hz : ∀ w, (Go.sizeOf el).run P w = .ok size w) {n : Nat} (hn : n ≤ xs.length) :
    ∃ v', (∀ w', (Instr.slice t v (some (.int .i64 n)) none none).run P w' = .ok v' w') ∧ SliceAt enc size base w v' (xs.drop n) := by
  obtain ⟨a, cap, rfl, hcap, _⟩ := h.val
  refine ⟨_, fun w' => ?_, h.drop hn⟩
  have h1 : (0 : Int) ≤ n ∧ (n : Int) ≤ xs.length := ⟨by omega, by omega⟩
  simp only [Instr.slice, Sem.run_bind, run_underlying ht, Result.andThen, Instr.sliceBounds, Instr.sliceBound, asIntOf, Sem.run, pure, h1, and_self, if_true, hz, Int.toNat_natCast]

/-- the operation -/
theorem append_wp {Q : Exit → Act → World → Prop} {K : Act → World → Prop} {o : Oper} {s x : Operand} {t : TypeId} {a : Act} {w' : World} {v' : Value} (hop : o.op = Op.call { callee := Callee.builtin Builtin.append, args := #[s, x], argTypes := #[t, t] })
    (hs : a.eval s = v) (hx : a.eval x = u) (hrun : (Builtin.append_ #[t, t] o.type #[v, u]).run P w = .ok v' w') (hK : K (a.put o.dst v') w') : o.wp P a w K Q := by
  unfold Oper.wp
  simp [execOp, hop, resolve, invoke, builtin, hs, hx, hrun, Result.andThen]
  exact hK
theorem append_wp_ex {Q : Exit → Act → World → Prop} {K : Act → World → Prop} {o : Oper} {s x : Operand} {t : TypeId} {a : Act} {R : Value → World → Prop} (hop : o.op = Op.call { callee := Callee.builtin Builtin.append, args := #[s, x], argTypes := #[t, t] })
    (hs : a.eval s = v) (hx : a.eval x = u) (hex : ∃ v' w', (Builtin.append_ #[t, t] o.type #[v, u]).run P w = .ok v' w' ∧ R v' w') (hK : ∀ v' w', R v' w' → K (a.put o.dst v') w') : o.wp P a w K Q := by
  obtain ⟨v', w', hr, h⟩ := hex
  exact append_wp hop hs hx hr (hK v' w' h)
/-- a row that is a block's head -/
theorem sliceAt_block {g : Nat} {c : Array Value} {ty : TypeId} {f : Nat × Nat} {cap : Nat} (hb : w.heap[g]? = some (.cells c ty f)) (hk : ∀ x, (enc x).length = size) (hc : ∀ (i : Nat) (v : Value), (xs.flatMap enc)[i]? = some v → c[i]? = some v) (hg : base ≤ g) (hcap : xs.length ≤ cap) (hmax : cap ≤ maxLen) :
    SliceAt enc size base w (.slice (some ⟨g, 0, none⟩) xs.length cap) xs := by
  refine ⟨some ⟨g, 0, none⟩, cap, rfl, hcap, hmax, by simp, fun k hk2 => ⟨g, 0, rfl, hg, heap_lt hb, fun j hj => ?_⟩⟩
  have h1 := get_flat enc size hk xs k j hk2 hj
  have h2 : j < (enc xs[k]).length := by rw [hk]; exact hj
  rw [cell_of_heap hb, Nat.zero_add, List.getElem?_eq_getElem h2]
  rw [List.getElem?_eq_getElem h2] at h1
  exact hc _ _ h1
theorem sliceAt_one {g : Nat} {x : α} {ty : TypeId} {f : Nat × Nat} (hb : w.heap[g]? = some (.cells (enc x).toArray ty f)) (hk : ∀ x, (enc x).length = size) (hg : base ≤ g) : SliceAt enc size base w (.slice (some ⟨g, 0, none⟩) 1 1) [x] :=
  sliceAt_block (xs := [x]) hb hk (by intro i v h; simpa using h) hg (Nat.le_refl _) (by unfold maxLen; omega)
/-- append of a row that is read to a row that the call owns -/
theorem run_append_row {e t ty : TypeId} {i : TypeInfo} {z : Value} {bytes n : Nat} (h1 : P.underlying t = some (.slice e)) (h2 : P.info? e = some i) (h3 : i.zero = some z) (h4 : i.size = size) (h5 : i.bytes = bytes) (h6 : z.cells.size = size) (h7 : 0 < size)
    (hz : ∀ w, (Go.sizeOf e).run P w = .ok size w) (hk : ∀ x, (enc x).length = size) (hone : ∀ x, ∀ u ∈ enc x, u.oneCell' = true) {base' : Nat}
    (hown : w.ownsRow base e size v n (xs.flatMap enc)) (hn : n = xs.length) (hs : SliceAt enc size base' w u ys) (b1 : n + ys.length ≤ maxLen) (b2 : (n + ys.length) * bytes ≤ 140737488355328) (hb : base ≤ w.heap.size) :
    ∃ v' w', (Builtin.append_ #[t, t] ty #[v, u]).run P w = .ok v' w' ∧ w'.ownsRow base e size v' (xs ++ ys).length ((xs ++ ys).flatMap enc) ∧ w.grownBy w' v.ownBlock := by
  obtain ⟨a, cap, rfl, hcap, hmax, hnil, hcell⟩ := hs.out
  by_cases hy : ys = []
  · subst hy
    refine ⟨v, w, ?_, by simpa [hn] using hown, ⟨rfl, rfl, rfl, Nat.le_refl _, fun _ _ _ => rfl⟩⟩
    have hv : ∃ a c, v = .slice a n c ∧ n ≤ c := by
      rcases hown.2 with ⟨rfl, h0⟩ | ⟨g, cap, cur, rfl, _, _, hn, _⟩
      · subst h0; exact ⟨_, _, rfl, Nat.le_refl _⟩
      · exact ⟨_, _, rfl, hn⟩
    obtain ⟨a', c, rfl, hc⟩ := hv
    have hi : i.size = size := h4
    cases a <;> cases a' <;> simp [Builtin.append_, run_underlying h1, hz, sizeOf, typeInfo, h2, Builtin.lenOf, Builtin.firstCells, loadCells, loadCellsFrom, hc, storeCells]
  · obtain ⟨b, off, rfl, hg, hbl, _⟩ := hcell 0 (List.length_pos_iff.2 hy)
    have hlen : (ys.flatMap enc).length = ys.length * size := length_flat enc size hk ys
    obtain ⟨v', w', hrun, r1, r2, r3⟩ := run_append_own (P := P) w base t ty e i z size bytes h1 h2 h3 h4 h5 h6 h7 v n _ hown ⟨b, off, none⟩ ys.length cap (ys.flatMap enc) hlen (fun j x hj => by
      have hjl : j < ys.length * size := by rw [← hlen]; exact (List.getElem?_eq_some_iff.1 hj).1
      have hd : j / size < ys.length := (Nat.div_lt_iff_lt_mul h7).2 hjl
      have hm : j % size < size := Nat.mod_lt _ h7
      have hjd : j = j / size * size + j % size := by rw [Nat.mul_comm]; exact (Nat.div_add_mod j size).symm
      obtain ⟨b', off', he, _, _, hc⟩ := hcell (j / size) hd
      cases he
      have := hc (j % size) hm
      rw [hjd, get_flat enc size hk ys _ _ hd hm] at hj
      rw [add_plain, hjd, ← Nat.add_assoc, this, hj]) (fun u hu => by
        obtain ⟨x, hx, hu⟩ := List.mem_flatMap.1 hu
        exact hone x u hu) b1 b2 hb
    refine ⟨v', w', hrun, ?_, r2⟩
    rw [List.flatMap_append, List.length_append, ← hn]
    exact r1
end
end Go.My

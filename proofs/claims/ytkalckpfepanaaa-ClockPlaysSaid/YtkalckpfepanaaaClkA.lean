/- The clock in memory; ok, slot, Until, Now, Len. -/
import Derived.Test.YtkalckpfepanaaaVals
namespace Go.Proofs.Ytkalckpfepanaaa
set_option linter.unusedVariables false
set_option linter.unusedSimpArgs false
set_option linter.unusedSectionVars false
open Go.My Go.RowKit Go.ChangeMaps

structure Lay where
  c : Nat
  A : Nat
  W : Nat → Nat
structure Clk where
  now : Nat
  at_ : List (Nm × Nat)

def clkCells (L : Lay) (now : Nat) : Array Value := ((.int .u32 now :: .map (some L.A) :: (List.range 64).map fun i => .map (some (L.W i))) : List Value).toArray
def Lay.foot (L : Lay) (b : Nat) : Prop := b = L.c ∨ b = L.A ∨ ∃ i, i < 64 ∧ b = L.W i

structure ClkIn (w : World) (L : Lay) (s : Clk) : Prop where
  blk : w.heap[L.c]? = some (.cells (clkCells L s.now) 69)
  map : MapOf Try.prog 38 encN encU w L.A s.at_
  wheel : ∀ i, i < 64 → ∃ l, MapOf Try.prog 38 encN encU w (L.W i) l ∧ ∀ n t, get l n = some t ↔ (get s.at_ n = some t ∧ t % 64 = i)
  inj : ∀ i j, i < 64 → j < 64 → L.W i = L.W j → i = j
  neA : ∀ i, i < 64 → L.W i ≠ L.A
  now : s.now ≤ 2147483647
  times : ∀ n t, get s.at_ n = some t → t ≤ 2147483647
  few : s.at_.length ≤ 1024

theorem slot_perm {at_ l : List (Nm × Nat)} {i : Nat} (hn : (at_.map (·.1)).Nodup) (hl : (l.map (·.1)).Nodup) (h : ∀ n t, get l n = some t ↔ (get at_ n = some t ∧ t % 64 = i)) : l.Perm (at_.filter fun p => p.2 % 64 = i) := by
  refine perm_of_mem (nodup_of_keys hl) ((nodup_of_keys hn).filter _) ?_
  rintro ⟨n, t⟩
  rw [← get_some_iff hl, h, get_some_iff hn]
  simp
abbrev Lay.ptr (L : Lay) : Value := .pointer (some ⟨L.c, 0, none⟩)

section
variable {w w' : World} {L : Lay} {s : Clk}
theorem ClkIn.c0 (h : ClkIn w L s) : w.cell? ⟨L.c, 0, none⟩ = some (.int .u32 s.now) := by rw [cell_of_heap h.blk]; rfl
theorem ClkIn.c1 (h : ClkIn w L s) : w.cell? ⟨L.c, 1, none⟩ = some (.map (some L.A)) := by rw [cell_of_heap h.blk]; rfl
theorem ClkIn.cw (h : ClkIn w L s) {i : Nat} (hi : i < 64) : w.cell? ⟨L.c, 2 + i, none⟩ = some (.map (some (L.W i))) := by
  rw [cell_of_heap h.blk]
  have : 2 + i = i + 1 + 1 := by omega
  simp [clkCells, this, hi]
theorem ClkIn.f (h : ClkIn w L s) (o : Nat) : w.frozen? ⟨L.c, o, none⟩ = false := frozen_of_heap h.blk o
theorem ClkIn.lt (h : ClkIn w L s) : ∀ b, L.foot b → b < w.heap.size := by
  rintro b (rfl | rfl | ⟨i, hi, rfl⟩)
  · exact heap_lt h.blk
  · exact h.map.lt
  · obtain ⟨l, hl, _⟩ := h.wheel i hi; exact hl.lt
theorem ClkIn.congr (h : ClkIn w L s) (hb : ∀ b, L.foot b → w'.heap[b]? = w.heap[b]?) : ClkIn w' L s :=
  ⟨(hb _ (.inl rfl)).trans h.blk, h.map.congr (hb _ (.inr (.inl rfl))), fun i hi => by obtain ⟨l, h1, h2⟩ := h.wheel i hi; exact ⟨l, h1.congr (hb _ (.inr (.inr ⟨i, hi, rfl⟩))), h2⟩, h.inj, h.neA, h.now, h.times, h.few⟩
theorem ClkIn.upd {S : Nat → Prop} (h : ClkIn w L s) (hu : Upd S w w') (hs : ∀ b, L.foot b → ¬ S b) : ClkIn w' L s := h.congr fun b hb => hu.block b (h.lt b hb) (hs b hb)
theorem ClkIn.nil (h : ClkIn w L s) (hu : Upd Nil w w') : ClkIn w' L s := h.upd hu (fun _ _ k => k)
theorem ClkIn.alloc (h : ClkIn w L s) (o : Obj) : ClkIn (w.alloc o) L s := h.nil ((Upd.refl _ _).alloc o)
theorem ClkIn.drew (h : ClkIn w L s) : ClkIn w.drew L s := h.nil ((Upd.refl _ _).drew)
end

set_option maxHeartbeats 400000
set_option maxRecDepth 100000

section
variable {w w' : World} {L : Lay} {s : Clk}
end

theorem ok_clk {w : World} {L : Lay} {s : Clk} (h : ClkIn w L s) : Calls Try.prog 26 #[L.ptr] w fun e w' => e = .returned (.bool true) ∧ w = w' := by
  have h1 := h.c1
  have q : ∀ (w : World) (r : Option Nat), (binOp .neq 66 (.map r) (.map none)).run Try.prog w = .ok (.bool !r.isNone) w := fun w r => run_neq_map_nil w _ _ _ r Try.underlying66
  clear h
  go_enter Try.func26, Try.ntmps26
  go_wp2
  go_ret
  exact ⟨rfl, rfl⟩

theorem slot_at {w : World} {c t m : Nat} (ht : t < 4294967296) (h1 : w.cell? ⟨c, 2 + t % 64, none⟩ = some (.map (some m))) : Calls Try.prog 28 #[.pointer (some ⟨c, 0, none⟩), encU t] w fun e w' => e = .returned (.map (some m)) ∧ w = w' := by
  have hm : t % 64 < 64 := Nat.mod_lt _ (by omega)
  unfold encU
  go_enter Try.func28, Try.ntmps28
  go_wp2
  go_ret
  exact ⟨rfl, rfl⟩

theorem slot_at' {w : World} {c t m : Nat} (ht : t < 4294967296) (h1 : w.cell? ⟨c, 2 + t % 64, none⟩ = some (.map (some m))) : Calls Try.prog 28 #[.pointer (some ⟨c, 0, none⟩), encU t] w fun e w' => e = .returned (.map (some m)) ∧ w' = w :=
  (slot_at ht h1).mono fun _ _ h => ⟨h.1, h.2.symm⟩

theorem slot_clk {w : World} {L : Lay} {s : Clk} (h : ClkIn w L s) (t : Nat) (ht : t < 4294967296) : Calls Try.prog 28 #[L.ptr, encU t] w fun e w' => e = .returned (.map (some (L.W (t % 64)))) ∧ w = w' := by
  have hm : t % 64 < 64 := Nat.mod_lt _ (by omega)
  have h1 := h.cw hm
  clear h
  unfold encU
  go_enter Try.func28, Try.ntmps28
  go_wp2
  go_ret
  exact ⟨rfl, rfl⟩

theorem zero23 (w : World) : (zeroValue 23).run Try.prog w = .ok (encU 0) w := by kernel_rfl

theorem until_clk {w : World} {L : Lay} {s : Clk} (h : ClkIn w L s) (n : Nm) :
    Calls Try.prog 14 #[L.ptr, encN n] w fun e w' => e = .returned (.tuple #[encU ((get s.at_ n).getD 0), .bool (get s.at_ n).isSome]) ∧ Upd Nil w w' := by
  have h' := h.alloc (.cells (encN n).cells 38)
  have h1 := h'.c1
  have hl := fun m => (h'.nil ((Upd.refl _ _).drewN m)).map.lookup key38 Try.underlying66 (zero23 _) n true
  have hz : ((Option.map encU (get s.at_ n)).getD (encU 0)) = encU ((get s.at_ n).getD 0) := by cases get s.at_ n <;> rfl
  rw [hz] at hl
  simp only [if_true] at hl
  have hok := ok_clk h'
  clear h h' hz
  generalize encU ((get s.at_ n).getD 0) = v at *
  generalize (get s.at_ n).isSome = b at *
  simp only [encN, Value.cells] at *
  go_enter Try.func14, Try.ntmps14
  go_wp2_with fail
  refine hok.mono ?_
  rintro e w' ⟨rfl, rfl⟩
  clear hok
  go_wp2_with fail
  go_quiet (fail)
  go_wp2_with fail
  go_ret2
  exact ⟨rfl, ((Upd.refl _ _).alloc _).drewN _⟩

theorem now_clk {w : World} {L : Lay} {s : Clk} (h : ClkIn w L s) : Calls Try.prog 15 #[L.ptr] w fun e w' => e = .returned (encU s.now) ∧ w = w' := by
  have h0 := h.c0
  have hok := ok_clk h
  clear h
  unfold encU
  go_enter Try.func15, Try.ntmps15
  go_wp2_with (go_at_call 26; refine hok.mono ?_; rintro e w' ⟨rfl, rfl⟩)
  go_ret
  exact ⟨rfl, rfl⟩

theorem len_clk {w : World} {L : Lay} {s : Clk} (h : ClkIn w L s) : Calls Try.prog 13 #[L.ptr] w fun e w' => e = .returned (.int .i64 s.at_.length) ∧ w = w' := by
  have h1 := h.c1
  have hok := ok_clk h
  have hl := fun rt => h.map.len Try.underlying66 rt
  clear h
  go_enter Try.func13, Try.ntmps13
  go_wp2_with (go_at_call 26; refine hok.mono ?_; rintro e w' ⟨rfl, rfl⟩)
  go_ret
  exact ⟨rfl, rfl⟩

section
variable {w w' : World} {L : Lay} {s : Clk}
/-- what stands behind Stop -/
def Clk.stop (s : Clk) (n : Nm) : Clk := { s with at_ := del s.at_ n }

theorem ClkIn.cA (h : ClkIn w L s) : L.c ≠ L.A := by
  intro e
  obtain ⟨es, clock, hb, _⟩ := h.map
  have := h.blk
  rw [e, hb] at this
  cases this
theorem ClkIn.cW (h : ClkIn w L s) {i : Nat} (hi : i < 64) : L.c ≠ L.W i := by
  intro e
  obtain ⟨l, ⟨es, clock, hb, _⟩, _⟩ := h.wheel i hi
  have := h.blk
  rw [e, hb] at this
  cases this

theorem ClkIn.stopped (h : ClkIn w L s) {n : Nm} {t : Nat} (hg : get s.at_ n = some t)
    (ho : ∀ b, L.foot b → b ≠ L.A → b ≠ L.W (t % 64) → w'.heap[b]? = w.heap[b]?) (hA : MapOf Try.prog 38 encN encU w' L.A (del s.at_ n))
    (hW : ∃ l, (∀ m u, get l m = some u ↔ (get s.at_ m = some u ∧ u % 64 = t % 64)) ∧ (l.map (·.1)).Nodup ∧ MapOf Try.prog 38 encN encU w' (L.W (t % 64)) (del l n)) : ClkIn w' L (s.stop n) := by
  have hn := h.map.nodup
  refine ⟨(ho _ (.inl rfl) h.cA (h.cW (Nat.mod_lt _ (by omega)))).trans h.blk, hA, fun i hi => ?_, h.inj, h.neA, h.now, fun m u hm => ?_, ?_⟩
  · by_cases hit : i = t % 64
    · obtain ⟨l, h2, h3, h1⟩ := hW
      subst hit
      refine ⟨_, h1, fun m u => ?_⟩
      simp only [Clk.stop, get_del hn, get_del h3]
      by_cases hmn : m = n
      · simp [hmn]
      · simp [hmn, h2]
    · obtain ⟨l, h1, h2⟩ := h.wheel i hi
      refine ⟨l, h1.congr (ho _ (.inr (.inr ⟨i, hi, rfl⟩)) (h.neA i hi) (fun e => hit (h.inj _ _ hi (Nat.mod_lt _ (by omega)) e))), fun m u => ?_⟩
      rw [h2]
      simp only [Clk.stop, get_del hn]
      by_cases hmn : m = n
      · subst hmn
        simp [hg]
        intro e1 e2
        subst e1
        exact hit e2.symm
      · simp [hmn]
  · simp only [Clk.stop, get_del hn] at hm
    split at hm
    · cases hm
    · exact h.times m u hm
  · have := length_del hn n
    have := h.few
    simp only [Clk.stop]
    split at * <;> omega

end

theorem stop_clk {w : World} {L : Lay} {s : Clk} (h : ClkIn w L s) (n : Nm) :
    Calls Try.prog 17 #[L.ptr, encN n] w fun e w' => e = .returned (.bool (get s.at_ n).isSome) ∧ Upd L.foot w w' ∧ ClkIn w' L (s.stop n) := by
  cases hg : get s.at_ n with
  | none =>
    have hu := until_clk (h.alloc (.cells (encN n).cells 38)) n
    rw [hg] at hu
    have he : s.stop n = s := by unfold Clk.stop; rw [del_eq_self hg]
    rw [he]
    have hc := fun w' (hu : Upd Nil (w.alloc (.cells (encN n).cells 38)) w') => (h.alloc (.cells (encN n).cells 38)).nil hu
    clear h hg he
    simp only [encN, Value.cells, encU] at *
    go_enter Try.func17, Try.ntmps17
    go_wp2_with fail
    refine hu.mono ?_
    rintro e w' ⟨rfl, hu1⟩
    have hc1 := hc _ hu1
    have hu2 : Upd L.foot w w' := ((Upd.refl _ w).alloc (.cells (encN n).cells 38)).then hu1 (fun _ k => k.elim)
    clear hu1 hu hc
    go_wp2_with fail
    go_ret
    exact ⟨rfl, hu2, hc1⟩
  | some t =>
    have hu := until_clk (h.alloc (.cells (encN n).cells 38)) n
    rw [hg] at hu
    have hc := fun w' (hu : Upd Nil (w.alloc (.cells (encN n).cells 38)) w') => (h.alloc (.cells (encN n).cells 38)).nil hu
    have hbox : ∀ w', Upd Nil (w.alloc (.cells (encN n).cells 38)) w' → w'.heap[w.heap.size]? = some (.cells (encN n).cells 38) := fun w' hu => hu.keep (hpNew _ _) (fun k => k)
    have hlt := h.lt
    clear h
    simp only [encN, Value.cells, encU] at *
    go_enter Try.func17, Try.ntmps17
    go_wp2_with fail
    refine hu.mono ?_
    rintro e w1 ⟨rfl, hu1⟩
    have hc1 := hc _ hu1
    have hb := hbox _ hu1
    have hu2 : Upd L.foot w w1 := ((Upd.refl _ w).alloc _).then hu1 (fun _ k => k.elim)
    obtain ⟨e0, e1, e2, e3⟩ := box4 hb
    have c1 := hc1.c1
    obtain ⟨w2, hd, hmA, hu3, hz2⟩ := hc1.drew.map.delete key38 Try.underlying66 n 0 38
    have hu3 : Upd (· = L.A) w1 w2 := (Upd.refl _ w1).drew.trans hu3
    simp only [encN] at hd
    clear hu hc hbox hu1
    go_wp2_with fail
    go_still_tail 5, (by kernel_rfl)
    go_wp2_with fail
    have ht : t < 4294967296 := by have := hc1.times n t hg; omega
    have hi : t % 64 < 64 := Nat.mod_lt _ (by omega)
    obtain ⟨l, hl, hspec⟩ := hc1.wheel (t % 64) hi
    have hxA : w.heap.size ≠ L.A := fun e => by have := hlt L.A (.inr (.inl rfl)); omega
    have hi4 : L.foot (L.W (t % 64)) := .inr (.inr ⟨_, hi, rfl⟩)
    obtain ⟨e0, e1, e2, e3⟩ := box4 (hu3.keep hb hxA)
    obtain ⟨w4, hd2, hm2, hu4, hz4⟩ := (hl.upd hu3 (hc1.neA _ hi)).drew.delete key38 Try.underlying66 n 0 38
    have hs := slot_at' (w := w2.drew) (m := L.W (t % 64)) ht ((hu3.cell (heap_lt hc1.blk) hc1.cA).trans (hc1.cw hi))
    have hnd := hl.nodup
    have hspec := Lib.hid hspec
    simp only [encN, encU] at hd2 hs
    refine wp_region_still_tail 4 (by kernel_rfl) (by kernel_rfl) ?_
    simp only [List.take_succ_cons, List.take_zero, List.drop_succ_cons, List.drop_zero]
    clear hd hl hb
    still_step
    still_step
    still_call hs
    still_step
    refine wpStill_nil ?_
    go_wp2_with fail
    go_ret
    refine ⟨rfl, ?_, ?_⟩
    · exact ((hu2.trans (hu3.mono (fun i _ e => e ▸ .inr (.inl rfl)))).drew).trans (hu4.mono (fun i _ e => e ▸ hi4))
    · refine hc1.stopped hg (fun b hb hbA hbW => ?_) ?_ ⟨l, hspec.out, hnd, hm2⟩
      · exact (hu4.block b (by rw [World.size_drew, hz2]; exact hc1.lt b hb) hbW).trans (hu3.block b (hc1.lt b hb) hbA)
      · exact hmA.drew.upd hu4 (fun e => hc1.neA _ hi (Eq.symm e))
end Go.Proofs.Ytkalckpfepanaaa

/- The clock: Set, New. -/
import Derived.Test.YtkalckpfepanaaaClkA
import Derived.Test.YtkalckpfepanaaaRegS
namespace Go.Proofs.Ytkalckpfepanaaa
set_option linter.unusedVariables false
set_option linter.unusedSimpArgs false
set_option linter.unusedSectionVars false
open Go.My Go.RowKit Go.ChangeMaps
set_option maxHeartbeats 400000
set_option maxRecDepth 100000

/-- what Set answers -/
def Clk.setE (s : Clk) (n : Nm) (after : Nat) : Nat :=
  if after = 0 then 1 else if after > 2147483647 - s.now then 17 else if (get s.at_ n).isNone ∧ s.at_.length = 1024 then 5 else 0
def Clk.set (s : Clk) (n : Nm) (after : Nat) : Clk :=
  if s.setE n after = 0 then { s with at_ := put (del s.at_ n) n (s.now + after) } else s

section
variable {w w' : World} {L : Lay} {s : Clk}
theorem ClkIn.inserted (h : ClkIn w L s) {n : Nm} {t : Nat} (hg : get s.at_ n = none) (hfew : s.at_.length < 1024) (ht : t ≤ 2147483647)
    (ho : ∀ b, L.foot b → b ≠ L.A → b ≠ L.W (t % 64) → w'.heap[b]? = w.heap[b]?) (hA : MapOf Try.prog 38 encN encU w' L.A (put s.at_ n t))
    (hW : ∃ l, (∀ m u, get l m = some u ↔ (get s.at_ m = some u ∧ u % 64 = t % 64)) ∧ (l.map (·.1)).Nodup ∧ MapOf Try.prog 38 encN encU w' (L.W (t % 64)) (put l n t)) :
    ClkIn w' L { s with at_ := put s.at_ n t } := by
  have hn := h.map.nodup
  refine ⟨(ho _ (.inl rfl) h.cA (h.cW (Nat.mod_lt _ (by omega)))).trans h.blk, hA, fun i hi => ?_, h.inj, h.neA, h.now, fun m u hm => ?_, ?_⟩
  · by_cases hit : i = t % 64
    · obtain ⟨l, h2, h3, h1⟩ := hW
      subst hit
      refine ⟨_, h1, fun m u => ?_⟩
      simp only [get_put hn, get_put h3]
      by_cases hmn : m = n
      · simp [hmn]
        intro e; rw [e]
      · simp [hmn, h2]
    · obtain ⟨l, h1, h2⟩ := h.wheel i hi
      refine ⟨l, h1.congr (ho _ (.inr (.inr ⟨i, hi, rfl⟩)) (h.neA i hi) (fun e => hit (h.inj _ _ hi (Nat.mod_lt _ (by omega)) e))), fun m u => ?_⟩
      rw [h2]
      simp only [get_put hn]
      by_cases hmn : m = n
      · subst hmn
        simp [hg]
        intro e1 e2
        subst e1
        exact hit e2.symm
      · simp [hmn]
  · simp only [get_put hn] at hm
    split at hm
    · cases hm; exact ht
    · exact h.times m u hm
  · simp only [length_put, hg, Option.isSome_none, Bool.false_eq_true, if_false]
    omega
end

theorem set_clk {w : World} {L : Lay} {s : Clk} (h : ClkIn w L s) (n : Nm) (after : Nat) (ha : after < 4294967296) :
    Calls Try.prog 11 #[L.ptr, encN n, encU after] w fun e w' => e = .returned (.int .i64 (s.setE n after)) ∧ Upd L.foot w w' ∧ ClkIn w' L (s.set n after) := by
  have hlt := h.lt
  have hu := until_clk (h.alloc (.cells (encN n).cells 38)) n
  have hc := fun w' (hu : Upd Nil (w.alloc (.cells (encN n).cells 38)) w') => (h.alloc (.cells (encN n).cells 38)).nil hu
  have hbox : ∀ w', Upd Nil (w.alloc (.cells (encN n).cells 38)) w' → w'.heap[w.heap.size]? = some (.cells (encN n).cells 38) := fun w' hu => hu.keep (hpNew _ _) (fun k => k)
  have hnow := h.now
  clear h
  simp only [encN, Value.cells, encU] at *
  go_enter Try.func11, Try.ntmps11
  go_wp2_with fail
  refine hu.mono ?_
  rintro e w1 ⟨rfl, hu1⟩
  have hc1 := hc _ hu1
  have hb := hbox _ hu1
  have hu2 : Upd L.foot w w1 := ((Upd.refl _ w).alloc _).then hu1 (fun _ k => k.elim)
  clear hu hc hbox hu1
  go_wp2_with fail
  refine (ok_clk hc1).mono ?_
  rintro e w2 ⟨rfl, rfl⟩
  obtain ⟨e0, e1, e2, e3⟩ := box4 hb
  have c0 := hc1.c0
  have c1 := hc1.c1
  have hl := fun rt => hc1.map.len Try.underlying66 rt
  go_wp2_with fail
  · have h0 : after = 0 := by have := eq_of_beq ‹((after : Int) == 0) = true›; omega
    have he : s.setE n after = 1 := by simp [Clk.setE, h0]
    have hs : s.set n after = s := by simp [Clk.set, he]
    rw [he, hs]
    go_ret
    exact ⟨rfl, hu2, hc1⟩
  · have h0 : ¬ after = 0 := by have := ne_of_beq_false ‹((after : Int) == 0) = false›; omega
    have he : s.setE n after = 17 := by unfold Clk.setE; rw [if_neg h0, if_pos (by omega)]
    have hs : s.set n after = s := by simp [Clk.set, he]
    rw [he, hs]
    go_ret
    exact ⟨rfl, hu2, hc1⟩
  · have h0 : ¬ after = 0 := by have := ne_of_beq_false ‹((after : Int) == 0) = false›; omega
    have h5 : s.at_.length = 1024 := by have := eq_of_beq ‹((s.at_.length : Int) == 1024) = true›; omega
    have hgn : get s.at_ n = none := by assumption
    have he : s.setE n after = 5 := by unfold Clk.setE; rw [if_neg h0, if_neg (by omega), if_pos ⟨by rw [hgn]; rfl, h5⟩]
    have hs : s.set n after = s := by simp [Clk.set, he]
    rw [he, hs]
    go_ret
    exact ⟨rfl, hu2, hc1⟩
  all_goals
    have he : s.setE n after = 0 := by
      have h0 : ¬ after = 0 := by have := ne_of_beq_false ‹((after : Int) == 0) = false›; omega
      unfold Clk.setE; rw [if_neg h0, if_neg (by omega), if_neg ?_]
      first
        | (have := ne_of_beq_false ‹((s.at_.length : Int) == 1024) = false›; exact fun h => by omega)
        | (have hgn : ¬ get s.at_ n = none := by assumption
           exact fun h => hgn (by simpa using h.1))
    have hle : (after : Int) ≤ 2147483647 - s.now := by assumption
    have hfew : (s.stop n).at_.length < 1024 := by
      have h1 := length_del hc1.map.nodup n
      have h2 := hc1.few
      show (del s.at_ n).length < 1024
      first
        | (have hgn : get s.at_ n = none := by assumption
           have := ne_of_beq_false ‹((s.at_.length : Int) == 1024) = false›
           rw [hgn] at h1; simp at h1; omega)
        | (have hgn : ¬ get s.at_ n = none := by assumption
           cases hg : get s.at_ n with
           | none => exact absurd hg hgn
           | some t =>
             rw [hg] at h1; simp at h1
             have := List.length_pos_of_mem (get_some_mem hg)
             omega)
    clear hl c0 c1
    have hst := stop_clk hc1 n
    simp only [encN] at hst
    refine hst.mono ?_
    rintro e w3 ⟨rfl, hu3, hc3⟩
    clear hst
    have hb3 := hu3.keep hb (fun k => by have := hlt _ k; omega)
    obtain ⟨e0, e1, e2, e3⟩ := box4 hb3
    have c0 : w3.cell? ⟨L.c, 0, none⟩ = some (.int .u32 s.now) := hc3.c0
    have c1 := hc3.c1
    go_wp2_with fail
    have ht : s.now + after ≤ 2147483647 := by omega
    have hi : (s.now + after) % 64 < 64 := Nat.mod_lt _ (by omega)
    obtain ⟨w4, nn, x, hme, hu4, hz4, hst⟩ := hc3.drew.map.entryUpdate key38 Try.underlying66 (zero23 _) n (s.now + after)
    have hu4 : Upd (· = L.A) w3 w4 := (Upd.refl _ w3).drew.trans hu4
    obtain ⟨w5, hes, hmA, hu5, hz5⟩ := hst w4 rfl
    obtain ⟨l, hl, hspec⟩ := hc3.wheel _ hi
    have hnd := hl.nodup
    have hspec := Lib.hid hspec
    obtain ⟨w6, hmu, hmW, hu6, hz6⟩ := ((hl.upd hu4 (hc3.neA _ hi)).upd hu5 (hc3.neA _ hi)).update key38 Try.underlying66 n (s.now + after)
    have hs := fun w' h => slot_at' (w := w') (c := L.c) (m := L.W ((s.now + after) % 64)) (t := s.now + after) (by omega) h
    have hcw := hc3.cw hi
    let S : World → Prop := fun w' => w'.heap[L.c]? = w3.heap[L.c]? ∧ w'.heap[w.heap.size]? = w3.heap[w.heap.size]?
    have hi4 : L.foot (L.W ((s.now + after) % 64)) := .inr (.inr ⟨_, hi, rfl⟩)
    have hz3 : w3.heap.size = w4.heap.size := by rw [hz4]; rfl
    have hfin : ClkIn w6 L (s.set n after) := by
      have := hc3.inserted (n := n) (t := s.now + after) (w' := w6) (by simp [Clk.stop, get_del hc1.map.nodup]) hfew ht (fun b hb hbA hbW => ?_) (hmA.upd hu6 (fun e => hc3.neA _ hi (Eq.symm e))) ⟨l, hspec.out, hnd, hmW⟩
      · rw [show s.set n after = { s with at_ := put (del s.at_ n) n (s.now + after) } by unfold Clk.set; rw [if_pos he]]
        exact this
      · have hb3 := hc3.lt b hb
        exact (hu6.block b (by omega) hbW).trans ((hu5.block b (by omega) hbA).trans (hu4.block b hb3 hbA))
    have hupd : Upd L.foot w w6 := (((hu2.trans hu3).trans (hu4.mono fun i _ e => e ▸ .inr (.inl rfl))).trans (hu5.mono fun i _ e => e ▸ .inr (.inl rfl))).trans (hu6.mono fun i _ e => e ▸ hi4)
    have hnA : ∀ x, L.foot x → w.heap.size ≠ x := fun x hx e => by have := hlt x hx; omega
    have hS4 : S w4 := ⟨hu4.block _ (heap_lt hc3.blk) hc3.cA, hu4.block _ (heap_lt hb3) (hnA _ (.inr (.inl rfl)))⟩
    have hS5 : S w5 := ⟨(hu5.block _ (by rw [← hz3]; exact heap_lt hc3.blk) hc3.cA).trans hS4.1, (hu5.block _ (by rw [← hz3]; exact heap_lt hb3) (hnA _ (.inr (.inl rfl)))).trans hS4.2⟩
    have hS6 : S w6 := ⟨(hu6.block _ (by rw [hz5, ← hz3]; exact heap_lt hc3.blk) (hc3.cW hi)).trans hS5.1, (hu6.block _ (by rw [hz5, ← hz3]; exact heap_lt hb3) (hnA _ hi4)).trans hS5.2⟩
    clear hu2 hu3 hu4 hu5 hu6 hz3 hz4 hz5 hz6 hst hl hmA hmW hb hb3 hc1 hc3 hnA
    simp only [encN, encU, Int.natCast_add] at hme hes hmu hs
    have hF : ∀ w', S w' → w'.cell? ⟨L.c, 1, none⟩ = some (.map (some L.A)) ∧ w'.cell? ⟨w.heap.size, 0, none⟩ = some (.int .u8 n.kind.toNat) ∧ w'.cell? ⟨w.heap.size, 1, none⟩ = some (.int .u8 n.tx.node.toNat) ∧
        w'.cell? ⟨w.heap.size, 2, none⟩ = some (.int .u32 n.tx.boot.toNat) ∧ w'.cell? ⟨w.heap.size, 3, none⟩ = some (.int .u32 n.tx.num.toNat) ∧ w'.cell? ⟨L.c, 2 + (s.now + after) % 64, none⟩ = some (.map (some (L.W ((s.now + after) % 64)))) := fun w' ⟨h1, h2⟩ =>
      ⟨(World.cell?_of_block (w := w3) h1).trans c1, (World.cell?_of_block (w := w3) h2).trans e0, (World.cell?_of_block (w := w3) h2).trans e1, (World.cell?_of_block (w := w3) h2).trans e2, (World.cell?_of_block (w := w3) h2).trans e3, (World.cell?_of_block (w := w3) h1).trans hcw⟩
    clear c1 e0 e1 e2 e3 hcw
    refine wp_region_S 11 S (by kernel_rfl) (by kernel_rfl) ⟨rfl, rfl⟩ ?_
    simp only [List.take_succ_cons, List.take_zero, List.drop_succ_cons, List.drop_zero]
    iterate 7
      apply wpTake_plain rfl
      · intro w' hw'
        obtain ⟨f1, f2, f3, f4, f5, f6⟩ := hF w' hw'
        go_simp
        first | done | exact rfl | exact ⟨rfl, rfl⟩
      go_frame
    · apply wpTake_plain rfl
      · intro w' hw'
        obtain ⟨f1, f2, f3, f4, f5, f6⟩ := hF w' hw'
        go_simp
        exact hs w' f6
      go_frame
      iterate 3
        apply wpTake_plain rfl
        · intro w' hw'
          obtain ⟨f1, f2, f3, f4, f5, f6⟩ := hF w' hw'
          go_simp
          first | done | exact rfl | exact ⟨rfl, rfl⟩
        go_frame
      refine wpTake_nil ?_
      iterate 4
        refine wpListH_plain rfl fun K hK => ?_
        go_simp
        refine hK _ _ ?_ ?_
        · assumption
        clear hK K
        try go_frame
      refine wpListH_nil ?_
      simp only [NoPan]
      go_wp2_with fail
      go_ret
      exact ⟨by rw [he]; rfl, hupd, hfin⟩
end Go.Proofs.Ytkalckpfepanaaa

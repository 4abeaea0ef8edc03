/- The reference's clock: Stop. -/
import Derived.Test.YtkalckpfepanaaaRefB
namespace Go.Proofs.Ytkalckpfepanaaa
set_option linter.unusedVariables false
set_option linter.unusedSimpArgs false
set_option linter.unusedSectionVars false
open Go.My Go.RowKit Go.ChangeMaps
set_option maxHeartbeats 400000
set_option maxRecDepth 100000

def Ref.stop (s : Ref) (n : Nm) : Ref := { s with l := del s.l n }

theorem wrap1 (k : Nat) (h : k ≤ 1024) : IntKind.i64.wrap ((k : Int) + 1) = (k : Int) + 1 := by
  exact IntWalk.i64_in _ (by omega)
theorem RefIn.put {w w' : World} {R : Nat} {s : Ref} (h : RefIn w R s) {v : Value} {l : List (Nm × Nat)} (hb : w'.heap[R]? = some (.cells #[.int .u32 s.now, v] 50)) (hs : SliceAt flT 5 (R + 1) w' v l) (hf : l.length ≤ 1024) (ht : ∀ p ∈ l, p.2 ≤ 2147483647) (hn : (l.map (·.1)).Nodup) : RefIn w' R { s with l := l } :=
  ⟨⟨v, hb, hs⟩, hf, h.now, ht, hn⟩

theorem stop_ref {w : World} {R : Nat} {s : Ref} (h : RefIn w R s) (n : Nm) :
    Calls Try.prog 21 #[rptr R, encN n] w fun e w' => e = .returned (.bool (get s.l n).isSome) ∧ Upd (· = R) w w' ∧ RefIn w' R (s.stop n) := by
  have h0 := h.nil ((Upd.refl Nil w).alloc (.cells (encN n).cells 27))
  have hu := (Upd.refl Nil w).alloc (.cells (encN n).cells 27)
  have hp := place_ref h0 n
  simp only [encN, Value.cells] at *
  rcases place_cases h0.nodup n with ⟨k, hk, hpk, hkn, hg, hdel⟩ | ⟨hpk, hg, hdel⟩
  · rw [hpk] at hp
    rw [hg]
    simp only [Option.isSome_some]
    have hfew := h0.few
    have hR := h.lt
    go_enter Try.func21, Try.ntmps21
    go_wp2_with fail
    refine hp.mono ?_
    rintro e w1 ⟨rfl, hu1⟩
    have h1 := h0.nil hu1
    have hu1 := hu.trans hu1
    clear hp h0 hu h
    obtain ⟨v, hb1, hs1⟩ := h1.out
    have hd : decide ((k : Int) < 0) = false := decide_eq_false (by omega)
    go_wp2_with fail
    obtain ⟨i79, hi79, hz0, hz1, hz2⟩ := info_parts info79
    obtain ⟨v1, ht1, hst⟩ := hs1.run_take (P := Try.prog) Try.underlying48 size79 (n := k) (by omega)
    obtain ⟨v2, ht2, hsd⟩ := hs1.run_drop (P := Try.prog) Try.underlying48 size79 (n := k + 1) (by omega)
    have hRl : R < w1.heap.size := by have := hu1.size; omega
    obtain ⟨v3, w3, hr3, hown3, hg3⟩ := run_append_row (ty := 48) (xs := []) (enc := flT) (base := w1.heap.size) Try.underlying48 hi79 hz0 hz1 hz2 rfl (by decide) size79 flT_len flT_one (ownsRow_nil w1.drew w1.heap.size 79 5) rfl (hst.nil (Upd.refl _ _).drew) (by simp; unfold maxLen; omega) (by simp; omega) (Nat.le_refl _)
    have hu3 : Upd Nil w1 w3 := (Upd.refl Nil w1).drew.grown hg3 (by intro i hi; simp [Value.ownBlock] at hi)
    obtain ⟨v4, w4, hr4, hown4, hg4⟩ := run_append_row (ty := 48) Try.underlying48 hi79 hz0 hz1 hz2 rfl (by decide) size79 flT_len flT_one hown3 rfl (hsd.nil hu3) (by simp; unfold maxLen; omega) (by simp; omega) hu3.size
    have hu4 : Upd Nil w1 w4 := hu3.grown hg4 (by intro i hi hlt; have := (ownsRow_block hown3 hi).1; omega)
    obtain ⟨a4, c4, rfl⟩ := owns_slice hown4
    generalize hn4 : ([] ++ s.l.take k ++ s.l.drop (k + 1)).length = n4 at *
    have hs4 := (sliceAt_of_owns hown4 hn4.symm flT_len).base_mono (show R + 1 ≤ w1.heap.size by omega)
    have hb4 := hu4.keep hb1 (fun k => k)
    have hb5 := My.hpSetSame hb4 1 (.slice a4 n4 c4)
    have hu5 : Upd (· = R) w1 (w4.setCell ⟨R, 1, none⟩ (.slice a4 n4 c4)) := (hu4.mono (T := (· = R)) (fun _ _ k => k.elim)).setCell (p := ⟨R, 1, none⟩) (fun _ => rfl) (.slice a4 n4 c4)
    have hs5 : SliceAt flT 5 (R + 1) (w4.setCell ⟨R, 1, none⟩ (.slice a4 n4 c4)) (.slice a4 n4 c4) (([] ++ s.l.take k) ++ s.l.drop (k + 1)) := hs4.upd ((Upd.refl (· = R) w4).setCell (p := ⟨R, 1, none⟩) (fun _ => rfl) (.slice a4 n4 c4)) (fun b hb _ e => by omega)
    simp only [List.nil_append] at hs5
    rw [← hdel] at hs5
    have hfin : RefIn (w4.setCell ⟨R, 1, none⟩ (.slice a4 n4 c4)) R (s.stop n) := h1.put hb5 hs5 (Nat.le_trans (del_len _ _) hfew) (fun p hp => h1.times p (List.mem_filter.1 hp).1) (nodup_del h1.nodup n)
    have hf4 := My.frozen_of_heap hb4 1
    have hc4 := (box2 hb4).2
    have H := Lib.hid (And.intro (hu1.mono (T := (· = R)) (fun _ _ k => k.elim) |>.trans hu5) hfin)
    have hS3 : w3.heap[R]? = w1.heap[R]? := hu3.block R hRl (fun k => k)
    have hS4 : w4.heap[R]? = w1.heap[R]? := hu4.block R hRl (fun k => k)
    clear hs4 hs5 hb5 hu5 hfin hown3 hown4 hg3 hg4 hsd hst hs1 hb4 hu4 hu3 hu1 hz0 hz1 hz2 hi79 hdel h1
    have ht1 := fun w' => ht1 w'
    have hF : ∀ w' : World, w'.heap[R]? = w1.heap[R]? → w'.cell? ⟨R, 0, none⟩ = some (.int .u32 s.now) ∧ w'.cell? ⟨R, 1, none⟩ = some v := fun w' hw => box2 (hw.trans hb1)
    refine wp_region_I [0, 1, 2, 3, 4, 5, 6, 8, 9, 10, 11, 12, 13, 14] 5 18 (fun w' => w'.heap[R]? = w1.heap[R]?) (by kernel_rfl) (by kernel_rfl) rfl rfl ?_
    simp only [pickO, nthO]
    iterate 14
      apply wpTake_plain rfl
      · intro w' hw'
        obtain ⟨f1, f2⟩ := hF w' hw'
        have f3 := ht1 w'
        have f4 := ht2 w'
        simp only [Int.natCast_add, Int.natCast_one] at f4
        go_simp
        try (rw [wrap1 k (by omega)])
        try (rw [f4])
        try go_simp
        first | done | exact rfl | exact ⟨rfl, rfl⟩
      go_frame
    refine wpTake_nil ?_
    refine wpAnyT_one (i := 7) (by kernel_rfl) (by kernel_rfl) fun K hK => ?_
    simp only [nthO]
    refine append_wp rfl rfl rfl hr3 ?_
    refine hK _ _ (.inr hS3) ?_
    clear hK K
    try go_frame
    refine wpAnyT_one (i := 15) (by kernel_rfl) (by kernel_rfl) fun K hK => ?_
    simp only [nthO]
    refine append_wp rfl rfl rfl hr4 ?_
    refine hK _ _ (.inr hS4) ?_
    clear hK K
    try go_frame
    refine wpAnyT_one (i := 16) (by kernel_rfl) (by kernel_rfl) fun K hK => ?_
    simp only [nthO]
    go_simp
    refine hK _ _ (.inr hS4) ?_
    clear hK K
    try go_frame
    refine wpAnyT_one (i := 17) (by kernel_rfl) (by kernel_rfl) fun K hK => ?_
    simp only [nthO]
    go_simp
    refine hK _ _ (.inr hS4) ?_
    clear hK K
    try go_frame
    refine wpAnyT_one (i := 18) (by kernel_rfl) (by kernel_rfl) fun K hK => ?_
    simp only [nthO]
    go_simp
    refine hK _ _ (.inl rfl) ?_
    clear hK K
    try go_frame
    refine wpAnyT_zero (by kernel_rfl) ?_
    simp only [NoPan]
    go_wp2_with fail
    go_ret
    exact ⟨rfl, H.out⟩
  · rw [hpk] at hp
    rw [hg]
    simp only [Option.isSome_none]
    have hst : s.stop n = s := by unfold Ref.stop; rw [hdel]
    rw [hst]
    go_enter Try.func21, Try.ntmps21
    go_wp2_with fail
    refine hp.mono ?_
    rintro e w1 ⟨rfl, hu1⟩
    have hr1 := h0.nil hu1
    have hu1 := hu.trans hu1
    clear hp h0 hu hst
    go_wp2_with fail
    go_ret
    exact ⟨rfl, hu1.mono (fun _ _ k => k.elim), hr1⟩
end Go.Proofs.Ytkalckpfepanaaa

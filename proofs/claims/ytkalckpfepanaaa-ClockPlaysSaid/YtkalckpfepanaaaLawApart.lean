/- ClockApart: the walk. -/
import Derived.Test.YtkalckpfepanaaaLawA
import Derived.Test.YtkalckpfepanaaaEq
namespace Go.Proofs.Ytkalckpfepanaaa
set_option linter.unusedVariables false
set_option linter.unusedSimpArgs false
set_option linter.unusedSectionVars false
open Go.My Go.RowKit Go.ChangeMaps
set_option maxHeartbeats 400000
set_option maxRecDepth 100000

def encA (k : UInt8) (m : Nm) (after : UInt32) : Value := .agg #[.int .u8 k.toNat, .int .u8 m.kind.toNat, .int .u8 m.tx.node.toNat, .int .u32 m.tx.boot.toNat, .int .u32 m.tx.num.toNat, .int .u32 after.toNat]

theorem apart_same (a : Nm) (k : UInt8) (m : Nm) (after : UInt32) (w : World) :
    Calls Try.prog 4 #[encN a, encN a, encA k m after] w fun e w' => e = .returned (.bool true) ∧ Upd Nil w w' := by
  have heq := fun w' => eql27 a a w'
  simp only [decide_true] at heq
  simp only [encN, encA] at *
  go_enter Try.func4, Try.ntmps4
  go_wp2_with (go_at_call 16; refine (alive_true _).mono ?_; rintro e w' ⟨rfl, hu⟩)
  go_ret
  exact ⟨rfl, (((Upd.refl _ _).alloc _).alloc _).alloc _ |>.trans hu⟩

theorem Clk.set_get {s : Clk} (hn : (s.at_.map (·.1)).Nodup) {n m : Nm} (hm : m ≠ n) (after : Nat) : get (s.set n after).at_ m = get s.at_ m := by
  unfold Clk.set
  split
  · rw [get_put (nodup_del hn _), if_neg hm, get_del hn, if_neg hm]
  · rfl
theorem Clk.stop_get {s : Clk} (hn : (s.at_.map (·.1)).Nodup) {n m : Nm} (hm : m ≠ n) : get (s.stop n).at_ m = get s.at_ m := by
  unfold Clk.stop
  rw [get_del hn, if_neg hm]
theorem set7 (a : Nm) : Clk.setE ⟨0, []⟩ a 7 = 0 ∧ get (Clk.set ⟨0, []⟩ a 7).at_ a = some 7 := by
  have h : Clk.setE ⟨0, []⟩ a 7 = 0 := rfl
  refine ⟨h, ?_⟩
  unfold Clk.set
  rw [if_pos h, get_put (by simp [del])]
  simp

theorem apart_walk (a b : Nm) (hab : a ≠ b) (k : UInt8) (m : Nm) (after : UInt32) (w : World) :
    Calls Try.prog 4 #[encN a, encN b, encA k m after] w fun e w' => e = .returned (.bool true) ∧ Upd Nil w w' := by
  have heq := fun w' => eql27 a b w'
  simp only [hab, decide_false] at heq
  simp only [encN, encA] at *
  go_enter Try.func4, Try.ntmps4
  go_wp2_with fail
  generalize hW : ((w.alloc _).alloc _).alloc _ = W0
  have hbA : W0.heap[w.heap.size]? = some (.cells #[.int .u8 a.kind.toNat, .int .u8 a.tx.node.toNat, .int .u32 a.tx.boot.toNat, .int .u32 a.tx.num.toNat] 27) := by rw [← hW]; exact hpOld _ (hpOld _ (hpNew _ _))
  have hbB : W0.heap[w.heap.size + 1]? = some (.cells #[.int .u8 b.kind.toNat, .int .u8 b.tx.node.toNat, .int .u32 b.tx.boot.toNat, .int .u32 b.tx.num.toNat] 27) := by rw [← hW]; exact hpOld _ (by simpa using hpNew (w.alloc _) _)
  have hbC : W0.heap[w.heap.size + 2]? = some (.cells #[.int .u8 k.toNat, .int .u8 m.kind.toNat, .int .u8 m.tx.node.toNat, .int .u32 m.tx.boot.toNat, .int .u32 m.tx.num.toNat, .int .u32 after.toNat] 32) := by rw [← hW]; simpa using hpNew ((w.alloc _).alloc _) _
  have hu0 : Upd Nil w W0 := by rw [← hW]; exact (((Upd.refl _ _).alloc _).alloc _).alloc _
  clear hW heq
  refine new_clk.mono ?_
  rintro e w1 ⟨L, rfl, hu1, hc1, hf1⟩
  obtain ⟨a0, a1, a2, a3⟩ := box4 (hu1.keep hbA (fun k => k))
  go_wp2_with fail
  refine (theirs_n a _).mono ?_
  rintro e w2 ⟨rfl, hu2⟩
  have hc2 := hc1.nil hu2
  have hu2 := hu1.trans hu2
  clear hc1 hu1
  obtain ⟨a0, a1, a2, a3⟩ := box4 (hu2.keep hbA (fun k => k))
  go_wp2_with fail
  obtain ⟨h71, h72⟩ := set7 a
  have hs := set_clk hc2 a 7 (by omega)
  rw [h71] at hs
  simp only [encN, encU] at hs
  refine hs.mono ?_
  rintro e w3 ⟨rfl, hu3, hc3⟩
  have hu3 := hu2.then hu3 (fun i hi hlt => by have := hf1 i hi; omega)
  clear hs hu2 hc2 h71 a0 a1 a2 a3
  obtain ⟨a0, a1, a2, a3⟩ := box4 (hu3.keep hbA (fun k => k))
  obtain ⟨b0, b1, b2, b3⟩ := box4 (hu3.keep hbB (fun k => k))
  obtain ⟨d0, d1, d2, d3, d4, d5⟩ := box6 (hu3.keep hbC (fun k => k))
  generalize hs1 : Clk.set ⟨0, []⟩ a 7 = s1 at *
  clear hs1
  have hfin : ∀ (w4 : World) (s2 : Clk), Upd Nil W0 w4 → ClkIn w4 L s2 → get s2.at_ a = some 7 → True := fun _ _ _ _ _ => trivial
  have hk : k.toNat < 256 := k.toNat_lt
  go_wp2_with fail
  -- Stop(b)
  · refine (theirs_n b _).mono ?_
    rintro e w4 ⟨rfl, hu4⟩
    have hc4 := hc3.nil hu4
    have hu4 := hu3.trans hu4
    go_wp2_with fail
    have hs := stop_clk hc4 b
    simp only [encN] at hs
    refine hs.mono ?_
    rintro e w5 ⟨rfl, hu5, hc5⟩
    have hg : get (s1.stop b).at_ a = some 7 := by rw [Clk.stop_get hc4.map.nodup hab]; exact h72
    have hu5 := hu4.then hu5 (fun i hi hlt => by have := hf1 i hi; omega)
    generalize s1.stop b = s2 at *
    clear hs hu4 hc4 hu3 hc3 h72 a0 a1 a2 a3 b0 b1 b2 b3 d0 d1 d2 d3 d4 d5
    obtain ⟨a0, a1, a2, a3⟩ := box4 (hu5.keep hbA (fun k => k))
    go_wp2_with fail
    refine (theirs_n a _).mono ?_
    rintro e w6 ⟨rfl, hu6⟩
    have hc6 := hc5.nil hu6
    have hu6 := hu5.trans hu6
    have ht := until_clk hc6 a
    rw [hg] at ht
    simp only [encN, encU, Option.getD_some, Option.isSome_some] at ht
    go_wp2_with fail
    refine ht.mono ?_
    rintro e w7 ⟨rfl, hu7⟩
    have hc7 := hc6.nil hu7
    have hu7 := hu6.trans hu7
    clear ht
    obtain ⟨a0, a1, a2, a3⟩ := box4 (hu7.keep hbA (fun k => k))
    go_wp2_with fail
    refine (theirs_n a _).mono ?_
    rintro e w8 ⟨rfl, hu8⟩
    have hc8 := hc7.nil hu8
    have hu8 := hu7.trans hu8
    have hs := stop_clk hc8 a
    rw [hg] at hs
    simp only [encN, Option.isSome_some] at hs
    go_wp2_with fail
    refine hs.mono ?_
    rintro e w9 ⟨rfl, hu9, hc9⟩
    have hu9 := hu8.then hu9 (fun i hi hlt => by have := hf1 i hi; omega)
    have hg9 : get (s2.stop a).at_ a = none := by unfold Clk.stop; rw [get_del hc8.map.nodup, if_pos rfl]
    clear hs
    obtain ⟨a0, a1, a2, a3⟩ := box4 (hu9.keep hbA (fun k => k))
    go_wp2_with fail
    refine (theirs_n a _).mono ?_
    rintro e w10 ⟨rfl, hu10⟩
    have hc10 := hc9.nil hu10
    have hu10 := hu9.trans hu10
    have hs := stop_clk hc10 a
    rw [hg9] at hs
    simp only [encN, Option.isSome_none] at hs
    go_wp2_with fail
    refine hs.mono ?_
    rintro e w11 ⟨rfl, hu11, hc11⟩
    have hu11 := hu10.then hu11 (fun i hi hlt => by have := hf1 i hi; omega)
    clear hs
    go_wp2_with fail
    refine (alive_true _).mono ?_
    rintro e w12 ⟨rfl, hu12⟩
    go_wp2_with fail
    go_ret
    exact ⟨rfl, hu0.trans (hu11.trans hu12)⟩
  -- Set(b, After)
  · refine wp_region_head_tail 5 (fun w' => Upd Nil w3 w') (by kernel_rfl) (by kernel_rfl) (Upd.refl _ _).drew ?_
    simp only [List.take_succ_cons, List.take_zero, List.drop_succ_cons, List.drop_zero]
    iterate 2
      apply wpQuiet_plain rfl
      · intro w' hw'
        obtain ⟨b0, b1, b2, b3⟩ := box4 (hw'.keep (hu3.keep hbB (fun k => k)) (fun k => k))
        go_simp
        first | done | exact rfl | exact ⟨rfl, rfl⟩
      go_frame
    apply wpQuiet_plain rfl
    · intro w' hw'
      go_simp
      exact (theirs_n b w').mono fun e w'' h => ⟨h.1, hw'.trans h.2⟩
    go_frame
    iterate 2
      apply wpQuiet_plain rfl
      · intro w' hw'
        obtain ⟨d0, d1, d2, d3, d4, d5⟩ := box6 (hw'.keep (hu3.keep hbC (fun k => k)) (fun k => k))
        go_simp
        first | done | exact rfl | exact ⟨rfl, rfl⟩
      go_frame
    refine wpQuiet_nil ?_
    intro w4 hu4
    have hc4 := hc3.nil hu4
    have hu4 := hu3.trans hu4
    have hs := set_clk hc4 b after.toNat after.toNat_lt
    simp only [encN, encU] at hs
    go_wp2_with fail
    refine hs.mono ?_
    rintro e w5 ⟨rfl, hu5, hc5⟩
    have hg : get (s1.set b after.toNat).at_ a = some 7 := by rw [Clk.set_get hc4.map.nodup hab]; exact h72
    have hu5 := hu4.then hu5 (fun i hi hlt => by have := hf1 i hi; omega)
    generalize s1.set b after.toNat = s2 at *
    clear hs hu4 hc4 hu3 hc3 h72 a0 a1 a2 a3 b0 b1 b2 b3 d0 d1 d2 d3 d4 d5
    obtain ⟨a0, a1, a2, a3⟩ := box4 (hu5.keep hbA (fun k => k))
    go_wp2_with fail
    refine (theirs_n a _).mono ?_
    rintro e w6 ⟨rfl, hu6⟩
    have hc6 := hc5.nil hu6
    have hu6 := hu5.trans hu6
    have ht := until_clk hc6 a
    rw [hg] at ht
    simp only [encN, encU, Option.getD_some, Option.isSome_some] at ht
    go_wp2_with fail
    refine ht.mono ?_
    rintro e w7 ⟨rfl, hu7⟩
    have hc7 := hc6.nil hu7
    have hu7 := hu6.trans hu7
    clear ht
    obtain ⟨a0, a1, a2, a3⟩ := box4 (hu7.keep hbA (fun k => k))
    go_wp2_with fail
    refine (theirs_n a _).mono ?_
    rintro e w8 ⟨rfl, hu8⟩
    have hc8 := hc7.nil hu8
    have hu8 := hu7.trans hu8
    have hs := stop_clk hc8 a
    rw [hg] at hs
    simp only [encN, Option.isSome_some] at hs
    go_wp2_with fail
    refine hs.mono ?_
    rintro e w9 ⟨rfl, hu9, hc9⟩
    have hu9 := hu8.then hu9 (fun i hi hlt => by have := hf1 i hi; omega)
    have hg9 : get (s2.stop a).at_ a = none := by unfold Clk.stop; rw [get_del hc8.map.nodup, if_pos rfl]
    clear hs
    obtain ⟨a0, a1, a2, a3⟩ := box4 (hu9.keep hbA (fun k => k))
    go_wp2_with fail
    refine (theirs_n a _).mono ?_
    rintro e w10 ⟨rfl, hu10⟩
    have hc10 := hc9.nil hu10
    have hu10 := hu9.trans hu10
    have hs := stop_clk hc10 a
    rw [hg9] at hs
    simp only [encN, Option.isSome_none] at hs
    go_wp2_with fail
    refine hs.mono ?_
    rintro e w11 ⟨rfl, hu11, hc11⟩
    have hu11 := hu10.then hu11 (fun i hi hlt => by have := hf1 i hi; omega)
    clear hs
    go_wp2_with fail
    refine (alive_true _).mono ?_
    rintro e w12 ⟨rfl, hu12⟩
    go_wp2_with fail
    go_ret
    exact ⟨rfl, hu0.trans (hu11.trans hu12)⟩
end Go.Proofs.Ytkalckpfepanaaa

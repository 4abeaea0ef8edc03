/- ClockFull: the walk. -/
import Derived.Test.YtkalckpfepanaaaRings
import Derived.Test.YtkalckpfepanaaaNob
namespace Go.Proofs.Ytkalckpfepanaaa
set_option linter.unusedVariables false
set_option linter.unusedSimpArgs false
set_option linter.unusedSectionVars false
open Go.My Go.RowKit Go.ChangeMaps
set_option maxHeartbeats 400000
set_option maxRecDepth 100000

/-- the name that bears a number -/
def nmOf (x : Nat) : Nm := ⟨0, ⟨0, 0, UInt32.ofNat x⟩⟩
theorem nmOf_enc {x : Nat} (h : x < 4294967296) : encN (nmOf x) = .agg #[.int .u8 0, .int .u8 0, .int .u32 0, .int .u32 x] := by
  have : (UInt32.ofNat x).toNat = x := UInt32.toNat_ofNat_of_lt' (by simpa [UInt32.size] using h)
  simp [encN, nmOf, this]
theorem nmOf_inj {x y : Nat} (hx : x < 4294967296) (hy : y < 4294967296) (h : nmOf x = nmOf y) : x = y := by
  have e : (UInt32.ofNat x).toNat = (UInt32.ofNat y).toNat := by unfold nmOf at h; simp only [Nm.mk.injEq, Tx.mk.injEq, true_and] at h; rw [h]
  rwa [UInt32.toNat_ofNat_of_lt' (by simpa [UInt32.size] using hx), UInt32.toNat_ofNat_of_lt' (by simpa [UInt32.size] using hy)] at e

/-- behind the first i of them -/
structure Filled (s : Clk) (i : Nat) : Prop where
  now : s.now = 0
  len : s.at_.length = min i 1024
  old : ∀ j, j < i → j < 1024 → (get s.at_ (nmOf (j + 1))).isSome
  new : ∀ j, i ≤ j → j < 2000 → get s.at_ (nmOf (j + 1)) = none

theorem Filled.setE {s : Clk} {i : Nat} (h : Filled s i) (hi : i < 1100) : s.setE (nmOf (i + 1)) 5 = if i < 1024 then 0 else 5 := by
  unfold Clk.setE
  rw [if_neg (by omega), h.now, if_neg (by omega), h.new i (Nat.le_refl _) (by omega), h.len]
  by_cases h1 : i < 1024
  · rw [if_pos h1, if_neg (by simp; omega)]
  · rw [if_neg h1, if_pos ⟨rfl, by omega⟩]
theorem Filled.step {s : Clk} {i : Nat} (h : Filled s i) (hn : (s.at_.map (·.1)).Nodup) (hi : i < 1100) : Filled (s.set (nmOf (i + 1)) 5) (i + 1) := by
  have hE := h.setE hi
  unfold Clk.set
  by_cases h1 : i < 1024
  · rw [if_pos h1] at hE
    rw [if_pos hE]
    have hg := h.new i (Nat.le_refl _) (by omega)
    refine ⟨h.now, ?_, fun j hj hj2 => ?_, fun j hj hj2 => ?_⟩
    · simp only [length_put, get_del hn, del_eq_self hg, hg]
      simp
      rw [h.len]; omega
    · simp only [get_put (nodup_del hn _), get_del hn]
      by_cases he : nmOf (j + 1) = nmOf (i + 1)
      · simp [he]
      · simp only [he, if_false]
        refine h.old j ?_ hj2
        have : j ≠ i := fun e => he (by rw [e])
        omega
    · simp only [get_put (nodup_del hn _), get_del hn]
      have he : nmOf (j + 1) ≠ nmOf (i + 1) := fun e => by have := nmOf_inj (by omega) (by omega) e; omega
      simp only [he, if_false]
      exact h.new j (by omega) hj2
  · rw [if_neg h1] at hE
    rw [if_neg (by omega)]
    exact ⟨h.now, by rw [h.len]; omega, fun j hj hj2 => h.old j (by omega) hj2, fun j hj hj2 => h.new j (by omega) hj2⟩
theorem Filled.again {s : Clk} {i : Nat} (h : Filled s i) (hn : (s.at_.map (·.1)).Nodup) (hi : 0 < i) : s.setE (nmOf 1) 9 = 0 ∧ (s.set (nmOf 1) 9).at_.length = min i 1024 := by
  have hg := h.old 0 hi (by omega)
  have hE : s.setE (nmOf 1) 9 = 0 := by
    unfold Clk.setE
    rw [if_neg (by omega), h.now, if_neg (by omega), if_neg]
    rw [Option.isNone_iff_eq_none]
    rintro ⟨h1, _⟩
    rw [show (0 + 1) = 1 from rfl] at hg
    rw [h1] at hg; cases hg
  refine ⟨hE, ?_⟩
  unfold Clk.set
  rw [if_pos hE]
  simp only [length_put, get_del hn, if_true, Option.isSome_none, Bool.false_eq_true, if_false, length_del hn]
  rw [if_pos hg, h.len]
  omega
theorem Filled.zero : Filled ⟨0, []⟩ 0 := ⟨rfl, rfl, fun j hj => by omega, fun j _ _ => rfl⟩

theorem full_walk (many : UInt16) (n : Nm) (w : World) :
    Calls Try.prog 7 #[.int .u16 many.toNat, encN n] w fun e w' => e = .returned (.bool true) ∧ Upd Nil w w' := by
  simp only [encN, Value.cells] at *
  have hm16 : many.toNat < 65536 := many.toNat_lt
  generalize hM : many.toNat = M at *
  clear hM
  go_enter Try.func7, Try.ntmps7
  go_wp2_with fail
  generalize hW : w.alloc _ = W0
  have hbN : W0.heap[w.heap.size]? = some (.cells #[.int .u8 n.kind.toNat, .int .u8 n.tx.node.toNat, .int .u32 n.tx.boot.toNat, .int .u32 n.tx.num.toNat] 27) := by rw [← hW]; exact hpNew _ _
  have hu0 : Upd Nil w W0 := by rw [← hW]; exact (Upd.refl _ _).alloc _
  clear hW
  refine new_clk.mono ?_
  rintro e w1 ⟨L, rfl, hu1, hc1, hf1⟩
  have hmod : ((M : Int) % 1100) = ((M % 1100 : Nat) : Int) := by omega
  have hk11 : M % 1100 < 1100 := Nat.mod_lt _ (by omega)
  generalize M % 1100 = k at *
  go_wp2_with fail
  simp only [hmod]
  have hmod := Lib.hid hmod
  go_loopw [25] (fun i wr => ∃ j : Nat, j ≤ k ∧ i = .int .i64 j ∧ Upd Nil W0 wr ∧ ∃ s, ClkIn wr L s ∧ Filled s j) (fun i _ => k - (intOf i).toNat)
  case atStart => exact ⟨0, by omega, rfl, hu1, _, hc1, Filled.zero⟩
  case round =>
    obtain ⟨j, hj, rfl, hu, s, hc, hf⟩ := hrel
    clear hu1 hc1
    by_cases hjk : j < k
    · have hs := set_clk hc (nmOf (j + 1)) 5 (by omega)
      rw [hf.setE (by omega), nmOf_enc (by omega)] at hs
      have hst := hf.step hc.map.nodup (by omega)
      simp only [encU, Int.natCast_add, Int.natCast_one] at hs
      clear hc hf
      by_cases hj1 : j < 1024
      · rw [if_pos hj1] at hs
        have hd : decide ((j : Int) < 1024) = true := by simp; omega
        go_wp2_with fail
        refine hs.mono ?_
        rintro e w2 ⟨rfl, hu2, hc2⟩
        have hu2 := hu.then hu2 (fun i hi hlt => by have := hf1 i hi; omega)
        clear hs hu
        go_wp2_with fail
        go_roundw
        case rel => exact ⟨j + 1, by omega, by go_num, hu2, _, hc2, hst⟩
        case measure => simp [intOf]; omega
      · rw [if_neg hj1] at hs
        have hd : decide ((j : Int) < 1024) = false := by simp; omega
        go_wp2_with fail
        refine hs.mono ?_
        rintro e w2 ⟨rfl, hu2, hc2⟩
        have hu2 := hu.then hu2 (fun i hi hlt => by have := hf1 i hi; omega)
        clear hs hu
        go_wp2_with fail
        go_roundw
        case rel => exact ⟨j + 1, by omega, by go_num, hu2, _, hc2, hst⟩
        case measure => simp [intOf]; omega
    · have hjk2 : j = k := by omega
      rw [hjk2] at hf
      have hjk := Lib.hid (And.intro hjk hjk2)
      clear hjk2
      by_cases hk0 : 0 < k
      case' pos =>
        have hk0i : decide ((k : Int) > 0) = true := by simp; omega
        obtain ⟨hE, hlen⟩ := hf.again hc.map.nodup hk0
        have hs := set_clk hc (nmOf 1) 9 (by omega)
        rw [hE, nmOf_enc (by omega)] at hs
        simp only [encU] at hs
        go_wp2_with fail
        refine hs.mono ?_
        rintro e w2 ⟨rfl, hu2, hc2⟩
        have hu2 := hu.then hu2 (fun i hi hlt => by have := hf1 i hi; omega)
        generalize s.set (nmOf 1) 9 = s2 at *
        have hl := len_clk hc2
        rw [hlen] at hl
        rw [show ((min k 1024 : Nat) : Int) = min (k : Int) 1024 by omega] at hl
        clear hs hu hc hf hE
        try clear hlen
        go_wp2_with fail
        refine hl.mono ?_
        rintro e w3 ⟨rfl, rfl⟩
        clear hl
        go_wp2_with fail
        have hz3 := hpOld (.cells #[.pointer none, .pointer (some ⟨w2.heap.size, 0, none⟩)] 28) (hpNew w2 (.cells Try.zeroCells69 69))
        have hs3 := hpNew (w2.alloc (.cells Try.zeroCells69 69)) (.cells #[.pointer none, .pointer (some ⟨w2.heap.size, 0, none⟩)] 28)
        rw [World.size_alloc] at hs3
        have hu3 := (hu2.alloc (.cells Try.zeroCells69 69)).alloc (.cells #[.pointer none, .pointer (some ⟨w2.heap.size, 0, none⟩)] 28)
        generalize (w2.alloc _).alloc _ = w3 at *
        generalize w2.heap.size = y at *
        clear hc2 hu2 hk0i hk0
      case' neg =>
        have hk0i : decide ((k : Int) > 0) = false := by simp; omega
        have hl := len_clk hc
        rw [hf.len] at hl
        rw [show ((min k 1024 : Nat) : Int) = min (k : Int) 1024 by omega] at hl
        clear hf
        go_wp2_with fail
        refine hl.mono ?_
        rintro e w3 ⟨rfl, rfl⟩
        clear hl
        go_wp2_with fail
        have hz3 := hpOld (.cells #[.pointer none, .pointer (some ⟨wr.heap.size, 0, none⟩)] 28) (hpNew wr (.cells Try.zeroCells69 69))
        have hs3 := hpNew (wr.alloc (.cells Try.zeroCells69 69)) (.cells #[.pointer none, .pointer (some ⟨wr.heap.size, 0, none⟩)] 28)
        rw [World.size_alloc] at hs3
        have hu3 := (hu.alloc (.cells Try.zeroCells69 69)).alloc (.cells #[.pointer none, .pointer (some ⟨wr.heap.size, 0, none⟩)] 28)
        generalize (wr.alloc _).alloc _ = w3 at *
        generalize wr.heap.size = y at *
        clear hc hu hk0i hk0
      all_goals
        go_loopw [69] (fun i wx => ∃ d : Nat, d ≤ 2 ∧ i = .int .i64 d ∧ Upd Nil w3 wx) (fun i _ => 2 - (intOf i).toNat)
        case atStart => exact ⟨0, by omega, rfl, Upd.refl _ _⟩
        case round =>
          obtain ⟨d, hd, rfl, hux⟩ := hrel
          have hd2 := Lib.hid hd
          clear hd
          by_cases hd1 : d < 2
          · obtain ⟨q, hq, hnob⟩ : ∃ q, wr.cell? ⟨y + 1, d, none⟩ = some (.pointer q) ∧ Nob wr (.pointer q) := by
              have hs4 := hux.keep hs3 (fun k => k)
              have hz4 := hux.keep hz3 (fun k => k)
              rcases (show d = 0 ∨ d = 1 by omega) with rfl | rfl
              · exact ⟨none, by rw [My.cell_of_heap hs4]; rfl, ⟨.inl rfl⟩⟩
              · refine ⟨some ⟨y, 0, none⟩, by rw [My.cell_of_heap hs4]; rfl, ⟨.inr ⟨y, rfl, ?_, My.heap_lt hz4⟩⟩⟩
                rw [My.cell_of_heap hz4]; kernel_rfl
            go_wp2_with fail
            have hbn := (hu3.trans hux).keep hbN (fun k => k)
            refine (tick_nob hnob).mono ?_
            rintro e w5 ⟨rfl, rfl⟩
            clear hq
            go_wp2_with fail
            refine (next_nob hnob).mono ?_
            rintro e w6 ⟨rfl, hu6⟩
            have hnob := hnob.nil (hu6.alloc (.cells #[.int .u8 0, .int .u8 0, .int .u32 0, .int .u32 0] 38))
            have hu6 := hu6.alloc (.cells #[.int .u8 0, .int .u8 0, .int .u32 0, .int .u32 0] 38)
            obtain ⟨a0, a1, a2, a3⟩ := box4 (hu6.keep hbn (fun k => k))
            go_wp2_with fail
            clear a0 a1 a2 a3
            generalize w6.alloc _ = w7 at *
            refine (theirs_n n _).mono ?_
            rintro e w8 ⟨rfl, hu8⟩
            have hnob := hnob.nil hu8
            have hu8 := hu6.trans hu8
            have ht := until_nob hnob n
            simp only [encN] at ht
            clear hu6
            go_wp2_with fail
            refine ht.mono ?_
            rintro e w9 ⟨rfl, hu9⟩
            have hnob := hnob.nil hu9
            have hu9 := hu8.trans hu9
            clear ht hu8
            obtain ⟨a0, a1, a2, a3⟩ := box4 (hu9.keep hbn (fun k => k))
            go_wp2_with fail
            refine (theirs_n n _).mono ?_
            rintro e w10 ⟨rfl, hu10⟩
            have hnob := hnob.nil hu10
            have hu10 := hu9.trans hu10
            have ht := set_nob hnob n 1
            simp only [encN] at ht
            clear a0 a1 a2 a3 hu9
            go_wp2_with fail
            refine ht.mono ?_
            rintro e w11 ⟨rfl, hu11⟩
            have hnob := hnob.nil hu11
            have hu11 := hu10.trans hu11
            clear ht hu10
            obtain ⟨a0, a1, a2, a3⟩ := box4 (hu11.keep hbn (fun k => k))
            go_wp2_with fail
            refine (theirs_n n _).mono ?_
            rintro e w12 ⟨rfl, hu12⟩
            have hnob := hnob.nil hu12
            have hu12 := hu11.trans hu12
            have ht := stop_nob hnob n
            simp only [encN] at ht
            clear a0 a1 a2 a3 hu11
            go_wp2_with fail
            refine ht.mono ?_
            rintro e w13 ⟨rfl, hu13⟩
            have hnob := hnob.nil hu13
            have hu13 := hu12.trans hu13
            clear ht hu12
            go_wp2_with fail
            refine (now_nob hnob).mono ?_
            rintro e w14 ⟨rfl, rfl⟩
            go_wp2_with fail
            refine (len_nob hnob).mono ?_
            rintro e w14 ⟨rfl, rfl⟩
            go_wp2_with fail
            go_roundw
            case rel => exact ⟨d + 1, by omega, by go_num, hux.trans hu13⟩
            case measure => simp [intOf]; omega
          · have hd3 := hd2.out
            have hdd : d = 2 := by omega
            have hdd := Lib.hid hdd
            clear hd3
            go_wp2_with fail
            refine (alive_true _).mono ?_
            rintro e w5 ⟨rfl, hu5⟩
            go_wp2_with fail
            go_ret
            exact ⟨rfl, hu0.trans (hu3.trans (hux.trans hu5))⟩
end Go.Proofs.Ytkalckpfepanaaa

/- ClockNext: the plain law, and the walk. -/
import Derived.Test.YtkalckpfepanaaaNext
import Derived.Test.YtkalckpfepanaaaRings
namespace Go.Proofs.Ytkalckpfepanaaa
set_option linter.unusedVariables false
set_option linter.unusedSimpArgs false
set_option linter.unusedSectionVars false
open Go.My Go.RowKit Go.ChangeMaps
set_option maxHeartbeats 400000
set_option maxRecDepth 100000

/-! ### the plain law -/
def Clk.Later (s : Clk) : Prop := ∀ n t, get s.at_ n = some t → s.now < t

theorem Later.set {s : Clk} (h : s.Later) (hn : (s.at_.map (·.1)).Nodup) (n : Nm) (a : Nat) : (s.set n a).Later := by
  unfold Clk.set
  split
  · rename_i he
    intro m t hm
    have ha : a ≠ 0 := by
      intro h0
      unfold Clk.setE at he
      rw [if_pos h0] at he; omega
    simp only [get_put (nodup_del hn _), get_del hn] at hm
    split at hm
    · cases hm; show s.now < _; omega
    · exact h m t hm
  · exact h
theorem Later.tick {s : Clk} (h : s.Later) (hn : (s.at_.map (·.1)).Nodup) : s.tick.Later := by
  intro m t hm
  rw [Clk.tick_get hn] at hm
  split at hm
  · cases hm
  · rename_i hne
    have := h m t hm
    show s.now + 1 < t
    have : t ≠ s.now + 1 := fun e => hne (by rw [hm, e])
    omega

theorem order_mem (s : Clk) (n : Nm) : n ∈ s.order ↔ n ∈ s.at_.map (·.1) := (sortT_perm_self _ _).mem_iff
theorem mem_keys {l : List (Nm × Nat)} (hn : (l.map (·.1)).Nodup) (n : Nm) : n ∈ l.map (·.1) ↔ ∃ t, get l n = some t := by
  constructor
  · intro h
    obtain ⟨p, hp, rfl⟩ := List.mem_map.1 h
    exact ⟨p.2, mem_get hn hp⟩
  · rintro ⟨t, ht⟩
    exact List.mem_map.2 ⟨(n, t), (get_some_iff hn).1 ht, rfl⟩
theorem order_first {s : Clk} (hn : (s.at_.map (·.1)).Nodup) {n : Nm} {r : List Nm} (ho : s.order = n :: r) : get s.at_ n = some (timeOf s.at_ n) ∧ ∀ m t, get s.at_ m = some t → ¬ tlt s.at_ m n := by
  constructor
  · have h1 : n ∈ s.order := by rw [ho]; simp
    rw [order_mem, mem_keys hn] at h1
    obtain ⟨t, ht⟩ := h1
    rw [ht]; unfold timeOf; rw [ht]; rfl
  · intro m t hm
    have h1 : m ∈ s.order := by rw [order_mem, mem_keys hn]; exact ⟨t, hm⟩
    rw [ho] at h1
    rcases List.mem_cons.1 h1 with rfl | h1
    · unfold tlt Nm.lt; omega
    · have hs := sortT_sorted s.at_ (s.at_.map (·.1))
      have hs : s.order.Pairwise (fun a b => leT s.at_ a b = true) := hs
      rw [ho, List.pairwise_cons] at hs
      exact (leT_iff _ _ _).1 (hs.1 m h1)
theorem rung_mem {s : Clk} (hn : (s.at_.map (·.1)).Nodup) (m : Nm) : m ∈ s.rung ↔ get s.at_ m = some (s.now + 1) := by
  unfold Clk.rung
  rw [sortNm_mem]
  unfold Due
  simp only [List.mem_map, List.mem_filter, decide_eq_true_eq]
  constructor
  · rintro ⟨p, ⟨hp, ht⟩, rfl⟩
    rw [mem_get hn (show (p.1, p.2) ∈ s.at_ from hp), ht]
  · intro h
    exact ⟨(m, s.now + 1), ⟨(get_some_iff hn).1 h, rfl⟩, rfl⟩
/-- what rings first is Next -/
theorem next_law {s : Clk} (hn : (s.at_.map (·.1)).Nodup) (hl : s.Later) {n : Nm} {r : List Nm} (ho : s.order = n :: r) :
    s.now < timeOf s.at_ n ∧ ((timeOf s.at_ n = s.now + 1 ∧ ∃ q, s.rung = n :: q) ∨ (timeOf s.at_ n ≠ s.now + 1 ∧ s.rung = [])) := by
  obtain ⟨h1, h2⟩ := order_first hn ho
  refine ⟨hl n _ h1, ?_⟩
  by_cases ht : timeOf s.at_ n = s.now + 1
  · refine .inl ⟨ht, ?_⟩
    have hm : n ∈ s.rung := by rw [rung_mem hn, h1, ht]
    obtain ⟨m, q, hq⟩ := List.exists_cons_of_ne_nil (List.ne_nil_of_mem hm)
    refine ⟨q, ?_⟩
    rw [hq]
    have hmr : m ∈ s.rung := by rw [hq]; simp
    have hgm := (rung_mem hn m).1 hmr
    have htm : timeOf s.at_ m = s.now + 1 := by unfold timeOf; rw [hgm]; rfl
    have a1 := h2 m _ hgm
    have a2 : ¬ n.lt m := by
      rw [hq] at hm
      rcases List.mem_cons.1 hm with rfl | hm
      · unfold Nm.lt; omega
      · have hs := sortNm_sorted (Due (s.now + 1) s.at_)
        have hs : s.rung.Pairwise (fun a b => leNm a b = true) := hs
        rw [hq, List.pairwise_cons] at hs
        exact (leNm_iff _ _).1 (hs.1 n hm)
    have a3 : ¬ m.lt n := fun k => a1 (.inr ⟨by omega, k⟩)
    rw [Nm.lt_total m n a3 a2]
  · refine .inr ⟨ht, ?_⟩
    apply List.eq_nil_iff_forall_not_mem.2
    intro m hm
    have hgm := (rung_mem hn m).1 hm
    have htm : timeOf s.at_ m = s.now + 1 := by unfold timeOf; rw [hgm]; rfl
    have a1 := h2 m _ hgm
    have a2 := hl n _ h1
    exact a1 (.inl (by omega))
theorem next_none {s : Clk} (ho : s.order = []) : s.at_ = [] ∧ s.rung = [] := by
  have hl : s.at_.length = 0 := by
    have : s.order.length = s.at_.length := by unfold Clk.order; rw [(sortT_perm_self _ _).length_eq]; simp
    rw [← this, ho]; rfl
  have h0 := List.eq_nil_of_length_eq_zero hl
  refine ⟨h0, ?_⟩
  unfold Clk.rung
  rw [h0]
  simp [Due, sortNm]

/-! ### the walk -/
theorem next_clk' {w : World} {L : Lay} {s : Clk} (h : ClkIn w L s) (hl : s.Later) :
    Calls Try.prog 24 #[L.ptr] w fun e w' => ∃ (n : Nm) (T : Nat) (b : Bool), e = .returned (.tuple #[encN n, .int .u32 T, .bool b]) ∧ Upd Nil w w' ∧ T ≤ 2147483647 ∧
      ((b = false ∧ s.at_.length = 0 ∧ s.rung = []) ∨ (b = true ∧ 0 < s.at_.length ∧ s.now < T ∧ ((T = s.now + 1 ∧ ∃ q, s.rung = n :: q) ∨ (T ≠ s.now + 1 ∧ s.rung = [])))) := by
  refine (next_clk h).mono ?_
  rintro e w' ⟨hu, ⟨ho, rfl⟩ | ⟨n, r, ho, rfl⟩⟩
  · obtain ⟨h1, h2⟩ := next_none ho
    exact ⟨⟨0, ⟨0, 0, 0⟩⟩, 0, false, rfl, hu, by omega, .inl ⟨rfl, by rw [h1]; rfl, h2⟩⟩
  · obtain ⟨h1, h2⟩ := next_law h.map.nodup hl ho
    have h3 := (order_first h.map.nodup ho).1
    refine ⟨n, _, true, rfl, hu, h.times n _ h3, .inr ⟨rfl, ?_, h1, h2⟩⟩
    exact List.length_pos_of_mem (get_some_mem h3)

structure Play2 (W0 : World) (L : Lay) (k : Nat) (wr : World) : Prop where
  upd : Upd Nil W0 wr
  clk : ∃ s, ClkIn wr L s ∧ s.now ≤ k ∧ s.Later

theorem next_walk (v : Value) (xs : List Ac) (w : World) (hv : Acts w v xs) :
    Calls Try.prog 6 #[v] w fun e w' => e = .returned (.bool true) ∧ Upd Nil w w' := by
  go_enter Try.func6, Try.ntmps6
  go_wp2_with fail
  refine new_clk.mono ?_
  rintro e w1 ⟨L, rfl, hu1, hc1, hf1⟩
  go_wp2_with fail
  refine (short_v (hv.nil hu1)).mono ?_
  rintro e w2 ⟨rfl, v', rfl, hv2⟩
  have hv2 := hv2 w hv
  have hlen : (xs.take 150).length ≤ 150 := by rw [List.length_take]; omega
  generalize xs.take 150 = ys at *
  clear hv
  have hl := fun rt w' => hv2.len (P := Try.prog) Try.underlying22 rt w'
  go_wp2_with fail
  go_loopw [18] (fun i wr => ∃ k : Nat, k ≤ ys.length ∧ i = .int .i64 k ∧ Play2 w L k wr) (fun i _ => ys.length - (intOf i).toNat)
  case atStart => exact ⟨0, by omega, rfl, hu1, _, hc1, by simp, fun n t h => by cases h⟩
  case round =>
    obtain ⟨k, hk, rfl, hu, s, hc, hnow, hlat⟩ := hrel
    by_cases hkl : k < ys.length
    · obtain ⟨b, o, hb, hidx, hcell⟩ := (hv2.nil hu).index (P := Try.prog) Try.underlying22 i22 hkl
      generalize ys[k] = ac at *
      have c0 : wr.cell? ⟨b, o, none⟩ = some (.int .u8 ac.k.toNat) := hcell 0 (by omega)
      have c1 : wr.cell? ⟨b, o + 1, none⟩ = some (.int .u8 ac.m.kind.toNat) := hcell 1 (by omega)
      have c2 : wr.cell? ⟨b, o + 2, none⟩ = some (.int .u8 ac.m.tx.node.toNat) := hcell 2 (by omega)
      have c3 : wr.cell? ⟨b, o + 3, none⟩ = some (.int .u32 ac.m.tx.boot.toNat) := hcell 3 (by omega)
      have c4 : wr.cell? ⟨b, o + 4, none⟩ = some (.int .u32 ac.m.tx.num.toNat) := hcell 4 (by omega)
      have c5 : wr.cell? ⟨b, o + 5, none⟩ = some (.int .u32 ac.after.toNat) := hcell 5 (by omega)
      clear hcell
      have hk8 : ac.k.toNat < 256 := ac.k.toNat_lt
      go_wp2_with fail
      have hcx := hc.alloc (.cells #[.int .u8 ac.k.toNat, .int .u8 ac.m.kind.toNat, .int .u8 ac.m.tx.node.toNat, .int .u32 ac.m.tx.boot.toNat, .int .u32 ac.m.tx.num.toNat, .int .u32 ac.after.toNat] 32)
      have hux := hu.alloc (.cells #[.int .u8 ac.k.toNat, .int .u8 ac.m.kind.toNat, .int .u8 ac.m.tx.node.toNat, .int .u32 ac.m.tx.boot.toNat, .int .u32 ac.m.tx.num.toNat, .int .u32 ac.after.toNat] 32)
      have hbC := hpNew wr (.cells #[.int .u8 ac.k.toNat, .int .u8 ac.m.kind.toNat, .int .u8 ac.m.tx.node.toNat, .int .u32 ac.m.tx.boot.toNat, .int .u32 ac.m.tx.num.toNat, .int .u32 ac.after.toNat] 32)
      generalize wr.alloc _ = w3 at *
      refine (next_clk' hcx hlat).mono ?_
      rintro e w4 ⟨n, T, bo, rfl, hu4, hT, hcase⟩
      have hltf := (hcx.nil hu4).lt
      have hc4 := (hcx.nil hu4).alloc (.cells #[.int .u8 n.kind.toNat, .int .u8 n.tx.node.toNat, .int .u32 n.tx.boot.toNat, .int .u32 n.tx.num.toNat] 38)
      have hb4 := hpOld (.cells #[.int .u8 n.kind.toNat, .int .u8 n.tx.node.toNat, .int .u32 n.tx.boot.toNat, .int .u32 n.tx.num.toNat] 38) (hu4.keep hbC (fun k => k))
      have hbn := hpNew w4 (.cells #[.int .u8 n.kind.toNat, .int .u8 n.tx.node.toNat, .int .u32 n.tx.boot.toNat, .int .u32 n.tx.num.toNat] 38)
      have hu4 := (hux.trans hu4).alloc (.cells #[.int .u8 n.kind.toNat, .int .u8 n.tx.node.toNat, .int .u32 n.tx.boot.toNat, .int .u32 n.tx.num.toNat] 38)
      clear c0 c1 c2 c3 c4 c5 hidx hcx hux hbC hc hu hb
      have hcase := Lib.hid hcase
      simp only [encN]
      go_wp2_with fail
      generalize w4.alloc _ = w5 at *
      have hln := len_clk hc4
      have hno := now_clk hc4
      simp only [encU] at hno
      obtain ⟨d0, d1, d2, d3, d4, d5⟩ := box6 hb4
      rcases hcase.out with ⟨rfl, h0, hr⟩ | ⟨rfl, hpos, hlt, ⟨hTe, q, hr⟩ | ⟨hTn, hr⟩⟩
      · rw [h0] at hln
        refine hln.mono ?_
        rintro e w6 ⟨rfl, rfl⟩
        clear hln
        go_wp2_with fail
        · refine wp_region_head_tail 6 (fun w' => Upd Nil w5 w') (by kernel_rfl) (by kernel_rfl) (Upd.refl _ _).drew ?_
          simp only [List.take_succ_cons, List.take_zero, List.drop_succ_cons, List.drop_zero]
          iterate 3
            apply wpQuiet_plain rfl
            · intro w' hw'
              obtain ⟨d0, d1, d2, d3, d4, d5⟩ := box6 (hw'.keep hb4 (fun k => k))
              go_simp
              first | done | exact rfl | exact ⟨rfl, rfl⟩
            go_frame
          apply wpQuiet_plain rfl
          · intro w' hw'
            go_simp
            exact (theirs_n ac.m w').mono fun e w'' h => ⟨h.1, hw'.trans h.2⟩
          go_frame
          iterate 2
            apply wpQuiet_plain rfl
            · intro w' hw'
              obtain ⟨d0, d1, d2, d3, d4, d5⟩ := box6 (hw'.keep hb4 (fun k => k))
              go_simp
              first | done | exact rfl | exact ⟨rfl, rfl⟩
            go_frame
          refine wpQuiet_nil ?_
          intro w6 hu6
          have hc6 := hc4.nil hu6
          have hu6 := hu4.trans hu6
          have hs := set_clk hc6 ac.m ac.after.toNat ac.after.toNat_lt
          simp only [encN, encU] at hs
          go_wp2_with fail
          refine hs.mono ?_
          rintro e w7 ⟨rfl, hu7, hc7⟩
          have hn7 := s.set_now ac.m ac.after.toNat
          have hl7 := Later.set (s := s) hlat hc6.map.nodup ac.m ac.after.toNat
          have hu7 := hu6.then hu7 (fun i hi hlt => by have := hf1 i hi; omega)
          clear hs hc6 hc4 hu6 hu4 hb4 hlat
          go_wp2_with fail
          go_roundw
          case rel => exact ⟨k + 1, by omega, by go_num, hu7, _, hc7, by omega, hl7⟩
          case measure => simp [intOf]; omega
        · refine hno.mono ?_
          rintro e w6 ⟨rfl, rfl⟩
          clear d0 d1 d2 d3 d4 d5
          go_wp2_with fail
          refine (tick_clk hc4 (by omega)).mono ?_
          rintro e w7 ⟨v1, rfl, hu7, hc7, ho7⟩
          have hu7k := hu7
          have hbn7 := hu7.keep hbn (fun hf => by have := hltf _ hf; omega)
          have hu7 := hu4.then hu7 (fun i hi hlt => by have := hf1 i hi; omega)
          have hl7 := Later.tick (s := s) hlat hc4.map.nodup
          have hnq : ∀ m, Calls Try.prog 15 #[L.ptr] (w7.drewN m) fun e w' => e = .returned (.int .u32 (s.now + 1)) ∧ w' = w7.drewN m := fun m => (now_clk (hc7.nil ((Upd.refl _ _).drewN m))).mono (fun _ _ h => ⟨h.1, h.2.symm⟩)
          rw [hr] at ho7
          have hvl := fun rt w' => row_len ho7 Try.underlying33 rt w'
          obtain ⟨t0, t1, t2, t3⟩ := box4 hbn7
          simp only [List.length_nil, Int.natCast_zero] at hvl
          clear hbn hbn7 hu7k hb4 hu4 ho7 hno
          go_wp2_with fail
          go_quiet (first | (go_at_call 15; exact Calls.quiet_of_same (hnq _)))
          clear hnq
          go_wp2_with fail
          go_roundw
          case rel => exact ⟨k + 1, by omega, by go_num, hu7.drewN _, s.tick, hc7.nil ((Upd.refl _ _).drewN _), by show s.now + 1 ≤ _; omega, hl7⟩
          case measure => simp [intOf]; omega
      · refine hln.mono ?_
        rintro e w6 ⟨rfl, rfl⟩
        clear hln
        have hd1 : decide ((s.at_.length : Int) > 0) = true := decide_eq_true (by omega)
        have hd2 : decide ((T : Int) ≤ s.now) = false := decide_eq_false (by omega)
        go_wp2_with fail
        refine hno.mono ?_
        rintro e w6 ⟨rfl, rfl⟩
        go_wp2_with fail
        · refine wp_region_head_tail 6 (fun w' => Upd Nil w5 w') (by kernel_rfl) (by kernel_rfl) (Upd.refl _ _).drew ?_
          simp only [List.take_succ_cons, List.take_zero, List.drop_succ_cons, List.drop_zero]
          iterate 3
            apply wpQuiet_plain rfl
            · intro w' hw'
              obtain ⟨d0, d1, d2, d3, d4, d5⟩ := box6 (hw'.keep hb4 (fun k => k))
              go_simp
              first | done | exact rfl | exact ⟨rfl, rfl⟩
            go_frame
          apply wpQuiet_plain rfl
          · intro w' hw'
            go_simp
            exact (theirs_n ac.m w').mono fun e w'' h => ⟨h.1, hw'.trans h.2⟩
          go_frame
          iterate 2
            apply wpQuiet_plain rfl
            · intro w' hw'
              obtain ⟨d0, d1, d2, d3, d4, d5⟩ := box6 (hw'.keep hb4 (fun k => k))
              go_simp
              first | done | exact rfl | exact ⟨rfl, rfl⟩
            go_frame
          refine wpQuiet_nil ?_
          intro w6 hu6
          have hc6 := hc4.nil hu6
          have hu6 := hu4.trans hu6
          have hs := set_clk hc6 ac.m ac.after.toNat ac.after.toNat_lt
          simp only [encN, encU] at hs
          go_wp2_with fail
          refine hs.mono ?_
          rintro e w7 ⟨rfl, hu7, hc7⟩
          have hn7 := s.set_now ac.m ac.after.toNat
          have hl7 := Later.set (s := s) hlat hc6.map.nodup ac.m ac.after.toNat
          have hu7 := hu6.then hu7 (fun i hi hlt => by have := hf1 i hi; omega)
          clear hs hc6 hc4 hu6 hu4 hb4 hlat
          go_wp2_with fail
          go_roundw
          case rel => exact ⟨k + 1, by omega, by go_num, hu7, _, hc7, by omega, hl7⟩
          case measure => simp [intOf]; omega
        · refine hno.mono ?_
          rintro e w6 ⟨rfl, rfl⟩
          clear d0 d1 d2 d3 d4 d5
          go_wp2_with fail
          refine (tick_clk hc4 (by omega)).mono ?_
          rintro e w7 ⟨v1, rfl, hu7, hc7, ho7⟩
          have hu7k := hu7
          have hbn7 := hu7.keep hbn (fun hf => by have := hltf _ hf; omega)
          have hu7 := hu4.then hu7 (fun i hi hlt => by have := hf1 i hi; omega)
          have hl7 := Later.tick (s := s) hlat hc4.map.nodup
          have hnq : ∀ m, Calls Try.prog 15 #[L.ptr] (w7.drewN m) fun e w' => e = .returned (.int .u32 (s.now + 1)) ∧ w' = w7.drewN m := fun m => (now_clk (hc7.nil ((Upd.refl _ _).drewN m))).mono (fun _ _ h => ⟨h.1, h.2.symm⟩)
          rw [hr] at ho7
          have hvl := fun rt w' => row_len ho7 Try.underlying33 rt w'
          obtain ⟨t0, t1, t2, t3⟩ := box4 hbn7
          obtain ⟨g, hg, hglt, hia, e0, e1, e2, e3⟩ := row_name ho7 (k := 0) (by simp)
          simp only [List.getElem_cons_zero, Nat.zero_mul, Nat.zero_add] at e0 e1 e2 e3 hia
          have hia : ∀ w', (Instr.indexAt 33 v1 (.int .i64 0)).run Try.prog w' = .ok (.pointer (some ⟨g, 0, none⟩)) w' := hia
          have hne := fun w' => neq38 n n w'
          simp only [encN, decide_true, Bool.not_true] at hne
          have hgt : decide (((q.length + 1 : Nat) : Int) > 0) = true := decide_eq_true (by omega)
          simp only [List.length_cons] at hvl
          clear hbn hbn7 hu7k hb4 hu4 ho7 hno
          go_wp2_with fail
          go_quiet (first | (go_at_call 15; exact Calls.quiet_of_same (hnq _)))
          clear hnq
          go_wp2_with fail
          go_roundw
          case rel => exact ⟨k + 1, by omega, by go_num, hu7.drewN _, s.tick, hc7.nil ((Upd.refl _ _).drewN _), by show s.now + 1 ≤ _; omega, hl7⟩
          case measure => simp [intOf]; omega
      · refine hln.mono ?_
        rintro e w6 ⟨rfl, rfl⟩
        clear hln
        have hd1 : decide ((s.at_.length : Int) > 0) = true := decide_eq_true (by omega)
        have hd2 : decide ((T : Int) ≤ s.now) = false := decide_eq_false (by omega)
        go_wp2_with fail
        refine hno.mono ?_
        rintro e w6 ⟨rfl, rfl⟩
        go_wp2_with fail
        · refine wp_region_head_tail 6 (fun w' => Upd Nil w5 w') (by kernel_rfl) (by kernel_rfl) (Upd.refl _ _).drew ?_
          simp only [List.take_succ_cons, List.take_zero, List.drop_succ_cons, List.drop_zero]
          iterate 3
            apply wpQuiet_plain rfl
            · intro w' hw'
              obtain ⟨d0, d1, d2, d3, d4, d5⟩ := box6 (hw'.keep hb4 (fun k => k))
              go_simp
              first | done | exact rfl | exact ⟨rfl, rfl⟩
            go_frame
          apply wpQuiet_plain rfl
          · intro w' hw'
            go_simp
            exact (theirs_n ac.m w').mono fun e w'' h => ⟨h.1, hw'.trans h.2⟩
          go_frame
          iterate 2
            apply wpQuiet_plain rfl
            · intro w' hw'
              obtain ⟨d0, d1, d2, d3, d4, d5⟩ := box6 (hw'.keep hb4 (fun k => k))
              go_simp
              first | done | exact rfl | exact ⟨rfl, rfl⟩
            go_frame
          refine wpQuiet_nil ?_
          intro w6 hu6
          have hc6 := hc4.nil hu6
          have hu6 := hu4.trans hu6
          have hs := set_clk hc6 ac.m ac.after.toNat ac.after.toNat_lt
          simp only [encN, encU] at hs
          go_wp2_with fail
          refine hs.mono ?_
          rintro e w7 ⟨rfl, hu7, hc7⟩
          have hn7 := s.set_now ac.m ac.after.toNat
          have hl7 := Later.set (s := s) hlat hc6.map.nodup ac.m ac.after.toNat
          have hu7 := hu6.then hu7 (fun i hi hlt => by have := hf1 i hi; omega)
          clear hs hc6 hc4 hu6 hu4 hb4 hlat
          go_wp2_with fail
          go_roundw
          case rel => exact ⟨k + 1, by omega, by go_num, hu7, _, hc7, by omega, hl7⟩
          case measure => simp [intOf]; omega
        · refine hno.mono ?_
          rintro e w6 ⟨rfl, rfl⟩
          clear d0 d1 d2 d3 d4 d5
          go_wp2_with fail
          refine (tick_clk hc4 (by omega)).mono ?_
          rintro e w7 ⟨v1, rfl, hu7, hc7, ho7⟩
          have hu7k := hu7
          have hbn7 := hu7.keep hbn (fun hf => by have := hltf _ hf; omega)
          have hu7 := hu4.then hu7 (fun i hi hlt => by have := hf1 i hi; omega)
          have hl7 := Later.tick (s := s) hlat hc4.map.nodup
          have hnq : ∀ m, Calls Try.prog 15 #[L.ptr] (w7.drewN m) fun e w' => e = .returned (.int .u32 (s.now + 1)) ∧ w' = w7.drewN m := fun m => (now_clk (hc7.nil ((Upd.refl _ _).drewN m))).mono (fun _ _ h => ⟨h.1, h.2.symm⟩)
          rw [hr] at ho7
          have hvl := fun rt w' => row_len ho7 Try.underlying33 rt w'
          obtain ⟨t0, t1, t2, t3⟩ := box4 hbn7
          simp only [List.length_nil, Int.natCast_zero] at hvl
          have hTn : ((T : Int) == (s.now : Int) + 1) = false := beq_eq_false_iff_ne.2 (by omega)
          clear hbn hbn7 hu7k hb4 hu4 ho7 hno
          go_wp2_with fail
          go_quiet (first | (go_at_call 15; exact Calls.quiet_of_same (hnq _)))
          clear hnq
          go_wp2_with fail
          go_roundw
          case rel => exact ⟨k + 1, by omega, by go_num, hu7.drewN _, s.tick, hc7.nil ((Upd.refl _ _).drewN _), by show s.now + 1 ≤ _; omega, hl7⟩
          case measure => simp [intOf]; omega
    · have hkn : k = ys.length := by omega
      have hkn := Lib.hid hkn
      have hkk := Lib.hid hkl
      clear hc
      go_wp2_with fail
      refine (alive_true _).mono ?_
      rintro e w2 ⟨rfl, hu2⟩
      go_wp2_with fail
      go_ret
      exact ⟨rfl, hu.trans hu2⟩
end Go.Proofs.Ytkalckpfepanaaa

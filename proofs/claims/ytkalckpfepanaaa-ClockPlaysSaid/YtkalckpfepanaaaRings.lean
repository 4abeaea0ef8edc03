/- ClockRings: the walk. -/
import Derived.Test.YtkalckpfepanaaaShort
namespace Go.Proofs.Ytkalckpfepanaaa
set_option linter.unusedVariables false
set_option linter.unusedSimpArgs false
set_option linter.unusedSectionVars false
open Go.My Go.RowKit Go.ChangeMaps
set_option maxHeartbeats 400000
set_option maxRecDepth 100000

/-! ### the plain law -/
theorem get_filter_ne {l : List (Nm × Nat)} (hn : (l.map (·.1)).Nodup) (t : Nat) (n : Nm) : get (l.filter fun p => ¬ p.2 = t) n = if get l n = some t then none else get l n := by
  have hnf : ((l.filter fun p => ¬ p.2 = t).map (·.1)).Nodup := (hn.sublist (List.filter_sublist.map _))
  apply Option.ext
  intro u
  rw [get_some_iff hnf, List.mem_filter, ← get_some_iff hn]
  by_cases h : get l n = some t
  · simp [h]
    intro e; exact e.symm
  · simp [h]
    rintro h1 rfl
    exact h h1
theorem Clk.tick_get {s : Clk} (hn : (s.at_.map (·.1)).Nodup) (n : Nm) : get s.tick.at_ n = if get s.at_ n = some (s.now + 1) then none else get s.at_ n := get_filter_ne hn _ n
theorem due_count {l : List (Nm × Nat)} (hn : (l.map (·.1)).Nodup) (t : Nat) (n : Nm) : (Due t l).count n = if get l n = some t then 1 else 0 := by
  have hnd : (Due t l).Nodup := hn.sublist (List.filter_sublist.map _)
  have hm : n ∈ Due t l ↔ get l n = some t := by
    rw [get_some_iff hn]
    simp [Due]
  by_cases h : get l n = some t
  · rw [if_pos h]
    have h1 := List.nodup_iff_count.1 hnd n
    have h2 := List.count_pos_iff.2 (hm.2 h)
    omega
  · rw [if_neg h, List.count_eq_zero.2 (fun k => h (hm.1 k))]
theorem Clk.rung_count {s : Clk} (hn : (s.at_.map (·.1)).Nodup) (n : Nm) : s.rung.count n = if get s.at_ n = some (s.now + 1) then 1 else 0 := by
  unfold Clk.rung
  rw [← due_count hn]
  exact (List.mergeSort_perm _ leNm).count_eq n
theorem Clk.tick_len (s : Clk) : s.tick.at_.length ≤ s.at_.length := List.length_filter_le _ _
theorem del_len (l : List (Nm × Nat)) (n : Nm) : (del l n).length ≤ l.length := List.length_filter_le _ _
theorem Clk.set_len {s : Clk} (hn : (s.at_.map (·.1)).Nodup) (n : Nm) (a : Nat) : (s.set n a).at_.length ≤ s.at_.length + 1 := by
  unfold Clk.set
  split
  · simp only [length_put]
    have := del_len s.at_ n
    split <;> omega
  · omega
theorem Clk.set_now (s : Clk) (n : Nm) (a : Nat) : (s.set n a).now = s.now := by unfold Clk.set; split <;> rfl
/-- behind k ticks -/
def Clk.ticks (s : Clk) : Nat → Clk
  | 0 => s
  | k + 1 => (s.ticks k).tick
theorem Clk.ticks_now (s : Clk) (k : Nat) : (s.ticks k).now = s.now + k := by
  induction k with
  | zero => rfl
  | succ k ih => show (s.ticks k).now + 1 = _; omega
theorem Clk.ticks_nodup {s : Clk} (hn : (s.at_.map (·.1)).Nodup) (k : Nat) : ((s.ticks k).at_.map (·.1)).Nodup := by
  induction k with
  | zero => exact hn
  | succ k ih => exact ih.sublist (List.filter_sublist.map _)
theorem Clk.ticks_get {s : Clk} (hn : (s.at_.map (·.1)).Nodup) {n : Nm} {after : Nat} (h : get s.at_ n = some (s.now + after + 1)) (k : Nat) :
    get (s.ticks k).at_ n = if k ≤ after then some (s.now + after + 1) else none := by
  induction k with
  | zero => simpa [Clk.ticks] using h
  | succ k ih =>
    show get (s.ticks k).tick.at_ n = _
    rw [Clk.tick_get (Clk.ticks_nodup hn k), ih, Clk.ticks_now]
    by_cases h1 : k ≤ after
    · simp only [h1, if_true, Option.some.injEq]
      by_cases h2 : k = after
      · subst h2
        rw [if_pos rfl, if_neg (by omega)]
      · rw [if_neg (by omega), if_pos (by omega)]
    · rw [if_neg h1, if_neg (by simp), if_neg (by omega)]
theorem Clk.ticks_count {s : Clk} (hn : (s.at_.map (·.1)).Nodup) {n : Nm} {after : Nat} (h : get s.at_ n = some (s.now + after + 1)) (k : Nat) :
    (s.ticks k).rung.count n = if k = after then 1 else 0 := by
  rw [Clk.rung_count (Clk.ticks_nodup hn k), Clk.ticks_get hn h, Clk.ticks_now]
  by_cases h1 : k ≤ after
  · simp only [h1, if_true, Option.some.injEq]
    by_cases h2 : k = after
    · subst h2; simp
    · rw [if_neg (by omega), if_neg h2]
  · rw [if_neg h1, if_neg (by simp), if_neg (by omega)]
theorem Clk.set_own {s : Clk} (hn : (s.at_.map (·.1)).Nodup) (n : Nm) {a : Nat} (h : s.setE n a = 0) : get (s.set n a).at_ n = some (s.now + a) := by
  unfold Clk.set
  rw [if_pos h, get_put (nodup_del hn _), if_pos rfl]
theorem Clk.setE_ok {s : Clk} {n : Nm} {a : Nat} (h0 : 0 < a) (h1 : a ≤ 256) (h2 : s.now ≤ 1000) (h3 : s.at_.length ≤ 1000) : s.setE n a = 0 := by
  unfold Clk.setE
  rw [if_neg (by omega), if_neg (by omega), if_neg (by omega)]

/-! ### the walk -/
structure Play1 (W0 : World) (L : Lay) (k : Nat) (wr : World) : Prop where
  upd : Upd Nil W0 wr
  clk : ∃ s, ClkIn wr L s ∧ s.now ≤ k ∧ s.at_.length ≤ k

theorem rings_walk (v : Value) (xs : List Ac) (n : Nm) (after : UInt8) (w : World) (hv : Acts w v xs) :
    Calls Try.prog 3 #[v, encN n, .int .u8 after.toNat] w fun e w' => e = .returned (.bool true) ∧ Upd Nil w w' := by
  have hv0 := hv.nil ((Upd.refl Nil w).alloc (.cells (encN n).cells 27))
  clear hv
  simp only [encN, Value.cells] at *
  go_enter Try.func3, Try.ntmps3
  go_wp2_with fail
  generalize hW : w.alloc _ = W0
  rw [hW] at hv0
  have hbN : W0.heap[w.heap.size]? = some (.cells #[.int .u8 n.kind.toNat, .int .u8 n.tx.node.toNat, .int .u32 n.tx.boot.toNat, .int .u32 n.tx.num.toNat] 27) := by rw [← hW]; exact hpNew _ _
  have hu0 : Upd Nil w W0 := by rw [← hW]; exact (Upd.refl _ _).alloc _
  clear hW
  refine new_clk.mono ?_
  rintro e w1 ⟨L, rfl, hu1, hc1, hf1⟩
  go_wp2_with fail
  refine (short_v (hv0.nil hu1)).mono ?_
  rintro e w2 ⟨rfl, v', rfl, hv2⟩
  have hv2 := hv2 W0 hv0
  have hlen : (xs.take 150).length ≤ 150 := by rw [List.length_take]; omega
  generalize xs.take 150 = ys at *
  clear hv0
  have hl := fun rt w' => hv2.len (P := Try.prog) Try.underlying22 rt w'
  go_wp2_with fail
  go_loopw [26] (fun i wr => ∃ k : Nat, k ≤ ys.length ∧ i = .int .i64 k ∧ Play1 W0 L k wr) (fun i _ => ys.length - (intOf i).toNat)
  case atStart => exact ⟨0, by omega, rfl, hu1, _, hc1, by simp, by simp⟩
  case round =>
    obtain ⟨k, hk, rfl, hu, s, hc, hnow, hfew⟩ := hrel
    by_cases hkl : k < ys.length
    · obtain ⟨b, o, hb, hidx, hcell⟩ := (hv2.nil hu).index (P := Try.prog) Try.underlying22 i22 hkl
      generalize ys[k] = ac at *
      have c0 : wr.cell? ⟨b, o, none⟩ = some (.int .u8 ac.k.toNat) := hcell 0 (by omega)
      have c1 : wr.cell? ⟨b, o + 1, none⟩ = some (.int .u8 ac.m.kind.toNat) := hcell 1 (by omega)
      have c2 : wr.cell? ⟨b, o + 2, none⟩ = some (.int .u8 ac.m.tx.node.toNat) := hcell 2 (by omega)
      have c3 : wr.cell? ⟨b, o + 3, none⟩ = some (.int .u32 ac.m.tx.boot.toNat) := hcell 3 (by omega)
      have c4 : wr.cell? ⟨b, o + 4, none⟩ = some (.int .u32 ac.m.tx.num.toNat) := hcell 4 (by omega)
      have c5 : wr.cell? ⟨b, o + 5, none⟩ = some (.int .u32 ac.after.toNat) := hcell 5 (by omega)
      clear hcell
      have hk8 : ac.k.toNat < 256 := ac.k.toNat_lt
      go_wp2_with fail
      · have ht := tick_clk (hc.alloc (.cells #[.int .u8 ac.k.toNat, .int .u8 ac.m.kind.toNat, .int .u8 ac.m.tx.node.toNat, .int .u32 ac.m.tx.boot.toNat, .int .u32 ac.m.tx.num.toNat, .int .u32 ac.after.toNat] 32)) (by omega)
        refine ht.mono ?_
        rintro e w4 ⟨v1, rfl, hu4, hc4, ho4⟩
        have hupd : Upd Nil W0 w4 := (hu.alloc _).then hu4 (fun i hi hlt => by have := hf1 i hi; omega)
        clear ht c0 c1 c2 c3 c4 c5 hidx
        go_wp2_with fail
        go_roundw
        case rel => exact ⟨k + 1, by omega, by go_num, hupd, s.tick, hc4, by show s.now + 1 ≤ _; omega, by have := s.tick_len; omega⟩
        case measure => simp [intOf]; omega
      · generalize hW3 : wr.alloc _ = w3
        have hbC : w3.heap[wr.heap.size]? = some (.cells #[.int .u8 ac.k.toNat, .int .u8 ac.m.kind.toNat, .int .u8 ac.m.tx.node.toNat, .int .u32 ac.m.tx.boot.toNat, .int .u32 ac.m.tx.num.toNat, .int .u32 ac.after.toNat] 32) := by rw [← hW3]; exact hpNew _ _
        have hc3 : ClkIn w3 L s := by rw [← hW3]; exact hc.alloc _
        have hu3 : Upd Nil W0 w3 := by rw [← hW3]; exact hu.alloc _
        clear hW3 c0 c1 c2 c3 c4 c5 hidx hc hu hb
        refine wp_region_head_tail 6 (fun w' => Upd Nil w3 w') (by kernel_rfl) (by kernel_rfl) (Upd.refl _ _).drew ?_
        simp only [List.take_succ_cons, List.take_zero, List.drop_succ_cons, List.drop_zero]
        iterate 3
          apply wpQuiet_plain rfl
          · intro w' hw'
            obtain ⟨d0, d1, d2, d3, d4, d5⟩ := box6 (hw'.keep hbC (fun k => k))
            go_simp
            first | done | exact rfl | exact ⟨rfl, rfl⟩
          go_frame
        apply wpQuiet_plain rfl
        · intro w' hw'
          go_simp
          exact (theirs_n ac.m w').mono fun e w'' h => ⟨h.1, hw'.trans h.2⟩
        go_frame
        iterate 2
          apply wpQuiet_plain rfl
          · intro w' hw'
            obtain ⟨d0, d1, d2, d3, d4, d5⟩ := box6 (hw'.keep hbC (fun k => k))
            go_simp
            first | done | exact rfl | exact ⟨rfl, rfl⟩
          go_frame
        refine wpQuiet_nil ?_
        intro w4 hu4
        have hc4 := hc3.nil hu4
        have hu4 := hu3.trans hu4
        have hs := set_clk hc4 ac.m ac.after.toNat ac.after.toNat_lt
        simp only [encN, encU] at hs
        go_wp2_with fail
        refine hs.mono ?_
        rintro e w5 ⟨rfl, hu5, hc5⟩
        have hl5 := Clk.set_len hc4.map.nodup ac.m ac.after.toNat
        have hn5 := s.set_now ac.m ac.after.toNat
        have hu5 := hu4.then hu5 (fun i hi hlt => by have := hf1 i hi; omega)
        clear hs hc4 hc3 hu3 hu4 hbC
        go_wp2_with fail
        go_roundw
        case rel => exact ⟨k + 1, by omega, by go_num, hu5, _, hc5, by omega, by omega⟩
        case measure => simp [intOf]; omega
    · have hkn : k = ys.length := by omega
      have hko := Lib.hid hkl
      clear hl
      go_wp2_with fail
      have hsl : s.at_.length ≤ 150 := by omega
      have hsn : s.now ≤ 150 := by omega
      have hd : decide ((s.at_.length : Int) > 500) = false := by simp; omega
      have hd := Lib.hid hd
      refine (len_clk hc).mono ?_
      rintro e w2 ⟨rfl, rfl⟩
      obtain ⟨a0, a1, a2, a3⟩ := box4 (hu.keep hbN (fun k => k))
      clear hkl hkn hk hko hfew hnow hv2 hlen hu1 hc1
      have ha8 : after.toNat < 256 := after.toNat_lt
      have ha32 : ((after.toNat : Int) % 4294967296) = (after.toNat : Int) := by omega
      have hd := hd.out
      go_wp2_with fail
      refine (theirs_n n _).mono ?_
      rintro e w3 ⟨rfl, hu3⟩
      have hc3 := hc.nil hu3
      have hu3 := hu.trans hu3
      clear hc hu a0 a1 a2 a3 hd
      have hE := Clk.setE_ok (s := s) (n := n) (a := after.toNat + 1) (by omega) (by omega) (by omega) (by omega)
      have hs := set_clk hc3 n (after.toNat + 1) (by omega)
      rw [hE] at hs
      simp only [encN, encU, Int.natCast_add, Int.natCast_one] at hs
      go_wp2_with fail
      refine hs.mono ?_
      rintro e w4 ⟨rfl, hu4, hc4⟩
      have hu4 := hu3.then hu4 (fun i hi hlt => by have := hf1 i hi; omega)
      have hg := Clk.set_own hc3.map.nodup n hE
      have hn2 := s.set_now n (after.toNat + 1)
      have hl2 := Clk.set_len hc3.map.nodup n (after.toNat + 1)
      rw [← hn2] at hg hsn
      rw [← Nat.add_assoc] at hg
      generalize s.set n (after.toNat + 1) = s2 at *
      obtain ⟨a0, a1, a2, a3⟩ := box4 (hu4.keep hbN (fun k => k))
      clear hs hc3 hu3 hE hn2 hsl hl2
      go_wp2_with fail
      refine (theirs_n n _).mono ?_
      rintro e w5 ⟨rfl, hu5⟩
      have hc5 := hc4.nil hu5
      have hu5 := hu4.trans hu5
      have ht := until_clk hc5 n
      rw [hg] at ht
      simp only [encN, encU, Option.getD_some, Option.isSome_some, Int.natCast_add, Int.natCast_one] at ht
      clear hc4 hu4 a0 a1 a2 a3
      go_wp2_with fail
      refine ht.mono ?_
      rintro e w6 ⟨rfl, hu6⟩
      have hc6 := hc5.nil hu6
      have hu6 := hu5.trans hu6
      have hno := now_clk hc6
      simp only [encU] at hno
      clear ht hc5 hu5
      go_wp2_with fail
      refine hno.mono ?_
      rintro e w7 ⟨rfl, rfl⟩
      clear hno
      go_wp2_with fail
      have hnod := Lib.hid hc6.map.nodup
      have hg := Lib.hid hg
      go_loopw [79] (fun i wx => ∃ j : Nat, j ≤ after.toNat + 5 ∧ i = .int .i64 j ∧ Upd Nil W0 wx ∧ ClkIn wx L (s2.ticks j)) (fun i _ => after.toNat + 5 - (intOf i).toNat)
      case atStart => exact ⟨0, by omega, rfl, hu6, hc6⟩
      case round =>
        obtain ⟨j, hj, rfl, hu, hc⟩ := hrel
        have hnow : (s2.ticks j).now ≤ 1000 := by rw [Clk.ticks_now]; omega
        by_cases hjl : j < after.toNat + 5
        · go_wp2_with fail
          refine (tick_clk hc (by omega)).mono ?_
          rintro e w7 ⟨v1, rfl, hu7, hc7, ho7⟩
          have hu7 := hu.then hu7 (fun i hi hlt => by have := hf1 i hi; omega)
          have hcnt := Clk.ticks_count hnod.out hg.out j
          have hc7 : ClkIn w7 L (s2.ticks (j + 1)) := hc7
          have hDl : (s2.ticks j).rung.length ≤ 1024 := by
            have h1 : (s2.ticks j).rung.length = (Due ((s2.ticks j).now + 1) (s2.ticks j).at_).length := List.length_mergeSort _
            have h2 : (Due ((s2.ticks j).now + 1) (s2.ticks j).at_).length ≤ (s2.ticks j).at_.length := by unfold Due; rw [List.length_map]; exact List.length_filter_le _ _
            have h3 := hc.few
            omega
          generalize (s2.ticks j).rung = D at *
          clear hc hu
          have hvl := fun rt w' => row_len ho7 Try.underlying33 rt w'
          have hcnt := Lib.hid hcnt
          go_wp2_with fail
          go_loopw [89, 15] (fun i c wx => ∃ m : Nat, m ≤ D.length ∧ i = .int .i64 m ∧ c = .int .i64 ((D.take m).count n : Nat) ∧ Upd Nil W0 wx ∧ ClkIn wx L (s2.ticks (j + 1)) ∧ wx.ownsRow (wr.heap.size + 1) 38 4 v1 D.length (D.flatMap flN)) (fun i _ _ => D.length - (intOf i).toNat)
          case atStart => exact ⟨0, by omega, rfl, by simp, hu7, hc7, ho7⟩
          case round =>
            obtain ⟨m, hm, rfl, rfl, hu, hc, ho⟩ := hrel
            clear hu7 hc7 ho7
            have hcm : (D.take m).count n ≤ m := Nat.le_trans List.count_le_length (by rw [List.length_take]; omega)
            by_cases hml : m < D.length
            · obtain ⟨g, hg1, hg2, hia, c0, c1, c2, c3⟩ := row_name ho hml
              have htk : (D.take (m + 1)).count n = (D.take m).count n + if D[m] = n then 1 else 0 := by
                rw [List.take_succ_eq_append_getElem hml, List.count_append, List.count_singleton]
                congr 1
                by_cases h : D[m] = n <;> simp [h]
              have htk := Lib.hid htk
              go_wp2_with fail
              have hcx := hc.alloc (.cells #[.int .u8 D[m].kind.toNat, .int .u8 D[m].tx.node.toNat, .int .u32 D[m].tx.boot.toNat, .int .u32 D[m].tx.num.toNat] 38)
              have hux := hu.alloc (.cells #[.int .u8 D[m].kind.toNat, .int .u8 D[m].tx.node.toNat, .int .u32 D[m].tx.boot.toNat, .int .u32 D[m].tx.num.toNat] 38)
              have hox := ho.alloc (.cells #[.int .u8 D[m].kind.toNat, .int .u8 D[m].tx.node.toNat, .int .u32 D[m].tx.boot.toNat, .int .u32 D[m].tx.num.toNat] 38)
              have hbx := hpNew wr (.cells #[.int .u8 D[m].kind.toNat, .int .u8 D[m].tx.node.toNat, .int .u32 D[m].tx.boot.toNat, .int .u32 D[m].tx.num.toNat] 38)
              have hbn := hux.keep hbN (fun k => k)
              have heq := fun w' => eql38 D[m] n w'
              simp only [encN] at heq
              generalize wr.alloc _ = wx at *
              clear hu hc ho c0 c1 c2 c3 hia
              generalize D[m] = dm at *
              refine wp_region_class (fun w' => Upd Nil wx w') (by kernel_rfl) (by kernel_rfl) (Upd.refl _ _).drew ?_
              apply wpQuiet_plain rfl
              · intro w' hw'
                obtain ⟨d0, d1, d2, d3⟩ := box4 (hw'.keep hbx (fun k => k))
                go_simp
                first | done | exact rfl | exact ⟨rfl, rfl⟩
              go_frame
              apply wpQuiet_plain rfl
              · intro w' hw'
                obtain ⟨d0, d1, d2, d3⟩ := box4 (hw'.keep hbn (fun k => k))
                go_simp
                first | done | exact rfl | exact ⟨rfl, rfl⟩
              go_frame
              apply wpQuiet_plain rfl
              · intro w' hw'
                go_simp
                have ht := theirs_n n w'
                simp only [encN] at ht
                exact ht.mono fun e w'' h => ⟨h.1, hw'.trans h.2⟩
              go_frame
              apply wpQuiet_plain rfl
              · intro w' hw'
                have heq := heq w'
                go_simp
                first | done | exact rfl | exact ⟨rfl, rfl⟩
              go_frame
              refine wpQuiet_nil ?_
              intro w4 hu4
              have hcx := hcx.nil hu4
              have hux := hux.trans hu4
              have hox := ownsRow_upd hox hu4 (fun _ _ k => k)
              clear heq hbx hbn hu4
              by_cases hdn : dm = n
              · have hdt : decide (dm = n) = true := by simp [hdn]
                simp only [hdt] at *
                rw [if_pos hdn] at htk
                clear hdt hdn
                go_wp2_with fail
                go_roundw
                case rel => exact ⟨m + 1, by omega, by go_num, by rw [htk.out]; go_num, hux, hcx, hox⟩
                case measure => simp [intOf]; omega
              · have hdt : decide (dm = n) = false := by simp [hdn]
                simp only [hdt] at *
                rw [if_neg hdn] at htk
                clear hdt hdn
                go_wp2_with fail
                go_roundw
                case rel => exact ⟨m + 1, by omega, by go_num, by rw [htk.out]; simp, hux, hcx, hox⟩
                case measure => simp [intOf]; omega
            · have hmn : m = D.length := by omega
              have htl : (D.take m).count n = if j = after.toNat then 1 else 0 := by rw [hmn, List.take_length]; exact hcnt.out
              rw [htl]
              have hmo := Lib.hid hml
              clear hml hmn hcm hcnt ho hvl htl
              by_cases hja : j = after.toNat
              · rw [if_pos hja]
                have hje : ((j : Int) == (after.toNat : Int)) = true := by simp [hja]
                have hmo := hmo.out
                go_wp2_with fail
                go_roundw
                case rel => exact ⟨j + 1, by omega, by go_num, hu, hc⟩
                case measure => simp [intOf]; omega
              · rw [if_neg hja]
                have hje : ((j : Int) == (after.toNat : Int)) = false := by simp; omega
                have hmo := hmo.out
                go_wp2_with fail
                go_roundw
                case rel => exact ⟨j + 1, by omega, by go_num, hu, hc⟩
                case measure => simp [intOf]; omega
        · have hja : j = after.toNat + 5 := by omega
          have hga := Clk.ticks_get hnod.out hg.out j
          rw [if_neg (by omega)] at hga
          obtain ⟨a0, a1, a2, a3⟩ := box4 (hu.keep hbN (fun k => k))
          generalize s2.ticks j = s3 at *
          have hjo := Lib.hid hja
          clear hja hc6 hu6
          go_wp2_with fail
          refine (theirs_n n _).mono ?_
          rintro e w7 ⟨rfl, hu7⟩
          have hc7 := hc.nil hu7
          have hu7 := hu.trans hu7
          have ht := until_clk hc7 n
          rw [hga] at ht
          simp only [encN, encU, Option.getD_none, Option.isSome_none] at ht
          clear hc hu a0 a1 a2 a3
          go_wp2_with fail
          refine ht.mono ?_
          rintro e w8 ⟨rfl, hu8⟩
          have hu8 := hu7.trans hu8
          clear ht
          go_wp2_with fail
          refine (alive_true _).mono ?_
          rintro e w9 ⟨rfl, hu9⟩
          go_wp2_with fail
          go_ret
          exact ⟨rfl, hu0.trans (hu8.trans hu9)⟩
end Go.Proofs.Ytkalckpfepanaaa

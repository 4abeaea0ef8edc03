/- ClockPlays: the walk. -/
import Derived.Test.YtkalckpfepanaaaPlayP
namespace Go.Proofs.Ytkalckpfepanaaa
set_option linter.unusedVariables false
set_option linter.unusedSimpArgs false
set_option linter.unusedSectionVars false
open Go.My Go.RowKit Go.ChangeMaps
set_option maxHeartbeats 1000000
set_option maxRecDepth 100000

def boxA (a : Ac) : Array Value := #[.int .u8 a.k.toNat, .int .u8 a.m.kind.toNat, .int .u8 a.m.tx.node.toNat, .int .u32 a.m.tx.boot.toNat, .int .u32 a.m.tx.num.toNat, .int .u32 a.after.toNat]
structure Pl (w0 : World) (L : Lay) (R bx : Nat) (a : Ac) (s : Clk) (r : Ref) (w' : World) : Prop where
  upd : Upd Nil w0 w'
  clk : ClkIn w' L s
  ref : RefIn w' R r
  box : w'.heap[bx]? = some (.cells (boxA a) 32)
  foot : ∀ b, L.foot b → w0.heap.size ≤ b ∧ b < R
  hR : w0.heap.size ≤ R
  hbx : R < bx
section
variable {w0 w w' : World} {L : Lay} {R bx : Nat} {a : Ac} {s s' : Clk} {r r' : Ref}
theorem Pl.nil (h : Pl w0 L R bx a s r w) (hu : Upd Nil w w') : Pl w0 L R bx a s r w' :=
  ⟨h.upd.trans hu, h.clk.nil hu, h.ref.nil hu, hu.keep h.box (fun k => k), h.foot, h.hR, h.hbx⟩
theorem Pl.clkS (h : Pl w0 L R bx a s r w) (hu : Upd L.foot w w') (hc : ClkIn w' L s') : Pl w0 L R bx a s' r w' :=
  ⟨h.upd.then hu (fun i hi hlt => by have := (h.foot i hi).1; omega), hc, h.ref.upd hu (fun b hb hf => by have := (h.foot b hf).2; omega), hu.keep h.box (fun hf => by have := (h.foot _ hf).2; have := h.hbx; omega), h.foot, h.hR, h.hbx⟩
theorem Pl.refS (h : Pl w0 L R bx a s r w) (hu : Upd (· = R) w w') (hc : RefIn w' R r') : Pl w0 L R bx a s r' w' :=
  ⟨h.upd.then hu (fun i hi hlt => by have := h.hR; have hi : i = R := hi; omega), h.clk.upd hu (fun b hb hf => by have := (h.foot b hb).2; have hf : b = R := hf; omega), hc, hu.keep h.box (fun hf => by have := h.hbx; have hf : bx = R := hf; omega), h.foot, h.hR, h.hbx⟩
end

theorem next_both {w : World} {L : Lay} {R bx : Nat} {a : Ac} {s : Clk} {r : Ref} {w0 : World} (h : Pl w0 L R bx a s r w) (hr : Rel s r) :
    ∃ (n : Nm) (T : Nat) (b : Bool), T ≤ 2147483647 ∧
      (∀ w', Upd Nil w w' → Calls Try.prog 24 #[L.ptr] w' fun e w'' => e = .returned (.tuple #[encN n, .int .u32 T, .bool b]) ∧ Upd Nil w' w'') ∧
      (∀ w', Upd Nil w w' → Calls Try.prog 25 #[rptr R] w' fun e w'' => e = .returned (.tuple #[encN n, .int .u32 T, .bool b]) ∧ Upd Nil w' w'') := by
  have hn := h.clk.map.nodup
  cases hl : r.l with
  | nil =>
    have ho : s.order = [] := by rw [hr.order hn, hl]; rfl
    refine ⟨⟨0, ⟨0, 0, 0⟩⟩, 0, false, by omega, fun w' hu => (next_clk (h.clk.nil hu)).mono ?_, fun w' hu => (next_ref (h.ref.nil hu)).mono ?_⟩
    · rintro e w'' ⟨hu', ⟨_, rfl⟩ | ⟨n, q, h1, _⟩⟩
      · exact ⟨rfl, hu'⟩
      · rw [ho] at h1; cases h1
    · rintro e w'' ⟨hu', ⟨_, rfl⟩ | ⟨n, q, h1, _⟩⟩
      · exact ⟨rfl, hu'⟩
      · rw [hl] at h1; cases h1
  | cons p q =>
    obtain ⟨o, ho, ht⟩ := hr.next hn hl
    refine ⟨p.1, p.2, true, h.ref.times p (by rw [hl]; simp), fun w' hu => (next_clk (h.clk.nil hu)).mono ?_, fun w' hu => (next_ref (h.ref.nil hu)).mono ?_⟩
    · rintro e w'' ⟨hu', ⟨h1, _⟩ | ⟨n, q, h1, rfl⟩⟩
      · rw [ho] at h1; cases h1
      · rw [ho] at h1
        obtain ⟨rfl, _⟩ := List.cons.inj h1
        exact ⟨by rw [ht], hu'⟩
    · rintro e w'' ⟨hu', ⟨h1, _⟩ | ⟨n, q, h1, rfl⟩⟩
      · rw [hl] at h1; cases h1
      · rw [hl] at h1
        obtain ⟨rfl, _⟩ := List.cons.inj h1
        exact ⟨rfl, hu'⟩

theorem plays_walk (v : Value) (xs : List Ac) (w : World) (hv : Acts w v xs) :
    Calls Try.prog 5 #[v] w fun e w' => e = .returned (.bool true) ∧ Upd Nil w w' := by
  go_enter Try.func5, Try.ntmps5
  go_wp2_with fail
  refine new_clk.mono ?_
  rintro e w1 ⟨L, rfl, hu1, hc1, hf1⟩
  have hlt1 := hc1.lt
  have hc2 := hc1.alloc (.cells #[.int .u32 0, .slice none 0 0] 50)
  have hu2 := hu1.alloc (.cells #[.int .u32 0, .slice none 0 0] 50)
  have hR2 := hpNew w1 (.cells #[.int .u32 0, .slice none 0 0] 50)
  have hf2 : ∀ b, L.foot b → w.heap.size ≤ b ∧ b < w1.heap.size := fun b hb => ⟨hf1 b hb, hlt1 b hb⟩
  have hRs := hu1.size
  have hr2 : RefIn (w1.alloc (.cells #[.int .u32 0, .slice none 0 0] 50)) w1.heap.size ⟨0, []⟩ := ⟨⟨_, hR2, sliceAt_nil _ _ _ _⟩, by simp, by simp, by simp, by simp⟩
  clear hc1 hu1 hf1 hlt1 hR2
  go_wp2_with fail
  refine (alive_true _).mono ?_
  rintro e w3 ⟨rfl, hu3a⟩
  have hc3 := hc2.nil hu3a
  have hr3 := hr2.nil hu3a
  have hu3 := hu2.trans hu3a
  clear hu3a
  clear hc2 hr2 hu2
  generalize w1.heap.size = R at *
  go_wp2_with fail
  refine (short_v (hv.nil hu3)).mono ?_
  rintro e w2 ⟨rfl, v', rfl, hv2a⟩
  have hv2 := hv2a w hv
  clear hv2a
  have hlen : (xs.take 150).length ≤ 150 := by rw [List.length_take]; omega
  generalize xs.take 150 = ys at *
  clear hv
  have hl := fun rt w' => hv2.len (P := Try.prog) Try.underlying22 rt w'
  go_wp2_with fail
  go_loopw [32] (fun i wr => ∃ k : Nat, k ≤ ys.length ∧ i = .int .i64 k ∧ Upd Nil w wr ∧ ∃ s r, ClkIn wr L s ∧ RefIn wr R r ∧ Rel s r ∧ s.now ≤ k) (fun i _ => ys.length - (intOf i).toNat)
  case atStart => exact ⟨0, by omega, rfl, hu3, _, _, hc3, hr3, ⟨rfl, List.Perm.refl _, by simp, fun n t h => by cases h⟩, by simp⟩
  case round =>
    obtain ⟨k, hk, rfl, hu, s, r, hc, hr, hrl, hnow⟩ := hrel
    clear hc3 hr3 hu3
    by_cases hkl : k < ys.length
    · obtain ⟨b, o, hb, hidx, hcell⟩ := (hv2.nil hu).index (P := Try.prog) Try.underlying22 i22 hkl
      generalize ys[k] = ac at *
      have c0 : wr.cell? ⟨b, o, none⟩ = some (.int .u8 ac.k.toNat) := hcell 0 (by omega)
      have c1 : wr.cell? ⟨b, o + 1, none⟩ = some (.int .u8 ac.m.kind.toNat) := hcell 1 (by omega)
      have c2 : wr.cell? ⟨b, o + 2, none⟩ = some (.int .u8 ac.m.tx.node.toNat) := hcell 2 (by omega)
      have c3 : wr.cell? ⟨b, o + 3, none⟩ = some (.int .u32 ac.m.tx.boot.toNat) := hcell 3 (by omega)
      have c4 : wr.cell? ⟨b, o + 4, none⟩ = some (.int .u32 ac.m.tx.num.toNat) := hcell 4 (by omega)
      have c5 : wr.cell? ⟨b, o + 5, none⟩ = some (.int .u32 ac.after.toNat) := hcell 5 (by omega)
      clear hcell
      have hk8 : ac.k.toNat < 256 := ac.k.toNat_lt
      have hpl : Pl w L R wr.heap.size ac s r (wr.alloc (.cells (boxA ac) 32)) :=
        ⟨hu.alloc _, hc.alloc _, hr.nil ((Upd.refl _ _).alloc _), hpNew wr _, hf2, hRs, hr.lt⟩
      have hn := hc.map.nodup
      have hfew := hc.few
      clear hc hr hu
      unfold boxA at hpl
      go_upto_block 2 with fail
      generalize wr.alloc _ = w4 at *
      generalize wr.heap.size = bx at *
      clear c0 c1 c2 c3 c4 c5 hidx hb
      go_cut [7] (fun ok wx => ok = .bool true ∧ ∃ s' r', Pl w L R bx ac s' r' wx ∧ Rel s' r' ∧ s'.now ≤ k + 1)
      case first =>
        have hth := fun w' => theirs_n ac.m w'
        simp only [encN] at hth
        have h4 := hpl.nil ((Upd.refl Nil w4).drew)
        by_cases hk1 : ac.k.toNat % 4 = 1
        · have e1 : ((ac.k.toNat : Int) % 4 == 1) = true := beq_iff_eq.2 (by omega)
          have Hn := Lib.hid (And.intro (hrl.tick hn) (show s.tick.now ≤ k + 1 from Nat.succ_le_succ hnow))
          have hrg := hrl.rang hn
          have Hk1 := Lib.hid hk1
          clear hk1 h4 hth
          go_wp2_with fail
          refine (tick_clk hpl.clk (by omega)).mono ?_
          rintro e w5 ⟨v1, rfl, hu5, hc5, ho5⟩
          have h5 := hpl.clkS hu5 hc5
          have hpl0 := Lib.hid hpl
          clear hpl
          go_wp2_with fail
          refine (tick_ref h5.ref (by rw [hrl.now]; omega)).mono ?_
          rintro e w6 ⟨v2, rfl, hu6, hr6, ho6⟩
          have h6 := h5.refS hu6 hr6
          have hl6 : s.rung.length ≤ 1024 := by
            unfold Clk.rung sortNm
            rw [List.length_mergeSort]
            unfold Due
            rw [List.length_map]
            exact Nat.le_trans (List.length_filter_le _ _) hfew
          have hs5 := (sliceAt_of_owns ho5 rfl flN_len).upd hu6 (fun b hb _ e => by have := h5.ref.lt; have := hu5.size; have e : b = R := e; have := h5.hbx; have := My.heap_lt hpl0.out.box; omega)
          have hs6 := sliceAt_of_owns ho6 rfl flN_len
          rw [hrg] at hs6
          clear ho5 ho6 hu5 hc5 hu6 hr6 h5
          go_wp2_with fail
          refine (ours_own hs5 hl6).mono ?_
          rintro e w7 ⟨v3, rfl, hu7, ho7⟩
          have h7 := h6.nil hu7
          have hs7 := hs6.nil hu7
          have hs8 := sliceAt_of_owns ho7 rfl flN_len
          clear ho7 hs6 hs5 h6 hu7
          go_wp2_with fail
          refine (same_ref hs8 hs7 hl6).mono ?_
          rintro e w8 ⟨rfl, hu8⟩
          have h8 := h7.nil hu8
          clear h7 hs7 hs8 hu8
          go_wp2_with fail
          go_meet
          exact ⟨rfl, _, _, h8, Hn.out⟩
        have e1 : ((ac.k.toNat : Int) % 4 == 1) = false := beq_eq_false_iff_ne.2 (by omega)
        have Hk1 := Lib.hid hk1
        clear hk1
        by_cases hk2 : ac.k.toNat % 4 = 2
        · have e2 : ((ac.k.toNat : Int) % 4 == 2) = true := beq_iff_eq.2 (by omega)
          have Hn := Lib.hid (And.intro (hrl.stop hn ac.m) (show (s.stop ac.m).now ≤ k + 1 from Nat.le_succ_of_le hnow))
          have hcc := fun r' w' (h : Pl w L R bx ac s r' w') => stop_clk h.clk ac.m
          have hcr := fun s' w' (h : Pl w L R bx ac s' r w') => stop_ref h.ref ac.m
          rw [hrl.get hn] at hcr
          simp only [encN] at hcc hcr
          generalize (My.get s.at_ ac.m).isSome = bs at *
          have Hk2 := Lib.hid hk2
          clear hk2 hpl
          go_wp2_with fail
          refine wp_region_I [0, 1, 2, 5, 6] 5 1000 (fun w' => ∃ s' r', Pl w L R bx ac s' r' w') (by kernel_rfl) (by kernel_rfl) rfl ⟨_, _, h4⟩ ?_
          simp only [pickO, nthO]
          iterate 5
            apply wpTake_plain rfl
            · rintro w' ⟨s', r', hs'⟩
              obtain ⟨d0, d1, d2, d3, d4, d5⟩ := box6 hs'.box
              go_simp
              first | done | exact rfl | exact ⟨rfl, rfl⟩
            go_frame
          refine wpTake_nil ?_
          refine wpAnyT_one (i := 3) (by kernel_rfl) (by kernel_rfl) fun K hK => ?_
          simp only [nthO]
          go_simp
          refine (hth _).mono ?_
          rintro e w5 ⟨rfl, hu⟩
          have h5 := h4.nil hu
          refine hK _ _ (.inr ⟨_, _, h5⟩) ?_
          clear hK K hu
          try go_frame
          refine wpAnyT_one (i := 4) (by kernel_rfl) (by kernel_rfl) fun K hK => ?_
          simp only [nthO]
          go_simp
          refine (hcc _ _ h5).mono ?_
          rintro e w6 ⟨rfl, hu, hc⟩
          have h6 := h5.clkS hu hc
          refine hK _ _ (.inr ⟨_, _, h6⟩) ?_
          clear hK K hu hc
          try go_frame
          refine wpAnyT_one (i := 7) (by kernel_rfl) (by kernel_rfl) fun K hK => ?_
          simp only [nthO]
          go_simp
          refine (hcr _ _ h6).mono ?_
          rintro e w7 ⟨rfl, hu, hc⟩
          have h7 := h6.refS hu hc
          refine hK _ _ (.inr ⟨_, _, h7⟩) ?_
          clear hK K hu hc
          try go_frame
          refine wpAnyT_one (i := 8) (by kernel_rfl) (by kernel_rfl) fun K hK => ?_
          simp only [nthO]
          go_simp
          refine hK _ _ (.inr ⟨_, _, h7⟩) ?_
          clear hK K
          try go_frame
          refine wpAnyT_one (i := 9) (by kernel_rfl) (by kernel_rfl) fun K hK => ?_
          simp only [nthO]
          go_simp
          refine hK _ _ (.inr ⟨_, _, h7⟩) ?_
          clear hK K
          try go_frame
          refine wpAnyT_zero (by kernel_rfl) ?_
          simp only [NoPan]
          go_wp2_with fail
          go_meet
          exact ⟨rfl, _, _, h7, Hn.out⟩
        · have e2 : ((ac.k.toNat : Int) % 4 == 2) = false := beq_eq_false_iff_ne.2 (by omega)
          have Hn := Lib.hid (And.intro (hrl.set hn hfew ac.m ac.after.toNat) (show (s.set ac.m ac.after.toNat).now ≤ k + 1 by rw [s.set_now]; omega))
          have hcc := fun r' w' (h : Pl w L R bx ac s r' w') => set_clk h.clk ac.m ac.after.toNat ac.after.toNat_lt
          have hcr := fun s' w' (h : Pl w L R bx ac s' r w') => set_ref h.ref ac.m ac.after.toNat ac.after.toNat_lt
          rw [hrl.setE hn hfew] at hcr
          simp only [encN, encU] at hcc hcr
          generalize s.setE ac.m ac.after.toNat = en at *
          have Hk2 := Lib.hid hk2
          clear hk2 hpl
          go_wp2_with fail
          refine wp_region_I [0, 1, 2, 4, 5, 7, 8, 9, 10] 5 1000 (fun w' => ∃ s' r', Pl w L R bx ac s' r' w') (by kernel_rfl) (by kernel_rfl) rfl ⟨_, _, h4⟩ ?_
          simp only [pickO, nthO]
          iterate 9
            apply wpTake_plain rfl
            · rintro w' ⟨s', r', hs'⟩
              obtain ⟨d0, d1, d2, d3, d4, d5⟩ := box6 hs'.box
              go_simp
              first | done | exact rfl | exact ⟨rfl, rfl⟩
            go_frame
          refine wpTake_nil ?_
          refine wpAnyT_one (i := 3) (by kernel_rfl) (by kernel_rfl) fun K hK => ?_
          simp only [nthO]
          go_simp
          refine (hth _).mono ?_
          rintro e w5 ⟨rfl, hu⟩
          have h5 := h4.nil hu
          refine hK _ _ (.inr ⟨_, _, h5⟩) ?_
          clear hK K hu
          try go_frame
          refine wpAnyT_one (i := 6) (by kernel_rfl) (by kernel_rfl) fun K hK => ?_
          simp only [nthO]
          go_simp
          refine (hcc _ _ h5).mono ?_
          rintro e w6 ⟨rfl, hu, hc⟩
          have h6 := h5.clkS hu hc
          refine hK _ _ (.inr ⟨_, _, h6⟩) ?_
          clear hK K hu hc
          try go_frame
          refine wpAnyT_one (i := 11) (by kernel_rfl) (by kernel_rfl) fun K hK => ?_
          simp only [nthO]
          go_simp
          refine (hcr _ _ h6).mono ?_
          rintro e w7 ⟨rfl, hu, hc⟩
          have h7 := h6.refS hu hc
          refine hK _ _ (.inr ⟨_, _, h7⟩) ?_
          clear hK K hu hc
          try go_frame
          refine wpAnyT_one (i := 12) (by kernel_rfl) (by kernel_rfl) fun K hK => ?_
          simp only [nthO]
          go_simp
          refine hK _ _ (.inr ⟨_, _, h7⟩) ?_
          clear hK K
          try go_frame
          refine wpAnyT_one (i := 13) (by kernel_rfl) (by kernel_rfl) fun K hK => ?_
          simp only [nthO]
          go_simp
          refine hK _ _ (.inr ⟨_, _, h7⟩) ?_
          clear hK K
          try go_frame
          refine wpAnyT_zero (by kernel_rfl) ?_
          simp only [NoPan]
          go_wp2_with fail
          go_meet
          exact ⟨rfl, _, _, h7, Hn.out⟩
      case rest =>
        obtain ⟨rfl, s', r', hp, hrl', hnow'⟩ := hcut
        generalize wc = w5 at *
        clear hpl hrl hnow hn hfew
        have hn := hp.clk.map.nodup
        have hth := fun w' => theirs_n ac.m w'
        obtain ⟨d0, d1, d2, d3, d4, d5⟩ := box6 hp.box
        have hge := hrl'.get hn ac.m
        have hcu := fun w' (h : Pl w L R bx ac s' r' w') => until_clk h.clk ac.m
        have hru := fun w' (h : Pl w L R bx ac s' r' w') => until_ref h.ref ac.m
        rw [hge] at hru
        simp only [encN, encU] at hth hcu hru
        generalize (My.get s'.at_ ac.m).getD 0 = A at *
        generalize (My.get s'.at_ ac.m).isSome = ib at *
        clear hge
        go_wp2_with fail
        refine (hth _).mono ?_
        rintro e w6 ⟨rfl, hu6⟩
        have hp6 := hp.nil hu6
        clear hu6 hp d0 d1 d2 d3 d4 d5
        go_wp2_with fail
        refine (hcu _ hp6).mono ?_
        rintro e w7 ⟨rfl, hu7⟩
        have hp7 := hp6.nil hu7
        obtain ⟨d0, d1, d2, d3, d4, d5⟩ := box6 hp7.box
        clear hu7 hp6
        go_wp2_with fail
        refine (hru _ hp7).mono ?_
        rintro e w8 ⟨rfl, hu8⟩
        have hp8 := hp7.nil hu8
        clear hu8 hp7 d0 d1 d2 d3 d4 d5 hcu hru
        obtain ⟨n, T, nb, hT, hA, hB⟩ := next_both hp8 hrl'
        have hne := fun w' => neq38 n n w'
        have htn := fun w' => theirs_n n w'
        simp only [encN, decide_true, Bool.not_true] at hA hB hne htn
        go_wp2_with fail
        refine (hA _ (Upd.refl _ _)).mono ?_
        rintro e w9 ⟨rfl, hu9⟩
        have hu9a := hu9.alloc (.cells #[.int .u8 n.kind.toNat, .int .u8 n.tx.node.toNat, .int .u32 n.tx.boot.toNat, .int .u32 n.tx.num.toNat] 38)
        have hb9 := hpNew w9 (.cells #[.int .u8 n.kind.toNat, .int .u8 n.tx.node.toNat, .int .u32 n.tx.boot.toNat, .int .u32 n.tx.num.toNat] 38)
        clear hA
        go_wp2_with fail
        refine (hB _ hu9a).mono ?_
        rintro e w10 ⟨rfl, hu10⟩
        have hb10 := hpOld (.cells #[.int .u8 n.kind.toNat, .int .u8 n.tx.node.toNat, .int .u32 n.tx.boot.toNat, .int .u32 n.tx.num.toNat] 27) (hu10.keep hb9 (fun k => k))
        have hb11 := hpNew w10 (.cells #[.int .u8 n.kind.toNat, .int .u8 n.tx.node.toNat, .int .u32 n.tx.boot.toNat, .int .u32 n.tx.num.toNat] 27)
        have hp11 := hp8.nil ((hu9a.trans hu10).alloc (.cells #[.int .u8 n.kind.toNat, .int .u8 n.tx.node.toNat, .int .u32 n.tx.boot.toNat, .int .u32 n.tx.num.toNat] 27))
        clear hB hb9 hu9a hu10 hp8 hu9
        go_upto_region 21 with fail
        obtain ⟨v12, hb12, hs12⟩ := hp11.ref.out
        have hl12 := fun rt w' => hs12.len (P := Try.prog) Try.underlying48 rt w'
        rw [hrl'.perm.length_eq] at hl12
        rw [hrl'.now] at hb12
        have hno := fun w' (hw : Upd Nil _ w') => now_clk (hp11.clk.nil hw)
        have hln := fun w' (hw : Upd Nil _ w') => len_clk (hp11.clk.nil hw)
        simp only [encU] at hno
        generalize w9.heap.size = b10 at *
        generalize w10.heap.size = b11 at *
        generalize w10.alloc _ = w11 at *
        go_cut [150] (fun x wx => x = .bool false ∧ Upd Nil w11 wx)
        case first =>
          refine wp_region_class (fun w' => Upd Nil w11 w') (by kernel_rfl) (by kernel_rfl) (Upd.refl _ _).drew ?_
          iterate 3
            apply wpQuiet_plain rfl
            · intro w' hw'
              go_simp
              first | done | exact rfl | exact ⟨rfl, rfl⟩
            go_frame
          iterate 3
            apply wpQuiet_want rfl
            · intro w' hw'
              go_simp
              first | done | exact rfl | exact ⟨rfl, rfl⟩
            go_frame
          iterate 2
            apply wpQuiet_plain rfl
            · intro w' hw'
              go_simp
              first | done | exact rfl | exact ⟨rfl, rfl⟩
            go_frame
          iterate 3
            apply wpQuiet_want rfl
            · intro w' hw'
              go_simp
              first | done | exact rfl | exact ⟨rfl, rfl⟩
            go_frame
          iterate 2
            apply wpQuiet_plain rfl
            · intro w' hw'
              go_simp
              first | done | exact rfl | exact ⟨rfl, rfl⟩
            go_frame
          iterate 2
            apply wpQuiet_want rfl
            · intro w' hw'
              obtain ⟨f0, f1, f2, f3⟩ := box4 (hw'.keep hb10 (fun k => k))
              obtain ⟨g0, g1, g2, g3⟩ := box4 (hw'.keep hb11 (fun k => k))
              have f4 := hne w'
              go_simp
              first | done | exact rfl | exact ⟨rfl, rfl⟩
            go_frame
          apply wpQuiet_want rfl
          · intro w' hw'
            go_simp
            exact (htn w').mono fun e w'' h => ⟨h.1, hw'.trans h.2⟩
          go_frame
          iterate 1
            apply wpQuiet_want rfl
            · intro w' hw'
              obtain ⟨f0, f1, f2, f3⟩ := box4 (hw'.keep hb10 (fun k => k))
              obtain ⟨g0, g1, g2, g3⟩ := box4 (hw'.keep hb11 (fun k => k))
              have f4 := hne w'
              go_simp
              first | done | exact rfl | exact ⟨rfl, rfl⟩
            go_frame
          iterate 2
            apply wpQuiet_plain rfl
            · intro w' hw'
              go_simp
              first | done | exact rfl | exact ⟨rfl, rfl⟩
            go_frame
          iterate 3
            apply wpQuiet_want rfl
            · intro w' hw'
              go_simp
              first | done | exact rfl | exact ⟨rfl, rfl⟩
            go_frame
          iterate 2
            apply wpQuiet_plain rfl
            · intro w' hw'
              go_simp
              first | done | exact rfl | exact ⟨rfl, rfl⟩
            go_frame
          iterate 3
            apply wpQuiet_want rfl
            · intro w' hw'
              go_simp
              first | done | exact rfl | exact ⟨rfl, rfl⟩
            go_frame
          iterate 2
            apply wpQuiet_plain rfl
            · intro w' hw'
              go_simp
              first | done | exact rfl | exact ⟨rfl, rfl⟩
            go_frame
          iterate 1
            apply wpQuiet_want rfl
            · intro w' hw'
              go_simp
              first | done | exact rfl | exact ⟨rfl, rfl⟩
            go_frame
          apply wpQuiet_want rfl
          · intro w' hw'
            go_simp
            exact (hno w' hw').mono fun e w'' h => ⟨h.1, h.2 ▸ hw'⟩
          go_frame
          iterate 3
            apply wpQuiet_want rfl
            · intro w' hw'
              obtain ⟨f0, f1⟩ := box2 (hw'.keep hb12 (fun k => k))
              have f4 := fun rt => hl12 rt w'
              go_simp
              first | done | exact rfl | exact ⟨rfl, rfl⟩
            go_frame
          iterate 2
            apply wpQuiet_plain rfl
            · intro w' hw'
              go_simp
              first | done | exact rfl | exact ⟨rfl, rfl⟩
            go_frame
          iterate 1
            apply wpQuiet_want rfl
            · intro w' hw'
              go_simp
              first | done | exact rfl | exact ⟨rfl, rfl⟩
            go_frame
          apply wpQuiet_want rfl
          · intro w' hw'
            go_simp
            exact (hln w' hw').mono fun e w'' h => ⟨h.1, h.2 ▸ hw'⟩
          go_frame
          iterate 4
            apply wpQuiet_want rfl
            · intro w' hw'
              obtain ⟨f0, f1⟩ := box2 (hw'.keep hb12 (fun k => k))
              have f4 := fun rt => hl12 rt w'
              go_simp
              first | done | exact rfl | exact ⟨rfl, rfl⟩
            go_frame
          iterate 1
            apply wpQuiet_plain rfl
            · intro w' hw'
              go_simp
              first | done | exact rfl | exact ⟨rfl, rfl⟩
            go_frame
          refine wpQuiet_nil ?_
          intro w13 hu13
          go_wp2_with fail
          go_meet
          exact ⟨rfl, hu13⟩
        case rest =>
          obtain ⟨rfl, hu13⟩ := hcut
          generalize wc = w13 at *
          have hp13 := hp11.nil hu13
          clear hno hln hne hth htn hb10 hb11 hb12 hs12 hl12
          go_wp2_with fail
          go_roundw
          case rel => exact ⟨k + 1, by omega, by go_num, hp13.upd, s', r', hp13.clk, hp13.ref, hrl', hnow'⟩
          case measure => simp [intOf]; omega
    · go_wp2_with fail
      go_ret
      exact ⟨rfl, hu⟩
end Go.Proofs.Ytkalckpfepanaaa

/- The reference's clock: Set. -/
import Derived.Test.YtkalckpfepanaaaRefF
import Derived.Deep.DeepCutAuto
import Derived.Deep.CutBlock
namespace Go.Proofs.Ytkalckpfepanaaa
set_option linter.unusedVariables false
set_option linter.unusedSimpArgs false
set_option linter.unusedSectionVars false
open Go.My Go.RowKit Go.ChangeMaps
set_option maxHeartbeats 400000
set_option maxRecDepth 100000

/-- where a timer goes -/
def insAt (l : List (Nm × Nat)) (p : Nm × Nat) : Nat := l.findIdx fun q => ¬ aheadP q p
def ins (l : List (Nm × Nat)) (p : Nm × Nat) : List (Nm × Nat) := l.take (insAt l p) ++ p :: l.drop (insAt l p)
def Ref.setE (s : Ref) (n : Nm) (after : Nat) : Nat :=
  if after = 0 then 1 else if after > 2147483647 - s.now then 17 else if get s.l n = none ∧ 1024 ≤ s.l.length then 5 else 0
def Ref.set (s : Ref) (n : Nm) (after : Nat) : Ref :=
  if s.setE n after = 0 then { s with l := ins (del s.l n) (n, s.now + after) } else s

/-- the loop that looks for the place, and what is behind it -/
theorem insAt_le (l : List (Nm × Nat)) (p : Nm × Nat) : insAt l p ≤ l.length := List.findIdx_le_length
theorem insAt_at {l : List (Nm × Nat)} {p : Nm × Nat} {k : Nat} (hk : k < l.length) (h : ¬ aheadP l[k] p) (hb : ∀ j (hj : j < k) (hl : j < l.length), aheadP l[j] p) : insAt l p = k := by
  unfold insAt
  rw [List.findIdx_eq hk]
  exact ⟨by simp [h], fun j hj => by simp [hb j hj (by omega)]⟩
theorem insAt_end {l : List (Nm × Nat)} {p : Nm × Nat} (hb : ∀ j (hl : j < l.length), aheadP l[j] p) : insAt l p = l.length := by
  unfold insAt
  rw [List.findIdx_eq_length]
  intro q hq
  obtain ⟨j, hj, rfl⟩ := List.getElem_of_mem hq
  simp [hb j hj]

theorem ins_perm (l : List (Nm × Nat)) (p : Nm × Nat) : (ins l p).Perm (p :: l) := by
  unfold ins
  refine List.perm_middle.trans ?_
  rw [List.take_append_drop]
theorem ins_len (l : List (Nm × Nat)) (p : Nm × Nat) : (ins l p).length = l.length + 1 := by rw [(ins_perm l p).length_eq]; rfl
theorem mem_ins {l : List (Nm × Nat)} {p x : Nm × Nat} : x ∈ ins l p ↔ x = p ∨ x ∈ l := by rw [(ins_perm l p).mem_iff, List.mem_cons]
theorem nodup_ins {l : List (Nm × Nat)} {p : Nm × Nat} (hn : (l.map (·.1)).Nodup) (h : p.1 ∉ l.map (·.1)) : ((ins l p).map (·.1)).Nodup := by
  rw [((ins_perm l p).map (·.1)).nodup_iff, List.map_cons, List.nodup_cons]
  exact ⟨h, hn⟩
theorem not_mem_del (l : List (Nm × Nat)) (n : Nm) : n ∉ (del l n).map (·.1) := by
  intro h
  obtain ⟨p, hp, rfl⟩ := List.mem_map.1 h
  exact (mem_del.1 hp).2 rfl

set_option maxHeartbeats 1000000 in
theorem set_ref {w : World} {R : Nat} {s : Ref} (h : RefIn w R s) (n : Nm) (after : Nat) (ha : after < 4294967296) :
    Calls Try.prog 22 #[rptr R, encN n, .int .u32 after] w fun e w' => e = .returned (.int .i64 (s.setE n after)) ∧ Upd (· = R) w w' ∧ RefIn w' R (s.set n after) := by
  have h0 := h.nil ((Upd.refl Nil w).alloc (.cells (encN n).cells 27))
  have hu := (Upd.refl Nil w).alloc (.cells (encN n).cells 27)
  have hbn := hpNew w (.cells (encN n).cells 27)
  have hR := h.lt
  clear h
  simp only [encN, Value.cells] at *
  by_cases h1 : after = 0
  · have hE : s.setE n after = 1 := by unfold Ref.setE; rw [if_pos h1]
    have hs : s.set n after = s := by unfold Ref.set; rw [hE]; rfl
    rw [hE, hs]
    subst h1
    go_enter Try.func22, Try.ntmps22
    go_wp2_with fail
    go_ret
    exact ⟨rfl, hu.mono (fun _ _ k => k.elim), h0⟩
  by_cases h2 : after > 2147483647 - s.now
  · have hE : s.setE n after = 17 := by unfold Ref.setE; rw [if_neg h1, if_pos h2]
    have hs : s.set n after = s := by unfold Ref.set; rw [hE]; rfl
    rw [hE, hs]
    obtain ⟨v, hb, hsl⟩ := h0.out
    have r0 := (box2 hb).1
    have hnow := h0.now
    have d1 : ((after : Int) == 0) = false := beq_eq_false_iff_ne.2 (by omega)
    have d2 : decide ((after : Int) > 2147483647 - s.now) = true := decide_eq_true (by omega)
    have H := Lib.hid (And.intro h1 h2)
    have H0 := Lib.hid h0
    clear h1 h2 hE hs hsl hb h0
    go_enter Try.func22, Try.ntmps22
    go_wp2_with fail
    go_ret
    exact ⟨rfl, hu.mono (fun _ _ k => k.elim), H0.out⟩
  have hp := fun (w' : World) (hw : Upd Nil (w.alloc (.cells (encN n).cells 27)) w') => place_ref (h0.nil hw) n
  simp only [encN, Value.cells] at hp
  have hnow := h0.now
  have hfew := h0.few
  have d1 : ((after : Int) == 0) = false := beq_eq_false_iff_ne.2 (by omega)
  have d2 : decide ((after : Int) > 2147483647 - s.now) = false := decide_eq_false (by omega)
  by_cases h3 : get s.l n = none ∧ 1024 ≤ s.l.length
  · have hE : s.setE n after = 5 := by unfold Ref.setE; rw [if_neg h1, if_neg h2, if_pos h3]
    have hs : s.set n after = s := by unfold Ref.set; rw [hE]; rfl
    rw [hE, hs]
    have hpl : placeR s.l n = -1 := by
      rcases place_cases h0.nodup n with ⟨k, hk, hpk, hkn, hg, _⟩ | ⟨hpk, _⟩
      · rw [h3.1] at hg; cases hg
      · exact hpk
    rw [hpl] at hp
    obtain ⟨v, hb, hsl⟩ := h0.out
    have d3 : decide ((s.l.length : Int) ≥ 1024) = true := decide_eq_true (by omega)
    have H := Lib.hid (And.intro h1 (And.intro h2 h3))
    have H0 := Lib.hid h0
    have r0 := (box2 hb).1
    obtain ⟨a0, a1, a2, a3⟩ := box4 hbn
    clear h1 h2 h3 hE hs h0
    go_enter Try.func22, Try.ntmps22
    go_wp2_with fail
    refine (hp _ (Upd.refl _ _)).mono ?_
    rintro e w1 ⟨rfl, hu1⟩
    have r1 := (box2 (hu1.keep hb (fun k => k))).2
    have hl := fun rt w' => hsl.len (P := Try.prog) Try.underlying48 rt w'
    clear hp a0 a1 a2 a3
    go_wp2_with fail
    go_ret
    exact ⟨rfl, (hu.trans hu1).mono (fun _ _ k => k.elim), H0.out.nil hu1⟩
  have hsum : s.now + after ≤ 2147483647 := by omega
  have hE : s.setE n after = 0 := by unfold Ref.setE; rw [if_neg h1, if_neg h2, if_neg h3]
  have hset : s.set n after = { s with l := ins (del s.l n) (n, s.now + after) } := by unfold Ref.set; rw [if_pos hE]
  rw [hE, hset]
  have hlen : (del s.l n).length < 1024 := by
    have hd := length_del h0.nodup n
    cases hg : get s.l n with
    | none =>
      rw [hg] at hd
      simp at hd
      rw [hd]
      rcases Nat.lt_or_ge s.l.length 1024 with h | h
      · exact h
      · exact absurd ⟨hg, h⟩ h3
    | some t =>
      rw [hg] at hd
      simp at hd
      have := List.length_pos_of_mem (get_some_mem hg)
      omega
  have hst := fun (w' : World) (hw : Upd Nil (w.alloc (.cells (encN n).cells 27)) w') => stop_ref (h0.nil hw) n
  simp only [encN, Value.cells] at hst
  obtain ⟨v, hb, hsl⟩ := h0.out
  have r0 := (box2 hb).1
  have hpc : placeR s.l n = -1 ∧ s.l.length < 1024 ∨ ∃ k : Nat, placeR s.l n = k := by
    rcases place_cases h0.nodup n with ⟨k, hk, hpk, hkn, hg, _⟩ | ⟨hpk, hg, _⟩
    · exact .inr ⟨k, hpk⟩
    · refine .inl ⟨hpk, ?_⟩
      rcases Nat.lt_or_ge s.l.length 1024 with h | h
      · exact h
      · exact absurd ⟨hg, h⟩ h3
  have H := Lib.hid (And.intro h1 (And.intro h2 h3))
  have H0 := Lib.hid h0
  obtain ⟨a0, a1, a2, a3⟩ := box4 hbn
  have hl := fun rt w' => hsl.len (P := Try.prog) Try.underlying48 rt w'
  clear h1 h2 h3 hE hset h0
  go_enter Try.func22, Try.ntmps22
  go_upto_block 0 with fail
  go_cut [] (fun wx => Upd Nil (w.alloc (.cells #[.int .u8 n.kind.toNat, .int .u8 n.tx.node.toNat, .int .u32 n.tx.boot.toNat, .int .u32 n.tx.num.toNat] 27)) wx)
  case first =>
    clear hst
    rcases hpc with ⟨hpl, hlt⟩ | ⟨k, hpl⟩
    · have d3 : decide ((s.l.length : Int) ≥ 1024) = false := decide_eq_false (by omega)
      rw [hpl] at hp
      go_wp2_with fail
      refine (hp _ (Upd.refl _ _)).mono ?_
      rintro e w1 ⟨rfl, hu1⟩
      have r1 := (box2 (hu1.keep hb (fun k => k))).2
      clear hp a0 a1 a2 a3
      go_wp2_with fail
      go_meet
      exact hu1
    · have d3 : decide ((k : Int) < 0) = false := decide_eq_false (by omega)
      rw [hpl] at hp
      go_wp2_with fail
      refine (hp _ (Upd.refl _ _)).mono ?_
      rintro e w1 ⟨rfl, hu1⟩
      clear hp a0 a1 a2 a3
      go_wp2_with fail
      go_meet
      exact hu1
  case rest =>
    have hu1 := hcut
    generalize wc = w1 at *
    have hst := hst _ hu1
    obtain ⟨b0, b1, b2, b3⟩ := box4 (hu1.keep hbn (fun k => k))
    clear hp a0 a1 a2 a3 hcut hl
    go_wp2_with fail
    refine hst.mono ?_
    rintro e w2 ⟨rfl, hu20, hr2⟩
    have hbn2 := (hu20.trans (Upd.refl _ _)).keep (hu1.keep hbn (fun k => k)) (fun e => by have e : w.heap.size = R := e; omega)
    have hu2 : Upd (· = R) w w2 := ((hu.trans hu1).mono (T := (· = R)) (fun _ _ k => k.elim)).trans hu20
    clear hst r0 b0 b1 b2 b3 hsl hb
    obtain ⟨v2, hb20, hs20⟩ := hr2.out
    have hb2 : w2.heap[R]? = some (.cells #[.int .u32 s.now, v2] 50) := hb20
    have hs2 : SliceAt flT 5 (R + 1) w2 v2 (del s.l n) := hs20
    clear hu20 hb20 hs20
    have hF : ∀ w' : World, Upd Nil w2 w' → w'.cell? ⟨R, 0, none⟩ = some (.int .u32 s.now) ∧ (w'.cell? ⟨w.heap.size, 0, none⟩ = some (.int .u8 n.kind.toNat) ∧ w'.cell? ⟨w.heap.size, 1, none⟩ = some (.int .u8 n.tx.node.toNat) ∧
        w'.cell? ⟨w.heap.size, 2, none⟩ = some (.int .u32 n.tx.boot.toNat) ∧ w'.cell? ⟨w.heap.size, 3, none⟩ = some (.int .u32 n.tx.num.toNat)) := fun w' hw => ⟨(box2 (hw.keep hb2 (fun k => k))).1, box4 (hw.keep hbn2 (fun k => k))⟩
    go_upto_region 8 with fail
    go_cut [7] (fun p wx => ∃ g : Nat, p = .pointer (some ⟨g, 0, none⟩) ∧ wx.heap[g]? = some (.cells #[.int .u8 n.kind.toNat, .int .u8 n.tx.node.toNat, .int .u32 n.tx.boot.toNat, .int .u32 n.tx.num.toNat, .int .u32 (s.now + after)] 79) ∧ Upd Nil w2 wx)
    case first =>
      refine wp_region_I [0, 1, 2, 3, 4, 5, 6, 7] 2 1000 (fun w' => Upd Nil w2 w') (by kernel_rfl) (by kernel_rfl) rfl (Upd.refl _ _).drew ?_
      simp only [pickO, nthO]
      iterate 8
        apply wpTake_plain rfl
        · intro w' hw'
          obtain ⟨f0, f1, f2, f3, f4⟩ := hF w' hw'
          go_simp
          try (rw [IntWalk.u32_in _ (by omega)])
          first | done | exact rfl | exact ⟨rfl, rfl⟩
        go_frame
      refine wpTake_nil ?_
      refine wpAnyT_one (i := 8) (by kernel_rfl) (by kernel_rfl) fun K hK => ?_
      simp only [nthO]
      go_simp
      refine hK _ _ (.inr ((Upd.refl Nil w2).alloc _).drew) ?_
      clear hK K
      try go_frame
      refine wpAnyT_one (i := 9) (by kernel_rfl) (by kernel_rfl) fun K hK => ?_
      simp only [nthO]
      go_simp
      refine hK _ _ (.inr ((Upd.refl Nil w2).alloc _).drew) ?_
      clear hK K
      try go_frame
      refine wpAnyT_zero (by kernel_rfl) ?_
      simp only [NoPan]
      go_wp2_with fail
      go_meet
      exact ⟨_, rfl, hpNew w2 _, ((Upd.refl Nil w2).alloc _).drew⟩
    case rest =>
      obtain ⟨g, rfl, hb4, hu4⟩ := hcut
      generalize wc = w4 at *
      clear hF hu1 hbn hbn2
      obtain ⟨t, ht⟩ : ∃ t : Nm × Nat, t = (n, s.now + after) := ⟨_, rfl⟩
      generalize hdl : del s.l n = l at *
      have Hl := Lib.hid hdl
      have Ht := Lib.hid ht
      clear hdl
      go_upto_block 1 with fail
      go_cut [8] (fun i wx => i = .int .i64 (insAt l t : Nat) ∧ Upd Nil w4 wx)
      case first =>
        have hcall := fun k (hk : k < l.length) w' => ahead_ref l[k] (n, s.now + after) w'
        simp only [encTm, Int.natCast_add] at hcall
        rw [← ht] at hcall
        have Hcall := Lib.hid hcall
        clear hcall ht
        go_wp2_with fail
        go_loopw [8] (fun i wr => ∃ k : Nat, k ≤ l.length ∧ i = .int .i64 k ∧ Upd Nil w4 wr ∧ ∀ j (hj : j < k) (hl : j < l.length), aheadP l[j] t) (fun i _ => l.length - (intOf i).toNat)
        case atStart => exact ⟨0, by omega, rfl, Upd.refl _ _, fun j hj => by omega⟩
        case round =>
          obtain ⟨k, hk, rfl, hux, hah⟩ := hrel
          have hw4r := hu4.trans hux
          have hF : ∀ w' : World, Upd Nil wr w' → w'.cell? ⟨R, 1, none⟩ = some v2 ∧ True := fun w' hw => ⟨(box2 ((hw4r.trans hw).keep hb2 (fun k => k))).2, trivial⟩
          by_cases hkl : k < l.length
          · go_wp2_with fail
            refine wp_region_class (fun w' => Upd Nil wr w') (by kernel_rfl) (by kernel_rfl) (Upd.refl _ _).drew ?_
            iterate 8
              apply wpQuiet_plain rfl
              · intro w' hw'
                obtain ⟨f1, f2⟩ := hF w' hw'
                have hl := fun rt w' => hs2.len (P := Try.prog) Try.underlying48 rt w'
                go_simp
                first | done | exact rfl | exact ⟨rfl, rfl⟩
              go_frame
            obtain ⟨b, o, hbl, hidx, hcell⟩ := hs2.index (P := Try.prog) Try.underlying48 size79 hkl
            have hbt := fun w' (hw : Upd Nil wr w') => box5 ((hux.trans hw).keep hb4 (fun k => k))
            have hcl := Lib.hid fun w' (hw : Upd Nil wr w') j (hj : j < 5) => (((hw4r.trans hw).cell (p := ⟨b, o + j, none⟩) hbl (fun k => k)).trans (hcell j hj))
            clear hcell
            have hcall := Hcall.out k hkl
            obtain ⟨d, hdd⟩ : ∃ d, decide (aheadP l[k] t) = d := ⟨_, rfl⟩
            rw [hdd] at hcall
            have Hd := Lib.hid hdd
            clear hdd
            iterate 8
              apply wpQuiet_want rfl
              · intro w' hw'
                obtain ⟨f1, f2⟩ := hF w' hw'
                obtain ⟨g0, g1, g2, g3, g4⟩ := hbt w' hw'
                have e0 : w'.cell? ⟨b, o, none⟩ = some (.int .u8 l[k].1.kind.toNat) := hcl.out w' hw' 0 (by omega)
                have e1 : w'.cell? ⟨b, o + 1, none⟩ = some (.int .u8 l[k].1.tx.node.toNat) := hcl.out w' hw' 1 (by omega)
                have e2 : w'.cell? ⟨b, o + 2, none⟩ = some (.int .u32 l[k].1.tx.boot.toNat) := hcl.out w' hw' 2 (by omega)
                have e3 : w'.cell? ⟨b, o + 3, none⟩ = some (.int .u32 l[k].1.tx.num.toNat) := hcl.out w' hw' 3 (by omega)
                have e4 : w'.cell? ⟨b, o + 4, none⟩ = some (.int .u32 l[k].2) := hcl.out w' hw' 4 (by omega)
                have f3 := hidx w'
                go_simp
                first | done | exact rfl | exact ⟨rfl, rfl⟩
              go_frame
            apply wpQuiet_want rfl
            · intro w' hw'
              go_simp
              exact (hcall w').mono fun e w'' h => ⟨h.1, hw'.trans h.2⟩
            go_frame
            apply wpQuiet_plain rfl
            · intro w' hw'
              go_simp
              first | done | exact rfl | exact ⟨rfl, rfl⟩
            go_frame
            refine wpQuiet_nil ?_
            intro w5 hu5
            clear hcall hcl hbt hidx hF
            cases d
            · go_wp2_with fail
              go_meet
              exact ⟨by rw [insAt_at hkl (of_decide_eq_false Hd.out) hah], hux.trans hu5⟩
            · go_wp2_with fail
              exact ⟨⟨k + 1, by omega, by go_num, hux.trans hu5, fun j hj hl => by
                by_cases hjk : j = k
                · subst hjk; exact of_decide_eq_true Hd.out
                · exact hah j (by omega) hl⟩, by simp [intOf]; omega⟩
          · have hd : decide (k < l.length) = false := decide_eq_false hkl
            have Hk := Lib.hid hkl
            clear hkl
            go_wp2_with fail
            refine wp_region_class (fun w' => Upd Nil wr w') (by kernel_rfl) (by kernel_rfl) (Upd.refl _ _).drew ?_
            iterate 7
              apply wpQuiet_plain rfl
              · intro w' hw'
                obtain ⟨f1, f2⟩ := hF w' hw'
                have hl := fun rt w' => hs2.len (P := Try.prog) Try.underlying48 rt w'
                go_simp
                first | done | exact rfl | exact ⟨rfl, rfl⟩
              go_frame
            apply wpQuiet_plain_passes 9 rfl
            · intro w' hw'
              go_simp
              first | done | exact rfl | exact ⟨rfl, rfl⟩
            · kernel_rfl
            simp only [List.drop_succ_cons, List.drop_zero, List.take_succ_cons, List.take_zero, putU]
            go_frame
            apply wpQuiet_plain rfl
            · intro w' hw'
              go_simp
              first | done | exact rfl | exact ⟨rfl, rfl⟩
            go_frame
            refine wpQuiet_nil ?_
            intro w5 hu5
            go_wp2_with fail
            go_meet
            exact ⟨by rw [insAt_end (fun j hl => hah j (by have := Hk.out; omega) hl)]; have := Hk.out; congr 2; omega, hux.trans hu5⟩
      case rest =>
        obtain ⟨rfl, hu50⟩ := hcut
        generalize wc = w5 at *
        have hu5 := hu4.trans hu50
        have hk := insAt_le l t
        generalize hkk : insAt l t = k at *
        have Hk := Lib.hid hkk
        clear hkk ht
        obtain ⟨i79, hi79, hz0, hz1, hz2⟩ := info_parts info79
        have hs5 := hs2.nil hu5
        have hb5 := hu5.keep hb2 (fun k => k)
        have hg5 := hu50.keep hb4 (fun k => k)
        obtain ⟨v1, ht1, hst⟩ := hs5.run_take (P := Try.prog) Try.underlying48 size79 (n := k) hk
        obtain ⟨v3, ht2, hsd⟩ := hs5.run_drop (P := Try.prog) Try.underlying48 size79 (n := k) hk
        have hF : ∀ w' : World, Upd Nil w5 w' → _ ∧ _ := fun w' hw => ⟨box2 (hw.keep hb5 (fun k => k)), box5 (hw.keep hg5 (fun k => k))⟩
        have ha1 := fun w' (hw : Upd Nil w5 w') => run_append_row (ty := 48) (xs := []) (enc := flT) (base := w5.heap.size) Try.underlying48 hi79 hz0 hz1 hz2 rfl (by decide) size79 flT_len flT_one (ownsRow_nil w' w5.heap.size 79 5) rfl (hst.nil hw) (by simp; unfold maxLen; omega) (by simp; omega) hw.size
        have Ha1 := Lib.hid ha1
        clear ha1 hb2 hs2 hu4 hu50 hb4 hs5
        go_wp2_with fail
        refine wp_region_I [0, 1, 2, 3, 4, 5, 6, 8, 11, 12, 13, 14, 15, 16] 7 20 (fun w' => Upd Nil w5 w') (by kernel_rfl) (by kernel_rfl) rfl (Upd.refl _ _).drew ?_
        simp only [pickO, nthO]
        iterate 14
          apply wpTake_plain rfl
          · intro w' hw'
            obtain ⟨⟨r0, r1⟩, g0, g1, g2, g3, g4⟩ := hF w' hw'
            have f3 := ht1 w'
            have f4 := ht2 w'
            go_simp
            first | done | exact rfl | exact ⟨rfl, rfl⟩
          go_frame
        refine wpTake_nil ?_
        refine wpAnyT_two (i := 7) (j := 9) (by kernel_rfl) (by kernel_rfl) (by kernel_rfl) (fun K hK => ?first) (fun K hK => ?second)
        case' first =>
          simp only [nthO]
          refine append_wp_ex rfl rfl rfl (Ha1.out _ (Upd.refl _ _).drew) ?_
          rintro v4 w6 ⟨hown6, hg6⟩
          have hu6 : Upd Nil w5 w6 := (Upd.refl Nil w5).drew.grown hg6 (by intro i hi; simp [Value.ownBlock] at hi)
          refine hK _ _ (.inr hu6) ?_
          clear hK K hg6
          try go_frame
          refine wpAnyT_one (i := 9) (by kernel_rfl) (by kernel_rfl) fun K hK => ?_
          simp only [nthO]
          go_simp
          have hu7 : Upd Nil w5 (w6.alloc (.cells #[.int .u8 n.kind.toNat, .int .u8 n.tx.node.toNat, .int .u32 n.tx.boot.toNat, .int .u32 n.tx.num.toNat, .int .u32 (s.now + after)] 79)) := hu6.alloc _
          have hb7 := hpNew w6 (.cells #[.int .u8 n.kind.toNat, .int .u8 n.tx.node.toNat, .int .u32 n.tx.boot.toNat, .int .u32 n.tx.num.toNat, .int .u32 (s.now + after)] 79)
          have hown7 := ownsRow_upd (S := Nil) hown6 ((Upd.refl Nil w6).alloc (.cells #[.int .u8 n.kind.toNat, .int .u8 n.tx.node.toNat, .int .u32 n.tx.boot.toNat, .int .u32 n.tx.num.toNat, .int .u32 (s.now + after)] 79)) (fun _ _ k => k)
          refine hK _ _ (.inr hu7) ?_
          clear hK K hown6
          try go_frame
          have hg7 : w5.heap.size ≤ w6.heap.size := hu6.size
          clear hu6
          generalize w6.heap.size = g7 at *
          generalize w6.alloc _ = w7 at *
        case' second =>
          simp only [nthO]
          go_simp
          refine hK _ _ (.inr ((Upd.refl _ _).alloc _).drew) ?_
          clear hK K
          try go_frame
          have hb6 := hpNew w5 (.cells #[.int .u8 n.kind.toNat, .int .u8 n.tx.node.toNat, .int .u32 n.tx.boot.toNat, .int .u32 n.tx.num.toNat, .int .u32 (s.now + after)] 79)
          have hg7 : w5.heap.size ≤ w5.heap.size := Nat.le_refl _
          refine wpAnyT_one (i := 7) (by kernel_rfl) (by kernel_rfl) fun K hK => ?_
          simp only [nthO]
          refine append_wp_ex rfl rfl rfl (Ha1.out _ ((Upd.refl _ _).alloc _).drew) ?_
          rintro v4 w7 ⟨hown7, hg6⟩
          have hu67 := Upd.of_grown hg6
          have hb7 := hu67.keep (p := w5.heap.size) hb6 (by intro i; simp [Value.ownBlock] at i)
          have hu7 : Upd Nil w5 w7 := ((Upd.refl Nil w5).alloc _).drew.grown hg6 (by intro i hi; simp [Value.ownBlock] at hi)
          refine hK _ _ (.inr hu7) ?_
          clear hK K hg6 hu67 hb6
          try go_frame
          obtain ⟨g7, hg70⟩ : ∃ g7, g7 = w5.heap.size := ⟨_, rfl⟩
          rw [← hg70] at hb7 ⊢
          have hg7 : w5.heap.size ≤ g7 := Nat.le_of_eq hg70.symm
          clear hg70
        all_goals
          have hone : SliceAt flT 5 w5.heap.size w7 (.slice (some ⟨g7, 0, none⟩) 1 1) [(n, s.now + after)] := sliceAt_one (ty := 79) hb7 flT_len hg7
          clear hb7
          refine wpAnyT_one (i := 10) (by kernel_rfl) (by kernel_rfl) fun K hK => ?_
          simp only [nthO]
          refine append_wp_ex rfl rfl rfl (run_append_row Try.underlying48 hi79 hz0 hz1 hz2 rfl (by decide) size79 flT_len flT_one hown7 rfl hone (by simp; unfold maxLen; omega) (by simp; omega) hu7.size) ?_
          rintro v8 w8 ⟨hown8, hg8⟩
          have hu8 : Upd Nil w5 w8 := hu7.grown hg8 (by intro i hi hlt; have := (ownsRow_block hown7 hi).1; omega)
          refine hK _ _ (.inr hu8) ?_
          clear hK K hg8 hown7 hu7 hone
          try go_frame
          refine wpAnyT_one (i := 17) (by kernel_rfl) (by kernel_rfl) fun K hK => ?_
          simp only [nthO]
          refine append_wp_ex rfl rfl rfl (run_append_row Try.underlying48 hi79 hz0 hz1 hz2 rfl (by decide) size79 flT_len flT_one hown8 rfl (hsd.nil hu8) (by simp; unfold maxLen; omega) (by simp; omega) hu8.size) ?_
          rintro v9 w9 ⟨hown9, hg9⟩
          have hu9 : Upd Nil w5 w9 := hu8.grown hg9 (by intro i hi hlt; have := (ownsRow_block hown8 hi).1; omega)
          refine hK _ _ (.inr hu9) ?_
          clear hK K hg9 hown8 hu8
          try go_frame
          obtain ⟨a9, c9, rfl⟩ := owns_slice hown9
          generalize hn9 : ([] ++ l.take k ++ [(n, s.now + after)] ++ l.drop k).length = n9 at *
          have hs9 := (sliceAt_of_owns hown9 hn9.symm flT_len).base_mono (show R + 1 ≤ w5.heap.size by have := My.heap_lt hb5; omega)
          have hb9 := hu9.keep hb5 (fun k => k)
          have hb10 := My.hpSetSame hb9 1 (.slice a9 n9 c9)
          have hu10 : Upd (· = R) w (w9.setCell ⟨R, 1, none⟩ (.slice a9 n9 c9)) := (hu2.trans ((hu5.trans hu9).mono (T := (· = R)) (fun _ _ k => k.elim))).setCell (p := ⟨R, 1, none⟩) (fun _ => rfl) (.slice a9 n9 c9)
          have hs10 : SliceAt flT 5 (R + 1) (w9.setCell ⟨R, 1, none⟩ (.slice a9 n9 c9)) (.slice a9 n9 c9) (([] ++ l.take k ++ [(n, s.now + after)]) ++ l.drop k) := hs9.upd ((Upd.refl (· = R) w9).setCell (p := ⟨R, 1, none⟩) (fun _ => rfl) (.slice a9 n9 c9)) (fun b hb _ e => by omega)
          have hins : ([] ++ l.take k ++ [(n, s.now + after)]) ++ l.drop k = ins (del s.l n) (n, s.now + after) := by
            rw [Hl.out, ← Ht.out]
            unfold ins
            rw [Hk.out]
            simp
          rw [hins] at hs10
          have hfin : RefIn (w9.setCell ⟨R, 1, none⟩ (.slice a9 n9 c9)) R { now := s.now, l := ins (del s.l n) (n, s.now + after) } := hr2.put hb10 hs10 (by rw [ins_len, Hl.out]; omega) (fun p hp => by
            rcases mem_ins.1 hp with rfl | hp
            · exact hsum
            · exact hr2.times p hp) (nodup_ins hr2.nodup (not_mem_del s.l n))
          have hfz := My.frozen_of_heap hb9 1
          have hc9 := (box2 hb9).2
          have HF := Lib.hid (And.intro hu10 hfin)
          clear hs9 hs10 hb10 hu10 hfin hown9 hb9 hins hn9
          refine wpAnyT_one (i := 18) (by kernel_rfl) (by kernel_rfl) fun K hK => ?_
          simp only [nthO]
          go_simp
          refine hK _ _ (.inr hu9) ?_
          clear hK K
          try go_frame
          refine wpAnyT_one (i := 19) (by kernel_rfl) (by kernel_rfl) fun K hK => ?_
          simp only [nthO]
          go_simp
          refine hK _ _ (.inr hu9) ?_
          clear hK K
          try go_frame
          refine wpAnyT_one (i := 20) (by kernel_rfl) (by kernel_rfl) fun K hK => ?_
          simp only [nthO]
          go_simp
          refine hK _ _ (.inl rfl) ?_
          clear hK K
          try go_frame
          refine wpAnyT_zero (by kernel_rfl) ?_
          simp only [NoPan]
          go_wp2_with fail
          go_ret
          exact ⟨rfl, HF.out⟩
end Go.Proofs.Ytkalckpfepanaaa

/- The reference's clock: Tick. -/
import Derived.Test.YtkalckpfepanaaaRefG
namespace Go.Proofs.Ytkalckpfepanaaa
set_option linter.unusedVariables false
set_option linter.unusedSimpArgs false
set_option linter.unusedSectionVars false
open Go.My Go.RowKit Go.ChangeMaps
set_option maxHeartbeats 1000000
set_option maxRecDepth 100000

def rangL (T : Nat) (l : List (Nm × Nat)) : List (Nm × Nat) := l.takeWhile fun p => p.2 = T
def leftL (T : Nat) (l : List (Nm × Nat)) : List (Nm × Nat) := l.dropWhile fun p => p.2 = T
def Ref.tick (s : Ref) : Ref := { now := s.now + 1, l := leftL (s.now + 1) s.l }
def Ref.rang (s : Ref) : List Nm := (rangL (s.now + 1) s.l).map (·.1)
theorem while_at {T : Nat} : ∀ {l : List (Nm × Nat)} {k : Nat}, k ≤ l.length → (∀ j (h : j < l.length), j < k → l[j].2 = T) → (∀ h : k < l.length, ¬ l[k].2 = T) → rangL T l = l.take k ∧ leftL T l = l.drop k
  | [], k, h, _, _ => by simp [rangL, leftL]
  | p :: l, 0, _, _, h2 => by
    have := h2 (by simp)
    simp at this
    simp [rangL, leftL, this]
  | p :: l, k + 1, hk, h1, h2 => by
    have h0 := h1 0 (by simp) (by omega)
    simp at h0
    have := while_at (T := T) (l := l) (k := k) (by simpa using hk) (fun j h hj => by have := h1 (j + 1) (by simpa using h) (by omega); simpa using this) (fun h => by have := h2 (by simpa using h); simpa using this)
    simpa [rangL, leftL, h0] using this

structure TickR (w : World) (R T : Nat) (l : List (Nm × Nat)) (k : Nat) (out v : Value) (wr : World) : Prop where
  blk : wr.heap[R]? = some (.cells #[.int .u32 T, v] 50)
  sl : SliceAt flT 5 (R + 1) w v (l.drop k)
  upd : Upd (· = R) w wr
  own : wr.ownsRow w.heap.size 27 4 out k (((l.map (·.1)).take k).flatMap flN)
  le : k ≤ l.length
  all : ∀ j (h : j < l.length), j < k → l[j].2 = T

theorem TickR.nil {w : World} {R T : Nat} {l : List (Nm × Nat)} {k : Nat} {out v : Value} {wr w' : World} (h : TickR w R T l k out v wr) (hu : Upd Nil wr w') : TickR w R T l k out v w' :=
  ⟨hu.keep h.blk (fun k => k), h.sl, h.upd.then hu (fun _ k => k.elim), ownsRow_upd h.own hu (fun _ _ k => k), h.le, h.all⟩
theorem TickR.step {w : World} {R T : Nat} {l : List (Nm × Nat)} {k : Nat} {out v out' v' : Value} {wr w2 w' : World} (hR : R < w.heap.size) (h : TickR w R T l k out v wr) (hk : k < l.length) (hT : l[k].2 = T) (hu2 : Upd Nil wr w2) (hg : w2.grownBy w' out.ownBlock)
    {n : Nat} {xs : List Value} (hn : n = k + 1) (hxs : xs = ((l.map (·.1)).take k).flatMap flN ++ flN l[k].1) (hown : w'.ownsRow w.heap.size 27 4 out' n xs) (hs : SliceAt flT 5 (R + 1) w v' ((l.drop k).drop 1)) :
    w'.heap[R]? = some (.cells #[.int .u32 T, v] 50) ∧ TickR w R T l (k + 1) out' v' (w'.setCell ⟨R, 1, none⟩ v') := by
  have hrow : ∀ i, out.ownBlock = some i → w.heap.size ≤ i := fun i hi => (ownsRow_block h.own hi).1
  have hb := (Upd.of_grown hg).keep (hu2.keep h.blk (fun k => k)) (fun e => by have := hrow _ e; omega)
  have hs1 : (l.map (·.1)).take (k + 1) = (l.map (·.1)).take k ++ [l[k].1] := by rw [List.take_succ_eq_append_getElem (by simpa using hk)]; simp
  refine ⟨hb, My.hpSetSame hb 1 v', ?_, ?_, ?_, by omega, ?_⟩
  · rw [List.drop_drop] at hs; exact hs
  · exact ((h.upd.then hu2 (fun _ k => k.elim)).grown hg (fun i hi hlt => by have := hrow i hi; omega)).setCell (p := ⟨R, 1, none⟩) (fun _ => rfl) _
  · subst hn hxs
    rw [hs1, List.flatMap_append]
    have h2 : (([l[k].1] : List Nm).flatMap flN) = flN l[k].1 := by simp
    rw [h2]
    exact ownsRow_upd hown ((Upd.refl (· = R) w').setCell (p := ⟨R, 1, none⟩) (fun _ => rfl) v') (fun b hb e => by omega)
  · intro j hj hjk
    rcases Nat.lt_or_ge j k with h1 | h1
    · exact h.all j hj h1
    · have : j = k := by omega
      subst this; exact hT

theorem tick_ref {w : World} {R : Nat} {s : Ref} (h : RefIn w R s) (hm : s.now < 2147483647) :
    Calls Try.prog 18 #[rptr R] w fun e w' => ∃ v, e = .returned (.tuple #[v, .int .i64 0]) ∧ Upd (· = R) w w' ∧ RefIn w' R s.tick ∧ w'.ownsRow w.heap.size 27 4 v s.rang.length (s.rang.flatMap flN) := by
  obtain ⟨T, hT⟩ : ∃ T, T = s.now + 1 := ⟨_, rfl⟩
  have hTm : T ≤ 2147483647 := by omega
  have hR := h.lt
  obtain ⟨v0, hb0, hs0⟩ := h.out
  obtain ⟨r0, r1⟩ := box2 hb0
  have hf0 := My.frozen_of_heap hb0 0
  have d0 : decide ((s.now : Int) ≥ 2147483647) = false := decide_eq_false (by omega)
  have hw : IntKind.u32.wrap ((s.now : Int) + 1) = (T : Int) := by rw [IntWalk.u32_in _ (by omega)]; omega
  have hst : TickR w R T s.l 0 (.slice none 0 0) v0 (w.setCell ⟨R, 0, none⟩ (.int .u32 T)) :=
    ⟨My.hpSetSame hb0 0 _, by simpa using hs0, (Upd.refl (· = R) w).setCell (p := ⟨R, 0, none⟩) (fun _ => rfl) _, ownsRow_nil _ _ _ _, by omega, fun j _ hj => by omega⟩
  have hfew := h.few
  have hfin : ∀ (k : Nat) out v wr, TickR w R T s.l k out v wr → (∀ h : k < s.l.length, ¬ s.l[k].2 = T) → ∃ u, Ending.returned (.tuple #[out, .int .i64 0]) = .returned (.tuple #[u, .int .i64 0]) ∧ Upd (· = R) w wr ∧ RefIn wr R s.tick ∧ wr.ownsRow w.heap.size 27 4 u s.rang.length (s.rang.flatMap flN) := by
    intro k out v wr hr hk
    obtain ⟨e1, e2⟩ := while_at hr.le hr.all hk
    have hl : (s.l.take k).length = k := by rw [List.length_take]; have := hr.le; omega
    have ht : s.tick = { now := T, l := s.l.drop k } := by unfold Ref.tick; rw [← hT, e2]
    have hg : s.rang = (s.l.map (·.1)).take k := by unfold Ref.rang; rw [← hT, e1, List.map_take]
    refine ⟨out, rfl, hr.upd, ?_, ?_⟩
    · rw [ht]
      refine ⟨⟨v, hr.blk, hr.sl.upd hr.upd (fun b hb _ e => by omega)⟩, by simp; omega, hTm, fun p hp => h.times p (List.mem_of_mem_drop hp), ?_⟩
      exact h.nodup.sublist ((List.drop_sublist _ _).map _)
    · rw [hg, List.length_take, List.length_map, Nat.min_eq_left hr.le]
      exact hr.own
  have Hfin := Lib.hid hfin
  have HT := Lib.hid hT
  clear hfin hT h hs0 hb0
  generalize s.l = l at *
  go_enter Try.func18, Try.ntmps18
  go_wp2_with fail
  clear r0 r1 hf0 d0 hw
  generalize w.setCell ⟨R, 0, none⟩ (.int .u32 T) = w1 at *
  obtain ⟨i27, hi27, hz270, hz271, hz272⟩ := info_parts info27
  go_loopg [4] l.length (fun m out wr => ∃ k v, m = l.length - k ∧ TickR w R T l k out v wr)
  case atStart => exact ⟨0, v0, rfl, hst⟩
  case round =>
    clear hst
    obtain ⟨k, v, hmk, hr⟩ := hrel
    have Hmk := Lib.hid hmk
    clear hmk
    have hb := hr.blk
    have hs1 := hr.sl.upd hr.upd (fun b hb _ e => by omega)
    have hf := fun o => My.frozen_of_heap hb o
    have hF : ∀ w' : World, Upd Nil wr w' → w'.cell? ⟨R, 0, none⟩ = some (.int .u32 T) ∧ w'.cell? ⟨R, 1, none⟩ = some v := fun w' hw => box2 (hw.keep hb (fun k => k))
    have hl := fun rt w' => hs1.len (P := Try.prog) Try.underlying48 rt w'
    have hle := hr.le
    rw [List.length_drop] at hl
    have hlc : ((l.length - k : Nat) : Int) = (l.length : Int) - k := by omega
    rw [hlc] at hl
    clear hlc
    by_cases hkl : k < l.length
    · have hkd : 0 < (l.drop k).length := by rw [List.length_drop]; omega
      obtain ⟨b, o, hbl, hidx, hcell⟩ := hs1.index (P := Try.prog) Try.underlying48 size79 hkd
      have hx0 : (l.drop k)[0] = l[k] := by simp
      rw [hx0] at hcell
      have hcl := Lib.hid fun w' (hw : Upd Nil wr w') j (hj : j < 5) => ((hw.cell (p := ⟨b, o + j, none⟩) hbl (fun k => k)).trans (hcell j hj))
      clear hcell hx0
      have hidx : ∀ w', (Instr.indexAt 48 v (.int .i64 0)).run Try.prog w' = .ok (.pointer (some ⟨b, o, none⟩)) w' := hidx
      have d1 : decide ((l.length : Int) - k > 0) = true := decide_eq_true (by omega)
      obtain ⟨d, hdd⟩ : ∃ d, ((l[k].2 : Int) == (T : Int)) = d := ⟨_, rfl⟩
      go_upto_region 5 with fail
      go_cut [36] (fun x wx => x = .bool d ∧ Upd Nil wr wx)
      case first =>
        refine wp_region_class (fun w' => Upd Nil wr w') (by kernel_rfl) (by kernel_rfl) (Upd.refl _ _).drew ?_
        iterate 7
          apply wpQuiet_plain rfl
          · intro w' hw'
            obtain ⟨f0, f1⟩ := hF w' hw'
            go_simp
            first | done | exact rfl | exact ⟨rfl, rfl⟩
          go_frame
        iterate 12
          apply wpQuiet_want rfl
          · intro w' hw'
            obtain ⟨f0, f1⟩ := hF w' hw'
            have e4 : w'.cell? ⟨b, o + 4, none⟩ = some (.int .u32 l[k].2) := hcl.out w' hw' 4 (by omega)
            have f3 := hidx w'
            go_simp
            first | done | exact rfl | exact ⟨rfl, rfl⟩
          go_frame
        apply wpQuiet_plain rfl
        · intro w' hw'
          go_simp
          first | done | exact rfl | exact ⟨rfl, rfl⟩
        go_frame
        refine wpQuiet_nil ?_
        intro w5 hu5
        go_wp2_with fail
        go_meet
        exact ⟨rfl, hu5⟩
      case rest =>
        obtain ⟨rfl, hu5⟩ := hcut
        generalize wc = w5 at *
        have hr5 := hr.nil hu5
        cases d
        · have Hd := Lib.hid hdd
          clear hdd
          go_wp2_with fail
          go_ret2
          exact Hfin.out k _ v w5 hr5 (fun h e => by have := Hd.out; rw [e] at this; simp at this)
        · have hkT : Hid (l[k].2 = T) := Lib.hid (by have := beq_iff_eq.1 hdd; omega)
          clear hdd
          obtain ⟨r0, r1⟩ := hF w5 hu5
          have c0 : w5.cell? ⟨b, o, none⟩ = some (.int .u8 l[k].1.kind.toNat) := hcl.out w5 hu5 0 (by omega)
          have c1 : w5.cell? ⟨b, o + 1, none⟩ = some (.int .u8 l[k].1.tx.node.toNat) := hcl.out w5 hu5 1 (by omega)
          have c2 : w5.cell? ⟨b, o + 2, none⟩ = some (.int .u32 l[k].1.tx.boot.toNat) := hcl.out w5 hu5 2 (by omega)
          have c3 : w5.cell? ⟨b, o + 3, none⟩ = some (.int .u32 l[k].1.tx.num.toNat) := hcl.out w5 hu5 3 (by omega)
          obtain ⟨v', hsl, hs'⟩ := hr.sl.run_drop (P := Try.prog) Try.underlying48 size79 (n := 1) (by rw [List.length_drop]; omega)
          have hsl : ∀ w', (Instr.slice 48 v (some (.int .i64 1)) none none).run Try.prog w' = .ok v' w' := hsl
          obtain ⟨a', c', rfl, _⟩ := hs'.val
          generalize hn' : ((l.drop k).drop 1).length = n' at *
          have Hn' := Lib.hid hn'
          clear hn'
          have hsz5 := hr5.upd.size
          have hown5 := hr5.own
          clear hl hcl hF hf hb hs1 d1 hkd hbl
          go_wp2_with (at_builtin; refine wpList_append_own _ rfl _ _ 51 rfl w.heap.size 27 i27 _ 4 16 Try.underlying51 hi27 hz270 hz271 hz272 rfl (by decide) _ _ _ rfl (hown5.alloc _) ⟨w5.heap.size, 0, none⟩ 1 1 (flN l[k].1) rfl rfl ?c1 ?c2 ?c3 ?c4 ?c5 ?_)
          case c1 =>
            have hb := hpNew w5 (.cells (flN l[k].1).toArray 27)
            intro j u hj
            rw [addr_add]
            exact (My.cell_of_heap hb j).trans (by simpa using hj)
          case c2 => exact flN_one l[k].1
          case c3 => unfold maxLen; omega
          case c4 => omega
          case c5 => simp; omega
          intro out' w6 hown6 hgrow _
          obtain ⟨hb6, hr6⟩ := hr5.step hR hkl hkT.out ((Upd.refl _ _).alloc _) hgrow rfl rfl hown6 hs'
          obtain ⟨r0', r1'⟩ := box2 hb6
          have hf6 := My.frozen_of_heap hb6 1
          clear hown5 hown6 hgrow c0 c1 c2 c3 hidx r0 r1
          go_wp2_with fail
          go_roundg (l.length - (k + 1))
          case measure => have := Hmk.out; omega
          case rel => exact ⟨k + 1, _, rfl, hr6⟩
    · have d1 : decide (k < l.length) = false := decide_eq_false hkl
      have Hk := Lib.hid hkl
      clear hkl
      go_upto_region 5 with fail
      go_cut [36] (fun x wx => x = .bool false ∧ Upd Nil wr wx)
      case first =>
        refine wp_region_class (fun w' => Upd Nil wr w') (by kernel_rfl) (by kernel_rfl) (Upd.refl _ _).drew ?_
        iterate 6
          apply wpQuiet_plain rfl
          · intro w' hw'
            obtain ⟨f0, f1⟩ := hF w' hw'
            go_simp
            first | done | exact rfl | exact ⟨rfl, rfl⟩
          go_frame
        apply wpQuiet_plain_passes 12 rfl
        · intro w' hw'
          go_simp
          first | done | exact rfl | exact ⟨rfl, rfl⟩
        · kernel_rfl
        simp only [List.drop_succ_cons, List.drop_zero, List.take_succ_cons, List.take_zero, putU]
        go_frame
        apply wpQuiet_plain rfl
        · intro w' hw'
          go_simp
          first | done | exact rfl | exact ⟨rfl, rfl⟩
        go_frame
        refine wpQuiet_nil ?_
        intro w5 hu5
        go_wp2_with fail
        go_meet
        exact ⟨rfl, hu5⟩
      case rest =>
        obtain ⟨rfl, hu5⟩ := hcut
        generalize wc = w5 at *
        have hr5 := hr.nil hu5
        go_wp2_with fail
        go_ret2
        exact Hfin.out k _ v w5 hr5 (fun h => absurd h Hk.out)
end Go.Proofs.Ytkalckpfepanaaa

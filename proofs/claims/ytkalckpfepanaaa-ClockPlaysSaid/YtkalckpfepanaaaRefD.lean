/- The reference's clock: Next. -/
import Derived.Test.YtkalckpfepanaaaRefC
namespace Go.Proofs.Ytkalckpfepanaaa
set_option linter.unusedVariables false
set_option linter.unusedSimpArgs false
set_option linter.unusedSectionVars false
open Go.My Go.RowKit Go.ChangeMaps
set_option maxHeartbeats 400000
set_option maxRecDepth 100000

theorem next_ref {w : World} {R : Nat} {s : Ref} (h : RefIn w R s) :
    Calls Try.prog 25 #[rptr R] w fun e w' => Upd Nil w w' ∧
      ((s.l = [] ∧ e = .returned (.tuple #[.agg #[.int .u8 0, .int .u8 0, .int .u32 0, .int .u32 0], .int .u32 0, .bool false])) ∨
       ∃ p r, s.l = p :: r ∧ e = .returned (.tuple #[encN p.1, .int .u32 p.2, .bool true])) := by
  have hu0 := (Upd.refl Nil w).alloc (.cells #[.int .u8 0, .int .u8 0, .int .u32 0, .int .u32 0] 27)
  have hbr := hpNew w (.cells #[.int .u8 0, .int .u8 0, .int .u32 0, .int .u32 0] 27)
  obtain ⟨v, hb, hs⟩ := h.out
  have hl := fun rt w' => hs.len (P := Try.prog) Try.underlying48 rt w'
  have hlt := h.lt
  clear h
  cases hsl : s.l with
  | nil =>
    rw [hsl] at hl
    simp only [List.length_nil, Int.natCast_zero] at hl
    have r1 := (box2 (hu0.keep hb (fun k => k))).2
    clear hs hb
    go_enter Try.func25, Try.ntmps25
    go_wp2_with fail
    exact bodyPost_ret (v := .tuple #[.agg #[.int .u8 0, .int .u8 0, .int .u32 0, .int .u32 0], .int .u32 0, .bool false]) (by simp [results, Try.results25, go_sem]) rfl ⟨hu0, .inl ⟨trivial, rfl⟩⟩
  | cons p r =>
    rw [hsl] at hl hs
    obtain ⟨b, o, hbl, hidx, hcell⟩ := hs.index (P := Try.prog) Try.underlying48 size79 (k := 0) (by simp)
    simp only [List.getElem_cons_zero] at hcell
    have hidx : ∀ w', (Instr.indexAt 48 v (.int .i64 0)).run Try.prog w' = .ok (.pointer (some ⟨b, o, none⟩)) w' := hidx
    have hd : ((r.length : Int) + 1 == 0) = false := beq_eq_false_iff_ne.2 (by omega)
    simp only [List.length_cons] at hl
    have r1 := (box2 (hu0.keep hb (fun k => k))).2
    have hF : ∀ w' : World, Upd (· = w.heap.size) w w' → w'.cell? ⟨R, 1, none⟩ = some v ∧ w'.cell? ⟨b, o, none⟩ = some (.int .u8 p.1.kind.toNat) ∧ w'.cell? ⟨b, o + 1, none⟩ = some (.int .u8 p.1.tx.node.toNat) ∧
        w'.cell? ⟨b, o + 2, none⟩ = some (.int .u32 p.1.tx.boot.toNat) ∧ w'.cell? ⟨b, o + 3, none⟩ = some (.int .u32 p.1.tx.num.toNat) ∧ w'.cell? ⟨b, o + 4, none⟩ = some (.int .u32 p.2) := fun w' hw =>
      ⟨(hw.cell hlt (by show ¬ R = w.heap.size; omega)).trans (box2 hb).2, (hw.cell hbl (by show ¬ b = w.heap.size; omega)).trans (hcell 0 (by omega)), (hw.cell hbl (by show ¬ b = w.heap.size; omega)).trans (hcell 1 (by omega)),
        (hw.cell hbl (by show ¬ b = w.heap.size; omega)).trans (hcell 2 (by omega)), (hw.cell hbl (by show ¬ b = w.heap.size; omega)).trans (hcell 3 (by omega)), (hw.cell hbl (by show ¬ b = w.heap.size; omega)).trans (hcell 4 (by omega))⟩
    clear hcell hb hs
    go_enter Try.func25, Try.ntmps25
    go_wp2_with fail
    have hu0' : Upd (· = w.heap.size) w (w.alloc (.cells #[.int .u8 0, .int .u8 0, .int .u32 0, .int .u32 0] 27)) := hu0.mono (fun _ _ k => k.elim)
    generalize w.alloc _ = w1 at *
    clear hu0 r1 hl hsl
    refine wp_region_S 14 (fun w' => Upd (· = w.heap.size) w w') (by kernel_rfl) (by kernel_rfl) hu0'.drew ?_
    simp only [List.take_succ_cons, List.take_zero, List.drop_succ_cons, List.drop_zero]
    iterate 14
      apply wpTake_plain rfl
      · intro w' hw'
        obtain ⟨f1, f2, f3, f4, f5, f6⟩ := hF w' hw'
        have f8 := hidx w'
        go_simp
        first | done | exact rfl | exact ⟨rfl, rfl⟩
      go_frame
    refine wpTake_nil ?_
    have hfz := My.frozen_of_heap hbr
    have z0 := hfz 0
    have z1 := hfz 1
    have z2 := hfz 2
    have z3 := hfz 3
    obtain ⟨r0, r1, r2, r3⟩ := box4 hbr
    refine wpListH_plain rfl fun K hK => ?_
    go_simp
    have hb6 := My.hpSetSame (My.hpSetSame (My.hpSetSame (My.hpSetSame hbr 0 (.int .u8 p.1.kind.toNat)) 1 (.int .u8 p.1.tx.node.toNat)) 2 (.int .u32 p.1.tx.boot.toNat)) 3 (.int .u32 p.1.tx.num.toNat)
    have hS6 : Upd (· = w.heap.size) w ((((w1.setCell ⟨w.heap.size, 0, none⟩ (.int .u8 p.1.kind.toNat)).setCell ⟨w.heap.size, 1, none⟩ (.int .u8 p.1.tx.node.toNat)).setCell ⟨w.heap.size, 2, none⟩ (.int .u32 p.1.tx.boot.toNat)).setCell ⟨w.heap.size, 3, none⟩ (.int .u32 p.1.tx.num.toNat)).drew :=
      ((((hu0'.setCell (p := ⟨w.heap.size, 0, none⟩) (fun _ => rfl) (.int .u8 p.1.kind.toNat)).setCell (p := ⟨w.heap.size, 1, none⟩) (fun _ => rfl) (.int .u8 p.1.tx.node.toNat)).setCell (p := ⟨w.heap.size, 2, none⟩) (fun _ => rfl) (.int .u32 p.1.tx.boot.toNat)).setCell (p := ⟨w.heap.size, 3, none⟩) (fun _ => rfl) (.int .u32 p.1.tx.num.toNat)).drew
    have hb6 : ((((w1.setCell ⟨w.heap.size, 0, none⟩ (.int .u8 p.1.kind.toNat)).setCell ⟨w.heap.size, 1, none⟩ (.int .u8 p.1.tx.node.toNat)).setCell ⟨w.heap.size, 2, none⟩ (.int .u32 p.1.tx.boot.toNat)).setCell ⟨w.heap.size, 3, none⟩ (.int .u32 p.1.tx.num.toNat)).drew.heap[w.heap.size]? = some (.cells #[.int .u8 p.1.kind.toNat, .int .u8 p.1.tx.node.toNat, .int .u32 p.1.tx.boot.toNat, .int .u32 p.1.tx.num.toNat] 27) := hb6
    generalize World.drew _ = w6 at *
    clear z0 z1 z2 z3 hfz r0 r1 r2 r3 hF
    refine hK _ _ hS6 ?_
    clear hK K
    try go_frame
    iterate 2
      refine wpListH_plain rfl fun K hK => ?_
      go_simp
      refine hK _ _ hS6 ?_
      clear hK K
      try go_frame
    refine wpListH_nil ?_
    simp only [NoPan]
    obtain ⟨r0, r1, r2, r3⟩ := box4 hb6
    go_wp2_with fail
    have hu6 : Upd Nil w w6 := hS6.mono (fun i hi e => by have e : i = w.heap.size := e; omega)
    exact bodyPost_ret (v := .tuple #[.agg #[.int .u8 p.1.kind.toNat, .int .u8 p.1.tx.node.toNat, .int .u32 p.1.tx.boot.toNat, .int .u32 p.1.tx.num.toNat], .int .u32 p.2, .bool true]) (by simp [results, Try.results25, go_sem, r0, r1, r2, r3]) rfl ⟨hu6, .inr ⟨p, r, rfl, rfl⟩⟩
end Go.Proofs.Ytkalckpfepanaaa

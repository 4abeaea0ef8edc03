/- The clock that nobody made. -/
import Derived.Test.YtkalckpfepanaaaLawApart
namespace Go.Proofs.Ytkalckpfepanaaa
set_option linter.unusedVariables false
set_option linter.unusedSimpArgs false
set_option linter.unusedSectionVars false
open Go.My Go.RowKit Go.ChangeMaps
set_option maxHeartbeats 400000
set_option maxRecDepth 100000

structure Nob (w : World) (p : Value) : Prop where
  out : p = .pointer none ∨ ∃ b, p = .pointer (some ⟨b, 0, none⟩) ∧ w.cell? ⟨b, 1, none⟩ = some (.map none) ∧ b < w.heap.size
theorem Nob.nil {w w' : World} {p : Value} (h : Nob w p) (hu : Upd Nil w w') : Nob w' p := by
  rcases h.out with h | ⟨b, h1, h2, h3⟩
  · exact ⟨.inl h⟩
  · exact ⟨.inr ⟨b, h1, (hu.cell h3 (fun k => k)).trans h2, Nat.lt_of_lt_of_le h3 hu.size⟩⟩

theorem ok_nob {w : World} {p : Value} (h : Nob w p) : Calls Try.prog 26 #[p] w fun e w' => e = .returned (.bool false) ∧ w = w' := by
  rcases h.out with rfl | ⟨b, rfl, h1, _⟩
  · clear h
    go_enter Try.func26, Try.ntmps26
    go_wp2
    exact bodyPost_ret (v := .bool false) (by simp [results, Try.results26, go_sem]) rfl ⟨rfl, rfl⟩
  · clear h
    have q : ∀ (w : World) (r : Option Nat), (binOp .neq 66 (.map r) (.map none)).run Try.prog w = .ok (.bool !r.isNone) w := fun w r => run_neq_map_nil w _ _ _ r Try.underlying66
    go_enter Try.func26, Try.ntmps26
    go_wp2
    go_ret
    exact ⟨rfl, rfl⟩

theorem tick_nob {w : World} {p : Value} (h : Nob w p) : Calls Try.prog 10 #[p] w fun e w' => e = .returned (.tuple #[.slice none 0 0, .int .i64 2]) ∧ w = w' := by
  have hok := ok_nob h
  clear h
  go_enter Try.func10, Try.ntmps10
  go_wp2_with (go_at_call 26; refine hok.mono ?_; rintro e w' ⟨rfl, rfl⟩)
  go_ret2
  exact ⟨rfl, rfl⟩
theorem now_nob {w : World} {p : Value} (h : Nob w p) : Calls Try.prog 15 #[p] w fun e w' => e = .returned (.int .u32 0) ∧ w = w' := by
  have hok := ok_nob h
  clear h
  go_enter Try.func15, Try.ntmps15
  go_wp2_with (go_at_call 26; refine hok.mono ?_; rintro e w' ⟨rfl, rfl⟩)
  go_ret
  exact ⟨rfl, rfl⟩
theorem len_nob {w : World} {p : Value} (h : Nob w p) : Calls Try.prog 13 #[p] w fun e w' => e = .returned (.int .i64 0) ∧ w = w' := by
  have hok := ok_nob h
  clear h
  go_enter Try.func13, Try.ntmps13
  go_wp2_with (go_at_call 26; refine hok.mono ?_; rintro e w' ⟨rfl, rfl⟩)
  go_ret
  exact ⟨rfl, rfl⟩
theorem until_nob {w : World} {p : Value} (h : Nob w p) (n : Nm) : Calls Try.prog 14 #[p, encN n] w fun e w' => e = .returned (.tuple #[.int .u32 0, .bool false]) ∧ Upd Nil w w' := by
  have hok := ok_nob (h.nil ((Upd.refl _ w).alloc (.cells (encN n).cells 38)))
  clear h
  simp only [encN, Value.cells] at *
  go_enter Try.func14, Try.ntmps14
  go_wp2_with (go_at_call 26; refine hok.mono ?_; rintro e w' ⟨rfl, rfl⟩)
  go_ret2
  exact ⟨rfl, (Upd.refl _ _).alloc _⟩
theorem stop_nob {w : World} {p : Value} (h : Nob w p) (n : Nm) : Calls Try.prog 17 #[p, encN n] w fun e w' => e = .returned (.bool false) ∧ Upd Nil w w' := by
  have hu := until_nob (h.nil ((Upd.refl _ w).alloc (.cells (encN n).cells 38))) n
  clear h
  simp only [encN, Value.cells] at *
  go_enter Try.func17, Try.ntmps17
  go_wp2_with fail
  refine hu.mono ?_
  rintro e w' ⟨rfl, hu1⟩
  have hu2 : Upd Nil w w' := ((Upd.refl _ w).alloc _).trans hu1
  clear hu
  go_wp2_with fail
  go_ret
  exact ⟨rfl, hu2⟩
theorem set_nob {w : World} {p : Value} (h : Nob w p) (n : Nm) (a : Nat) : Calls Try.prog 11 #[p, encN n, .int .u32 a] w fun e w' => e = .returned (.int .i64 2) ∧ Upd Nil w w' := by
  have h1 := h.nil ((Upd.refl _ w).alloc (.cells (encN n).cells 38))
  have hu := until_nob h1 n
  have hok := fun w' (hu : Upd Nil _ w') => ok_nob (h1.nil hu)
  clear h h1
  simp only [encN, Value.cells] at *
  go_enter Try.func11, Try.ntmps11
  go_wp2_with fail
  refine hu.mono ?_
  rintro e w' ⟨rfl, hu1⟩
  have hok := hok _ hu1
  have hu2 : Upd Nil w w' := ((Upd.refl _ w).alloc _).trans hu1
  clear hu
  go_wp2_with fail
  refine hok.mono ?_
  rintro e w3 ⟨rfl, rfl⟩
  clear hok
  go_wp2_with fail
  go_ret
  exact ⟨rfl, hu2⟩
theorem next_nob {w : World} {p : Value} (h : Nob w p) : Calls Try.prog 24 #[p] w fun e w' => e = .returned (.tuple #[.agg #[.int .u8 0, .int .u8 0, .int .u32 0, .int .u32 0], .int .u32 0, .bool false]) ∧ Upd Nil w w' := by
  obtain ⟨q, rfl⟩ : ∃ q, p = .pointer q := by
    rcases h.out with h | ⟨b, h, _⟩
    · exact ⟨_, h⟩
    · exact ⟨_, h⟩
  have hlen := fun w' (hu : Upd Nil w w') => len_nob (h.nil hu)
  clear h
  go_enter Try.func24, Try.ntmps24
  go_wp2_with fail
  refine (hlen _ (((Upd.refl _ w).alloc _).alloc _)).mono ?_
  rintro e w3 ⟨rfl, rfl⟩
  clear hlen
  go_wp2_with fail
  exact bodyPost_ret (v := .tuple #[.agg #[.int .u8 0, .int .u8 0, .int .u32 0, .int .u32 0], .int .u32 0, .bool false]) (by simp [results, Try.results24, go_sem]) rfl ⟨rfl, ((Upd.refl _ w).alloc _).alloc _⟩
end Go.Proofs.Ytkalckpfepanaaa

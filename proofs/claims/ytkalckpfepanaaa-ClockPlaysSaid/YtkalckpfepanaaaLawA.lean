/- The laws' helpers: theirs, alive. -/
import Derived.Test.YtkalckpfepanaaaClkC
import Derived.Test.YtkalckpfepanaaaTickA
namespace Go.Proofs.Ytkalckpfepanaaa
set_option linter.unusedVariables false
set_option linter.unusedSimpArgs false
set_option linter.unusedSectionVars false
open Go.My Go.RowKit Go.ChangeMaps
set_option maxHeartbeats 400000
set_option maxRecDepth 100000

theorem theirs_n (n : Nm) (w : World) : Calls Try.prog 12 #[encN n] w fun e w' => e = .returned (encN n) ∧ Upd Nil w w' := by
  simp only [encN]
  go_enter Try.func12, Try.ntmps12
  go_wp2_with fail
  exact bodyPost_ret (v := .agg #[.int .u8 n.kind.toNat, .int .u8 n.tx.node.toNat, .int .u32 n.tx.boot.toNat, .int .u32 n.tx.num.toNat]) (by simp [results, Try.results12, go_sem]) rfl ⟨rfl, ((Upd.refl _ _).alloc _).alloc _⟩

def n1 : Nm := ⟨1, ⟨0, 0, 0⟩⟩
theorem enc_n1 : encN n1 = .agg #[.int .u8 1, .int .u8 0, .int .u32 0, .int .u32 0] := rfl
theorem st1 : Clk.set ⟨0, []⟩ n1 2 = ⟨0, [(n1, 2)]⟩ := rfl
theorem st2 : Clk.tick ⟨0, [(n1, 2)]⟩ = ⟨1, [(n1, 2)]⟩ := rfl
theorem st3 : Clk.tick ⟨1, [(n1, 2)]⟩ = ⟨2, []⟩ := rfl
theorem rg2 : Clk.rung ⟨0, [(n1, 2)]⟩ = [] := by simp [Clk.rung, Due, sortNm]
theorem rg3 : Clk.rung ⟨1, [(n1, 2)]⟩ = [n1] := by simp [Clk.rung, Due, sortNm]

theorem alive_true (w : World) : Calls Try.prog 16 #[] w fun e w' => e = .returned (.bool true) ∧ Upd Nil w w' := by
  go_enter Try.func16, Try.ntmps16
  go_wp2_with fail
  refine new_clk.mono ?_
  rintro e w1 ⟨L, rfl, hu1, hc1, hf1⟩
  go_wp2_with fail
  have hs := set_clk hc1 n1 2 (by omega)
  rw [st1, enc_n1] at hs
  refine hs.mono ?_
  rintro e w2 ⟨rfl, hu2, hc2⟩
  have hu2 := hu1.then hu2 (fun i hi hlt => by have := hf1 i hi; omega)
  clear hs hc1 hu1
  have he : Clk.setE ⟨0, []⟩ n1 2 = 0 := rfl
  simp only [he]
  go_wp2_with (go_at_call 13; refine (len_clk hc2).mono ?_; rintro e w2 ⟨rfl, rfl⟩)
  have ht := tick_clk hc2 (show (0 : Nat) < 2147483647 by omega)
  rw [st2, rg2] at ht
  refine ht.mono ?_
  rintro e w3 ⟨v1, rfl, hu3, hc3, ho3⟩
  have hu3 := hu2.then hu3 (fun i hi hlt => by have := hf1 i hi; omega)
  clear ht hc2 hu2
  go_wp2_with fail
  have ht := tick_clk hc3 (show (1 : Nat) < 2147483647 by omega)
  rw [st3, rg3] at ht
  refine ht.mono ?_
  rintro e w4 ⟨v2, rfl, hu4, hc4, ho4⟩
  have hu4 := hu3.then hu4 (fun i hi hlt => by have := hf1 i hi; omega)
  clear ht hc3 hu3
  have hl1 := fun rt w' => row_len ho3 Try.underlying33 rt w'
  have hl2 := fun rt w' => row_len ho4 Try.underlying33 rt w'
  obtain ⟨g, hg, hglt, hia, c0, c1, c2, c3⟩ := row_name ho4 (k := 0) (by simp)
  have c0 : w4.cell? ⟨g, 0, none⟩ = some (.int .u8 1) := c0
  have hia : ∀ w', (Instr.indexAt 33 v2 (.int .i64 0)).run Try.prog w' = .ok (.pointer (some ⟨g, 0, none⟩)) w' := hia
  have hn := now_clk hc4
  have hl := len_clk hc4
  simp only [encU, List.length_nil, List.length_singleton, Int.natCast_zero] at hl1 hl2 hn hl
  clear ho3 ho4 c1 c2 c3
  go_wp2_with (first | (go_at_call 15; refine hn.mono ?_; rintro e w5 ⟨rfl, rfl⟩) | (go_at_call 13; refine hl.mono ?_; rintro e w5 ⟨rfl, rfl⟩))
  go_ret
  exact ⟨rfl, hu4⟩
end Go.Proofs.Ytkalckpfepanaaa

/- The laws' short; the slices of their arguments. -/
import Derived.Test.YtkalckpfepanaaaLawApart
import Derived.Test.YtkalckpfepanaaaSliceAt
namespace Go.Proofs.Ytkalckpfepanaaa
set_option linter.unusedVariables false
set_option linter.unusedSimpArgs false
set_option linter.unusedSectionVars false
open Go.My Go.RowKit Go.ChangeMaps
set_option maxHeartbeats 400000
set_option maxRecDepth 100000

structure Ac where
  k : UInt8
  m : Nm
  after : UInt32
def flA (a : Ac) : List Value := .int .u8 a.k.toNat :: flN a.m ++ [.int .u32 a.after.toNat]
abbrev Acts (w : World) (v : Value) (xs : List Ac) : Prop := SliceAt flA 6 0 w v xs
theorem i22 (w : World) : (Go.sizeOf 32).run Try.prog w = .ok 6 w := by kernel_rfl

theorem short_v {w : World} {v : Value} {xs : List Ac} (h : Acts w v xs) : Calls Try.prog 9 #[v] w fun e w' => w = w' ∧ ∃ v', e = .returned v' ∧ ∀ w2, Acts w2 v xs → Acts w2 v' (xs.take 150) := by
  obtain ⟨a, cap, rfl, hcap, hmax, hnil⟩ := h.val
  have hl := fun rt w' => h.len (P := Try.prog) Try.underlying22 rt w'
  have hmin : (Builtin.min_ #[3, 3] 3 #[.int .i64 xs.length, .int .i64 150]).run Try.prog w = .ok (.int .i64 (min xs.length 150 : Nat)) w := by
    by_cases hk : xs.length ≤ 150
    · have : ((xs.length : Int) ≤ 150) := by omega
      simp [go_sem, Nat.min_eq_left hk]
      omega
    · simp [go_sem, Nat.min_eq_right (show 150 ≤ xs.length by omega)]
      omega
  have ht := fun w2 (h : Acts w2 (.slice a xs.length cap) xs) => h.take (n := min xs.length 150) (Nat.min_le_left _ _)
  clear h
  go_enter Try.func9, Try.ntmps9
  go_wp2_with fail
  have he := List.take_eq_take_min (i := 150) (l := xs)
  rw [Nat.min_comm] at he
  rw [← he] at ht
  have ht := Lib.hid ht
  go_ret
  exact ⟨rfl, _, rfl, ht.out⟩
end Go.Proofs.Ytkalckpfepanaaa

/- Equality of names. -/
import Derived.Test.YtkalckpfepanaaaVals
namespace Go.Proofs.Ytkalckpfepanaaa
set_option linter.unusedVariables false
set_option linter.unusedSimpArgs false
set_option linter.unusedSectionVars false
open Go.My Go.RowKit Go.ChangeMaps

theorem nm_eq_iff (a b : Nm) : a = b ↔ a.kind.toNat = b.kind.toNat ∧ a.tx.node.toNat = b.tx.node.toNat ∧ a.tx.boot.toNat = b.tx.boot.toNat ∧ a.tx.num.toNat = b.tx.num.toNat := by
  constructor
  · rintro rfl; exact ⟨rfl, rfl, rfl, rfl⟩
  · rintro ⟨h0, h1, h2, h3⟩
    obtain ⟨ak, ⟨an, ab, au⟩⟩ := a
    obtain ⟨bk, ⟨bn, bb, bu⟩⟩ := b
    simp only at h0 h1 h2 h3
    rw [UInt8.toNat_inj] at h0 h1
    rw [UInt32.toNat_inj] at h2 h3
    subst h0 h1 h2 h3
    rfl
theorem ite4 {α : Type} {p q r s : Prop} [Decidable p] [Decidable q] [Decidable r] [Decidable s] (x y : α) : (if p then if q then if r then if s then x else y else y else y else y) = if p ∧ q ∧ r ∧ s then x else y := by
  by_cases p <;> by_cases q <;> by_cases r <;> by_cases s <;> simp [*]
theorem eql27 (a b : Nm) (w : World) : (binOp .eql 27 (encN a) (encN b)).run Try.prog w = .ok (.bool (decide (a = b))) w := by
  simp only [nm_eq_iff a b]
  simp [go_sem, encN]
  rw [ite4]
  split <;> simp <;> omega
theorem neq27 (a b : Nm) (w : World) : (binOp .neq 27 (encN a) (encN b)).run Try.prog w = .ok (.bool (!decide (a = b))) w := by
  simp only [nm_eq_iff a b]
  simp [go_sem, encN]
  rw [ite4]
  split <;> simp <;> omega
theorem eql38 (a b : Nm) (w : World) : (binOp .eql 38 (encN a) (encN b)).run Try.prog w = .ok (.bool (decide (a = b))) w := by
  simp only [nm_eq_iff a b]
  simp [go_sem, encN]
  rw [ite4]
  split <;> simp <;> omega
theorem neq38 (a b : Nm) (w : World) : (binOp .neq 38 (encN a) (encN b)).run Try.prog w = .ok (.bool (!decide (a = b))) w := by
  simp only [nm_eq_iff a b]
  simp [go_sem, encN]
  rw [ite4]
  split <;> simp <;> omega
end Go.Proofs.Ytkalckpfepanaaa

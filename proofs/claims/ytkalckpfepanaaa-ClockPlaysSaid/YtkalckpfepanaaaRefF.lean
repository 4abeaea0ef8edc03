/- The reference's order: ahead. -/
import Derived.Test.YtkalckpfepanaaaRefE
namespace Go.Proofs.Ytkalckpfepanaaa
set_option linter.unusedVariables false
set_option linter.unusedSimpArgs false
set_option linter.unusedSectionVars false
open Go.My Go.RowKit Go.ChangeMaps
set_option maxHeartbeats 400000
set_option maxRecDepth 100000

def encTm (p : Nm × Nat) : Value := .agg #[.int .u8 p.1.kind.toNat, .int .u8 p.1.tx.node.toNat, .int .u32 p.1.tx.boot.toNat, .int .u32 p.1.tx.num.toNat, .int .u32 p.2]
def aheadP (p q : Nm × Nat) : Prop := p.2 < q.2 ∨ (p.2 = q.2 ∧ p.1.lt q.1)
instance (p q : Nm × Nat) : Decidable (aheadP p q) := by unfold aheadP Nm.lt; exact inferInstance
theorem first_neg (a b : Tx) : a.first b < 0 ↔ (a.node.toNat < b.node.toNat ∨ (a.node.toNat = b.node.toNat ∧ (a.boot.toNat < b.boot.toNat ∨ (a.boot.toNat = b.boot.toNat ∧ a.num.toNat < b.num.toNat)))) := by
  unfold Tx.first firstL firstL firstL firstL
  split
  · simp; omega
  · split
    · simp; omega
    · split
      · simp; omega
      · split
        · simp; omega
        · split
          · simp; omega
          · split
            · simp; omega
            · simp; omega

theorem ahead_ref (p q : Nm × Nat) (w : World) : Calls Try.prog 32 #[encTm p, encTm q] w fun e w' => e = .returned (.bool (decide (aheadP p q))) ∧ Upd Nil w w' := by
  have ht := fun w' => txs_ref p.1.tx q.1.tx w'
  have hk1 : p.1.kind.toNat < 256 := p.1.kind.toNat_lt
  have hk2 : q.1.kind.toNat < 256 := q.1.kind.toNat_lt
  simp only [encTm, encT] at *
  by_cases h1 : p.2 = q.2
  · by_cases h2 : p.1.kind.toNat = q.1.kind.toNat
    · have he : decide (aheadP p q) = decide (p.1.tx.first q.1.tx < 0) := by
        rw [decide_eq_decide, first_neg]
        unfold aheadP Nm.lt
        omega
      rw [he]
      generalize p.1.tx.first q.1.tx = c at *
      have d1 : ((p.2 : Int) != (q.2 : Int)) = false := by simp [h1]
      have d2 : ((p.1.kind.toNat : Int) != (q.1.kind.toNat : Int)) = false := by simp [h2]
      have H := Lib.hid (And.intro h1 h2)
      clear h1 h2 he
      go_enter Try.func32, Try.ntmps32
      go_wp2_with fail
      refine (ht _).mono ?_
      rintro e w1 ⟨rfl, hu⟩
      have hu := (((Upd.refl Nil w).alloc _).alloc _).trans hu
      clear ht
      go_wp2_with fail
      go_ret
      exact ⟨rfl, hu⟩
    · have he : decide (aheadP p q) = decide (p.1.kind.toNat < q.1.kind.toNat) := by
        rw [decide_eq_decide]
        unfold aheadP Nm.lt
        omega
      rw [he]
      have d1 : ((p.2 : Int) != (q.2 : Int)) = false := by simp [h1]
      have d2 : ((p.1.kind.toNat : Int) != (q.1.kind.toNat : Int)) = true := by simp; omega
      have H := Lib.hid (And.intro h1 h2)
      clear h1 h2 he ht
      go_enter Try.func32, Try.ntmps32
      go_wp2_with fail
      go_ret
      exact ⟨rfl, ((Upd.refl Nil w).alloc _).alloc _⟩
  · have he : decide (aheadP p q) = decide (p.2 < q.2) := by
      rw [decide_eq_decide]
      unfold aheadP
      omega
    rw [he]
    have d1 : ((p.2 : Int) != (q.2 : Int)) = true := by simp; omega
    have H := Lib.hid h1
    clear h1 he ht
    go_enter Try.func32, Try.ntmps32
    go_wp2_with fail
    go_ret
    exact ⟨rfl, ((Upd.refl Nil w).alloc _).alloc _⟩
end Go.Proofs.Ytkalckpfepanaaa

/- The reference's clock in memory; place, Until, Next. -/
import Derived.Test.YtkalckpfepanaaaNextLaw
import Derived.Test.YtkalckpfepanaaaRowOps
import Derived.Test.YtkalckpfepanaaaRegI
namespace Go.Proofs.Ytkalckpfepanaaa
set_option linter.unusedVariables false
set_option linter.unusedSimpArgs false
set_option linter.unusedSectionVars false
open Go.My Go.RowKit Go.ChangeMaps
set_option maxHeartbeats 400000
set_option maxRecDepth 100000

structure Ref where
  now : Nat
  l : List (Nm × Nat)
def flT (p : Nm × Nat) : List Value := flN p.1 ++ [.int .u32 p.2]
theorem flT_len (p : Nm × Nat) : (flT p).length = 5 := rfl
theorem flT_one (p : Nm × Nat) : ∀ v ∈ flT p, v.oneCell' = true := by
  intro v hv
  simp [flT, flN] at hv
  rcases hv with rfl | rfl | rfl | rfl | rfl <;> rfl
theorem size79 (w : World) : (Go.sizeOf 79).run Try.prog w = .ok 5 w := by kernel_rfl
theorem size27 (w : World) : (Go.sizeOf 27).run Try.prog w = .ok 4 w := by kernel_rfl
theorem info79 : (Try.prog.info? 79).map (fun i => (i.zero, i.size, i.bytes)) = some (some (.agg #[.int .u8 0, .int .u8 0, .int .u32 0, .int .u32 0, .int .u32 0]), 5, 20) := by kernel_rfl
theorem info27 : (Try.prog.info? 27).map (fun i => (i.zero, i.size, i.bytes)) = some (some (.agg #[.int .u8 0, .int .u8 0, .int .u32 0, .int .u32 0]), 4, 16) := by kernel_rfl

structure RefIn (w : World) (R : Nat) (s : Ref) : Prop where
  out : ∃ v, w.heap[R]? = some (.cells #[.int .u32 s.now, v] 50) ∧ SliceAt flT 5 (R + 1) w v s.l
  few : s.l.length ≤ 1024
  now : s.now ≤ 2147483647
  times : ∀ p ∈ s.l, p.2 ≤ 2147483647
  nodup : (s.l.map (·.1)).Nodup
abbrev rptr (R : Nat) : Value := .pointer (some ⟨R, 0, none⟩)

section
variable {w w' : World} {R : Nat} {s : Ref}
theorem RefIn.lt (h : RefIn w R s) : R < w.heap.size := by obtain ⟨v, h1, _⟩ := h.out; exact My.heap_lt h1
theorem RefIn.upd {S : Nat → Prop} (h : RefIn w R s) (hu : Upd S w w') (hs : ∀ b, R ≤ b → ¬ S b) : RefIn w' R s := by
  obtain ⟨v, h1, h2⟩ := h.out
  exact ⟨⟨v, hu.keep h1 (hs R (Nat.le_refl _)), h2.upd hu (fun b hb _ => hs b (by omega))⟩, h.few, h.now, h.times, h.nodup⟩
theorem RefIn.nil (h : RefIn w R s) (hu : Upd Nil w w') : RefIn w' R s := h.upd hu (fun _ _ k => k)
end

/-- where a name stands -/
def placeOf (l : List (Nm × Nat)) (n : Nm) : Nat := l.findIdx fun p => p.1 = n

def placeR (l : List (Nm × Nat)) (n : Nm) : Int := if placeOf l n < l.length then (placeOf l n : Int) else -1
theorem placeR_at {l : List (Nm × Nat)} {n : Nm} {k : Nat} (hk : k < l.length) (h : l[k].1 = n) (hno : ∀ j (hj : j < k) (hjl : j < l.length), l[j].1 ≠ n) : placeR l n = k := by
  have : placeOf l n = k := by
    unfold placeOf
    rw [List.findIdx_eq hk]
    exact ⟨by simp [h], fun j hj => by simp [hno j hj (by omega)]⟩
  unfold placeR
  rw [this, if_pos hk]
theorem placeR_none {l : List (Nm × Nat)} {n : Nm} (hno : ∀ j (hjl : j < l.length), l[j].1 ≠ n) : placeR l n = -1 := by
  have : ¬ placeOf l n < l.length := by
    intro h
    have h2 := List.findIdx_getElem (w := h)
    exact hno _ h (by unfold placeOf; simpa using h2)
  unfold placeR
  rw [if_neg this]

theorem place_ref {w : World} {R : Nat} {s : Ref} (h : RefIn w R s) (n : Nm) :
    Calls Try.prog 31 #[rptr R, encN n] w fun e w' => e = .returned (.int .i64 (placeR s.l n)) ∧ Upd Nil w w' := by
  have h0 := h.nil ((Upd.refl Nil w).alloc (.cells (encN n).cells 27))
  have hb := hpNew w (.cells (encN n).cells 27)
  have hu := (Upd.refl Nil w).alloc (.cells (encN n).cells 27)
  clear h
  simp only [encN, Value.cells] at *
  go_enter Try.func31, Try.ntmps31
  go_wp2_with fail
  generalize w.alloc _ = w1 at *
  obtain ⟨v, h1, h2⟩ := h0.out
  have hfew := h0.few
  obtain ⟨a0, a1, a2, a3⟩ := box4 hb
  obtain ⟨r0, r1⟩ := box2 h1
  have hl := fun rt w' => h2.len (P := Try.prog) Try.underlying48 rt w'
  clear h0
  go_loopw [5] (fun i wr => ∃ k m : Nat, k ≤ s.l.length ∧ i = .int .i64 k ∧ wr = w1.drewN m ∧ ∀ j (hj : j < k) (hjl : j < s.l.length), s.l[j].1 ≠ n) (fun i _ => s.l.length - (intOf i).toNat)
  case atStart => exact ⟨0, 0, by omega, rfl, rfl, fun j hj => by omega⟩
  case round =>
    obtain ⟨k, m, hk, rfl, rfl, hno⟩ := hrel
    by_cases hkl : k < s.l.length
    · obtain ⟨b, o, hb, hidx, hcell⟩ := h2.index (P := Try.prog) Try.underlying48 size79 hkl
      have c0 : w1.cell? ⟨b, o, none⟩ = some (.int .u8 s.l[k].1.kind.toNat) := hcell 0 (by omega)
      have c1 : w1.cell? ⟨b, o + 1, none⟩ = some (.int .u8 s.l[k].1.tx.node.toNat) := hcell 1 (by omega)
      have c2 : w1.cell? ⟨b, o + 2, none⟩ = some (.int .u32 s.l[k].1.tx.boot.toNat) := hcell 2 (by omega)
      have c3 : w1.cell? ⟨b, o + 3, none⟩ = some (.int .u32 s.l[k].1.tx.num.toNat) := hcell 3 (by omega)
      have heq := fun w' => eql27 s.l[k].1 n w'
      simp only [encN] at heq
      have hno := Lib.hid hno
      clear hcell
      obtain ⟨x, hx⟩ : ∃ x, s.l[k].1 = x := ⟨_, rfl⟩
      rw [hx] at c0 c1 c2 c3 heq
      by_cases hxn : x = n
      · have hdt : decide (x = n) = true := by simp [hxn]
        simp only [hdt] at heq
        have H := Lib.hid (And.intro hx hxn)
        clear hx hxn hdt
        go_wp2_with fail
        go_quiet (fail)
        go_wp2_with fail
        go_ret
        exact ⟨by rw [placeR_at hkl (H.out.1.trans H.out.2) hno.out]; rfl, by first | exact hu.drewN _ | exact (hu.drewN _).drewN _⟩
      · have hdt : decide (x = n) = false := by simp [hxn]
        simp only [hdt] at heq
        have H := Lib.hid (And.intro hx hxn)
        clear hx hxn hdt
        go_wp2_with fail
        go_quiet (fail)
        go_wp2_with fail
        go_roundw
        case rel =>
          refine ⟨k + 1, _, by omega, by go_num, rfl, fun j hj hjl => ?_⟩
          by_cases hjk : j = k
          · subst hjk; rw [H.out.1]; exact H.out.2
          · exact hno.out j (by omega) hjl
        case measure => simp [intOf]; omega
    · have H := Lib.hid (And.intro hkl hno)
      clear hno
      go_wp2_with fail
      go_ret
      exact ⟨by rw [placeR_none (fun j hjl => H.out.2 j (by have := H.out.1; omega) hjl)]; rfl, by first | exact hu.drewN _ | exact (hu.drewN _).drewN _⟩
end Go.Proofs.Ytkalckpfepanaaa

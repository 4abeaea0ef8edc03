/- How slices of acts, and small numbers, read. -/
import Derived.Test.YtkalckpfepanaaaRead
import Derived.Test.YtkalckpfepanaaaShort
namespace Go.Proofs.Ytkalckpfepanaaa
set_option linter.unusedVariables false
set_option linter.unusedSimpArgs false
set_option linter.unusedSectionVars false
open Go.My Go.RowKit Go.ChangeMaps Go.ChangeShapes Go.WideShapes
set_option maxRecDepth 100000
theorem u16_of {n : Int} (h : (Lit.int .u16 n).wf = true) : ∃ u : UInt16, n = u.toNat := by
  simp [Lit.wf, IntKind.min, IntKind.max, IntKind.signed, IntKind.bits] at h
  refine ⟨UInt16.ofNat n.toNat, ?_⟩
  rw [UInt16.toNat_ofNat_of_lt' (by simp [UInt16.size]; omega)]
  omega
section
variable {H : Type} {enc : TypeId × Value → H} {w : World} {base : Nat}
theorem val5 {v : Value} {d : DataW H} {p : List MemPlace} (hv : Value.okWide Try.prog w .any base 5 v) (h : DataW.Trod enc Try.prog w 0 (fun _ => true) true 5 v d p) : ∃ u : UInt8, v = .int .u8 u.toNat := by
  obtain ⟨n, rfl⟩ := okWide_int Try.underlying5 hv
  obtain ⟨fuel, hf⟩ := h
  obtain ⟨u, hu⟩ := read5 hf
  exact ⟨u, by simpa [Value.cells] using hu⟩
theorem val64 {v : Value} {d : DataW H} {p : List MemPlace} (hv : Value.okWide Try.prog w .any base 64 v) (h : DataW.Trod enc Try.prog w 0 (fun _ => true) true 64 v d p) : ∃ u : UInt16, v = .int .u16 u.toNat := by
  obtain ⟨n, rfl⟩ := okWide_int Try.underlying64 hv
  obtain ⟨fuel, hf⟩ := h
  obtain ⟨m, hm, _, hw⟩ := DataW.trod_int Try.underlying64 hf
  simp [Value.cells] at hm
  subst hm
  obtain ⟨u, hu⟩ := u16_of hw
  exact ⟨u, by rw [hu]⟩
theorem val22 {v : Value} {d : DataW H} {p : List MemPlace} (hv : Value.okWide Try.prog w .any 0 22 v) (h : DataW.Trod enc Try.prog w 0 (fun _ => true) true 22 v d p) : ∃ xs : List Ac, Acts w v xs := by
  refine sliceAt_of_trod Try.underlying22 cells32 (by omega) flA (fun fuel cs x hx => ?_) hv h
  obtain ⟨k, m, a, hk⟩ := read32 hx
  exact ⟨⟨k, m, a⟩, hk⟩
end
end Go.Proofs.Ytkalckpfepanaaa

/- How slices of acts, and small numbers, read. -/
import Derived.Test.YtkalckpfepanaaaRead
import Derived.Test.YtkalckpfepanaaaShort
namespace Go.Proofs.Ytkalckpfepanaaa
set_option linter.unusedVariables false
set_option linter.unusedSimpArgs false
set_option linter.unusedSectionVars false
open Go.My Go.RowKit Go.ChangeMaps Go.ChangeShapes Go.WideShapes
set_option maxRecDepth 100000
section
variable {H : Type} {enc : TypeId × Value → H} {w : World} {base : Nat}
theorem val5 {v : Value} {d : DataW H} {p : List MemPlace} (hv : Value.okWide Try.prog w .any base 5 v) (h : DataW.Trod enc Try.prog w 0 (fun _ => true) true 5 v d p) : ∃ u : UInt8, v = .int .u8 u.toNat := by
  obtain ⟨n, rfl⟩ := okWide_int Try.underlying5 hv
  obtain ⟨fuel, hf⟩ := h
  obtain ⟨u, hu⟩ := read5 hf
  exact ⟨u, by simpa [Value.cells] using hu⟩
theorem val22 {v : Value} {d : DataW H} {p : List MemPlace} (hv : Value.okWide Try.prog w .any 0 22 v) (h : DataW.Trod enc Try.prog w 0 (fun _ => true) true 22 v d p) : ∃ xs : List Ac, Acts w v xs := by
  refine sliceAt_of_trod Try.underlying22 cells32 (by omega) flA (fun fuel cs x hx => ?_) hv h
  obtain ⟨k, m, a, hk⟩ := read32 hx
  exact ⟨⟨k, m, a⟩, hk⟩
end
end Go.Proofs.Ytkalckpfepanaaa

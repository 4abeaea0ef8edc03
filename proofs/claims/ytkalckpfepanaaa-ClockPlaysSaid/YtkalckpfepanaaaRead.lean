/- How the arguments read. -/
import Derived.Test.YtkalckpfepanaaaLawApart
import Derived.Test.YtkalckpfepanaaaLaw
namespace Go.Proofs.Ytkalckpfepanaaa
set_option linter.unusedVariables false
set_option linter.unusedSimpArgs false
set_option linter.unusedSectionVars false
open Go.My Go.RowKit Go.ChangeMaps Go.ChangeShapes Go.WideShapes

set_option maxRecDepth 100000
theorem u8_of {n : Int} (h : (Lit.int .u8 n).wf = true) : ∃ u : UInt8, n = u.toNat := by
  simp [Lit.wf, IntKind.min, IntKind.max, IntKind.signed, IntKind.bits] at h
  refine ⟨UInt8.ofNat n.toNat, ?_⟩
  rw [UInt8.toNat_ofNat_of_lt' (by simp [UInt8.size]; omega)]
  omega
theorem u32_of {n : Int} (h : (Lit.int .u32 n).wf = true) : ∃ u : UInt32, n = u.toNat := by
  simp [Lit.wf, IntKind.min, IntKind.max, IntKind.signed, IntKind.bits] at h
  refine ⟨UInt32.ofNat n.toNat, ?_⟩
  rw [UInt32.toNat_ofNat_of_lt' (by simp [UInt32.size]; omega)]
  omega
theorem cells27 : Try.prog.cellsOf 27 = 4 := by kernel_rfl
theorem cells32 : Try.prog.cellsOf 32 = 6 := by kernel_rfl

section
variable {H : Type} {enc : TypeId × Value → H} {w : World} {base : Nat} {spare : Nat → Bool} {held : Bool} {fuel : Nat} {cs : List Value} {x : DataW H × List MemPlace}
theorem read5 (h : DataW.trod enc Try.prog w base spare held fuel 5 cs = some x) : ∃ u : UInt8, cs = [.int .u8 u.toNat] := by
  obtain ⟨n, rfl, _, hw⟩ := DataW.trod_int Try.underlying5 h
  obtain ⟨u, rfl⟩ := u8_of hw
  exact ⟨u, rfl⟩
theorem read23 (h : DataW.trod enc Try.prog w base spare held fuel 23 cs = some x) : ∃ u : UInt32, cs = [.int .u32 u.toNat] := by
  obtain ⟨n, rfl, _, hw⟩ := DataW.trod_int Try.underlying23 h
  obtain ⟨u, rfl⟩ := u32_of hw
  exact ⟨u, rfl⟩
theorem read25 (h : DataW.trod enc Try.prog w base spare held fuel 25 cs = some x) : ∃ t : Tx, cs = [.int .u8 t.node.toNat, .int .u32 t.boot.toNat, .int .u32 t.num.toNat] := by
  obtain ⟨ys, n, _, _, hlen, hyl, hf⟩ := DataW.trod_struct Try.underlying25 h
  rw [cells25] at hlen
  match cs, hlen with
  | [c0, c1, c2], _ =>
    have hs : ∀ i, i < 3 → ∃ y, ys[i]? = some y := fun i hi => ⟨ys[i]'(by simpa [hyl] using hi), List.getElem?_eq_getElem _⟩
    obtain ⟨y0, e0⟩ := hs 0 (by omega)
    obtain ⟨y1, e1⟩ := hs 1 (by omega)
    obtain ⟨y2, e2⟩ := hs 2 (by omega)
    have h0 : DataW.trod enc Try.prog w base spare held n 5 ((([c0, c1, c2] : List Value).drop 0).take (Try.prog.cellsOf 5)) = some y0 := (hf 0 _ rfl).trans e0
    rw [cells5] at h0
    have h0 : DataW.trod enc Try.prog w base spare held n 5 [c0] = some y0 := h0
    have h1 : DataW.trod enc Try.prog w base spare held n 23 ((([c0, c1, c2] : List Value).drop 1).take (Try.prog.cellsOf 23)) = some y1 := (hf 1 _ rfl).trans e1
    rw [cells23] at h1
    have h1 : DataW.trod enc Try.prog w base spare held n 23 [c1] = some y1 := h1
    have h2 : DataW.trod enc Try.prog w base spare held n 23 ((([c0, c1, c2] : List Value).drop 2).take (Try.prog.cellsOf 23)) = some y2 := (hf 2 _ rfl).trans e2
    rw [cells23] at h2
    have h2 : DataW.trod enc Try.prog w base spare held n 23 [c2] = some y2 := h2
    obtain ⟨u0, g0⟩ := read5 h0
    obtain ⟨u1, g1⟩ := read23 h1
    obtain ⟨u2, g2⟩ := read23 h2
    simp only [List.cons.injEq, and_true] at g0 g1 g2
    exact ⟨⟨u0, u1, u2⟩, by rw [g0, g1, g2]⟩
theorem read27 (h : DataW.trod enc Try.prog w base spare held fuel 27 cs = some x) : ∃ n : Nm, cs = flN n := by
  obtain ⟨ys, n, _, _, hlen, hyl, hf⟩ := DataW.trod_struct Try.underlying27 h
  rw [cells27] at hlen
  match cs, hlen with
  | [c0, c1, c2, c3], _ =>
    have hs : ∀ i, i < 2 → ∃ y, ys[i]? = some y := fun i hi => ⟨ys[i]'(by simpa [hyl] using hi), List.getElem?_eq_getElem _⟩
    obtain ⟨y0, e0⟩ := hs 0 (by omega)
    obtain ⟨y1, e1⟩ := hs 1 (by omega)
    have h0 : DataW.trod enc Try.prog w base spare held n 5 ((([c0, c1, c2, c3] : List Value).drop 0).take (Try.prog.cellsOf 5)) = some y0 := (hf 0 _ rfl).trans e0
    rw [cells5] at h0
    have h0 : DataW.trod enc Try.prog w base spare held n 5 [c0] = some y0 := h0
    have h1 : DataW.trod enc Try.prog w base spare held n 25 ((([c0, c1, c2, c3] : List Value).drop 1).take (Try.prog.cellsOf 25)) = some y1 := (hf 1 _ rfl).trans e1
    rw [cells25] at h1
    have h1 : DataW.trod enc Try.prog w base spare held n 25 [c1, c2, c3] = some y1 := h1
    obtain ⟨u0, g0⟩ := read5 h0
    obtain ⟨t, g1⟩ := read25 h1
    simp only [List.cons.injEq, and_true] at g0 g1
    obtain ⟨g1, g2, g3⟩ := g1
    exact ⟨⟨u0, t⟩, by rw [g0, g1, g2, g3]; rfl⟩
theorem read32 (h : DataW.trod enc Try.prog w base spare held fuel 32 cs = some x) : ∃ (k : UInt8) (m : Nm) (after : UInt32), cs = .int .u8 k.toNat :: flN m ++ [.int .u32 after.toNat] := by
  obtain ⟨ys, n, _, _, hlen, hyl, hf⟩ := DataW.trod_struct Try.underlying32 h
  rw [cells32] at hlen
  match cs, hlen with
  | [c0, c1, c2, c3, c4, c5], _ =>
    have hs : ∀ i, i < 3 → ∃ y, ys[i]? = some y := fun i hi => ⟨ys[i]'(by simpa [hyl] using hi), List.getElem?_eq_getElem _⟩
    obtain ⟨y0, e0⟩ := hs 0 (by omega)
    obtain ⟨y1, e1⟩ := hs 1 (by omega)
    obtain ⟨y2, e2⟩ := hs 2 (by omega)
    have h0 : DataW.trod enc Try.prog w base spare held n 5 ((([c0, c1, c2, c3, c4, c5] : List Value).drop 0).take (Try.prog.cellsOf 5)) = some y0 := (hf 0 _ rfl).trans e0
    rw [cells5] at h0
    have h0 : DataW.trod enc Try.prog w base spare held n 5 [c0] = some y0 := h0
    have h1 : DataW.trod enc Try.prog w base spare held n 27 ((([c0, c1, c2, c3, c4, c5] : List Value).drop 1).take (Try.prog.cellsOf 27)) = some y1 := (hf 1 _ rfl).trans e1
    rw [cells27] at h1
    have h1 : DataW.trod enc Try.prog w base spare held n 27 [c1, c2, c3, c4] = some y1 := h1
    have h2 : DataW.trod enc Try.prog w base spare held n 23 ((([c0, c1, c2, c3, c4, c5] : List Value).drop 5).take (Try.prog.cellsOf 23)) = some y2 := (hf 2 _ rfl).trans e2
    rw [cells23] at h2
    have h2 : DataW.trod enc Try.prog w base spare held n 23 [c5] = some y2 := h2
    obtain ⟨u0, g0⟩ := read5 h0
    obtain ⟨m, g1⟩ := read27 h1
    obtain ⟨u2, g2⟩ := read23 h2
    simp only [List.cons.injEq, and_true] at g0 g2
    exact ⟨u0, m, u2, by rw [g0, g2]; show _ :: ([c1, c2, c3, c4] ++ [_]) = _; rw [g1]; rfl⟩

theorem val27 {v : Value} {d : DataW H} {p : List MemPlace} (hv : Value.okWide Try.prog w .any base 27 v) (h : DataW.Trod enc Try.prog w 0 (fun _ => true) true 27 v d p) : ∃ n : Nm, v = encN n := by
  obtain ⟨cs, rfl, _⟩ := okWide_struct Try.underlying27 hv
  obtain ⟨fuel, hf⟩ := h
  obtain ⟨n, hn⟩ := read27 hf
  exact ⟨n, by rw [show encN n = .agg (flN n).toArray from rfl, ← hn]; rfl⟩
theorem val32 {v : Value} {d : DataW H} {p : List MemPlace} (hv : Value.okWide Try.prog w .any base 32 v) (h : DataW.Trod enc Try.prog w 0 (fun _ => true) true 32 v d p) : ∃ (k : UInt8) (m : Nm) (after : UInt32), v = encA k m after := by
  obtain ⟨cs, rfl, _⟩ := okWide_struct Try.underlying32 hv
  obtain ⟨fuel, hf⟩ := h
  obtain ⟨k, m, a, hn⟩ := read32 hf
  refine ⟨k, m, a, ?_⟩
  rw [show encA k m a = .agg (Value.int .u8 k.toNat :: flN m ++ [Value.int .u32 a.toNat]).toArray from rfl, ← hn]
  rfl
end
end Go.Proofs.Ytkalckpfepanaaa

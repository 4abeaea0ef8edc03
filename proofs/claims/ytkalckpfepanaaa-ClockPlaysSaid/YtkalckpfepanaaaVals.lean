/- The clock's values: names, the clock in memory. -/
import Derived.Test.YtkalckpfepanaaaProg
import Derived.Test.YtkalckpfepanaaaBase
import Derived.Test.YtkalckpfepanaaaReg
import Derived.WalkSpells
import Derived.WalkLawsBesides
import Derived.StillTailTactics
import Derived.BigQuiet
import Derived.DeepKeys5
namespace Go.Proofs.Ytkalckpfepanaaa
set_option linter.unusedVariables false
set_option linter.unusedSimpArgs false
set_option linter.unusedSectionVars false
open Go.My Go.RowKit Go.ChangeMaps

structure Tx where
  node : UInt8
  boot : UInt32
  num : UInt32
instance : DecidableEq Tx := fun a b =>
  if h : a.node = b.node ∧ a.boot = b.boot ∧ a.num = b.num then isTrue (by cases a; cases b; simp at h; obtain ⟨rfl, rfl, rfl⟩ := h; rfl)
  else isFalse (by rintro rfl; exact h ⟨rfl, rfl, rfl⟩)
structure Nm where
  kind : UInt8
  tx : Tx
instance : DecidableEq Nm := fun a b =>
  if h : a.kind = b.kind ∧ a.tx = b.tx then isTrue (by cases a; cases b; simp at h; obtain ⟨rfl, rfl⟩ := h; rfl)
  else isFalse (by rintro rfl; exact h ⟨rfl, rfl⟩)

def encU (n : Nat) : Value := .int .u32 n
def encN (n : Nm) : Value := .agg #[.int .u8 n.kind.toNat, .int .u8 n.tx.node.toNat, .int .u32 n.tx.boot.toNat, .int .u32 n.tx.num.toNat]

theorem laidOut : laidOutB Try.prog = true := by kernel_rfl

theorem cells38 : Try.prog.cellsOf 38 = 4 := by kernel_rfl
theorem cells25 : Try.prog.cellsOf 25 = 3 := by kernel_rfl
theorem cells5 : Try.prog.cellsOf 5 = 1 := by kernel_rfl
theorem cells23 : Try.prog.cellsOf 23 = 1 := by kernel_rfl
theorem keyT38 : Try.prog.keyType 38 = true := by kernel_rfl
theorem types_size : ∃ m, Try.prog.types.size = m + 10 := ⟨Try.prog.types.size - 10, by kernel_rfl⟩

theorem wf8 (x : UInt8) : (Lit.int .u8 (x.toNat : Int)).wf = true := by
  have := x.toNat_lt; simp [Lit.wf, IntKind.min, IntKind.max, IntKind.signed, IntKind.bits]; omega
theorem wf32 (x : UInt32) : (Lit.int .u32 (x.toNat : Int)).wf = true := by
  have := x.toNat_lt; simp [Lit.wf, IntKind.min, IntKind.max, IntKind.signed, IntKind.bits]; omega

theorem formed38 (n : Nm) : Value.formed Try.prog 38 (encN n) = true := by
  unfold encN Value.formed
  rw [Try.underlying38]
  show (#[_, _, _, _].size == Try.prog.cellsOf 38) = true
  rw [cells38]; rfl
theorem lits5 (d : Nat) (x : UInt8) : Try.prog.keyLits (d + 1) 5 [.int .u8 x.toNat] = some [.int .u8 x.toNat] := by
  unfold Program.keyLits
  rw [Try.underlying5]
  simp only [wf8, and_self, if_true]
theorem lits23 (d : Nat) (x : UInt32) : Try.prog.keyLits (d + 1) 23 [.int .u32 x.toNat] = some [.int .u32 x.toNat] := by
  unfold Program.keyLits
  rw [Try.underlying23]
  simp only [wf32, and_self, if_true]
theorem lits25 (d : Nat) (x : UInt8) (y z : UInt32) : Try.prog.keyLits (d + 2) 25 [.int .u8 x.toNat, .int .u32 y.toNat, .int .u32 z.toNat] = some [.int .u8 x.toNat, .int .u32 y.toNat, .int .u32 z.toNat] := by
  rw [Program.keyLits.eq_def]
  simp only [Try.underlying25, cells25, cells5, cells23, List.mapM_cons, List.mapM_nil, List.drop_zero, List.drop_succ_cons, List.take_succ_cons, List.take_zero, lits5, lits23]
  rw [if_pos ⟨rfl, by kernel_rfl⟩]
  rfl
theorem lits38 (d : Nat) (n : Nm) : ∃ l, Try.prog.keyLits (d + 3) 38 (encN n).cells.toList = some l := by
  refine ⟨[.int .u8 n.kind.toNat, .int .u8 n.tx.node.toNat, .int .u32 n.tx.boot.toNat, .int .u32 n.tx.num.toNat], ?_⟩
  rw [Program.keyLits.eq_def]
  simp only [encN, Value.cells, Try.underlying38, cells38, cells5, cells25, List.mapM_cons, List.mapM_nil, List.drop_zero, List.drop_succ_cons, List.take_succ_cons, List.take_zero, lits5, lits25]
  rw [if_pos ⟨rfl, by kernel_rfl⟩]
  rfl

theorem keyOf_struct {P : Program} {k : TypeId} {v : Value} {fs : Array Field} {l : List Lit} (h : P.underlying k = some (.struct fs)) (h1 : P.keyType k = true) (h2 : v.formed P k = true) (h3 : P.keyLits (P.types.size + 1) k v.cells.toList = some l) :
    ∃ l, keyOf P k v = some l := by
  unfold keyOf
  simp only [h, h1, h2, h3, Bool.and_self, if_true, Option.map_some]
  exact ⟨_, rfl⟩
theorem keyOf38 (n : Nm) : ∃ l, keyOf Try.prog 38 (encN n) = some l := by
  obtain ⟨m, hm⟩ := types_size
  obtain ⟨l, hl⟩ := lits38 (m + 8) n
  have h2 : m + 8 + 3 = Try.prog.types.size + 1 := by omega
  rw [h2] at hl
  exact keyOf_struct Try.underlying38 keyT38 (formed38 n) hl

theorem law_gate {P : Program} (hl : laidOutB P = true) {k : TypeId} {fs : Array Field} (h : P.underlying k = some (.struct fs)) (hsmall : decide (P.types.size + 2 ≤ 10000) = true) (hrow : decide (k < P.types.size) = true) (hk : P.keyType k = true) : Maps.Keyed P k :=
  Maps.Keyed.of_law (deep_law_gate hl (of_decide_eq_true hsmall) (of_decide_eq_true hrow) hk (by rw [h]))
theorem small : decide (Try.prog.types.size + 2 ≤ 10000) = true := by kernel_rfl
theorem row38 : decide (38 < Try.prog.types.size) = true := by kernel_rfl
theorem keyed38 : Maps.Keyed Try.prog 38 := law_gate laidOut Try.underlying38 small row38 keyT38

theorem key38 : KeyE Try.prog 38 encN where
  keyed := keyed38
  key := keyOf38
  inj := by
    intro a b h
    obtain ⟨ak, ⟨an, ab, au⟩⟩ := a
    obtain ⟨bk, ⟨bn, bb, bu⟩⟩ := b
    simp only [encN, Value.agg.injEq, Array.mk.injEq, List.cons.injEq, Value.int.injEq, true_and, and_true, Int.ofNat_inj] at h
    obtain ⟨h1, h2, h3, h4⟩ := h
    rw [UInt8.toNat_inj] at h1 h2
    rw [UInt32.toNat_inj] at h3 h4
    subst h1 h2 h3 h4
    rfl
end Go.Proofs.Ytkalckpfepanaaa

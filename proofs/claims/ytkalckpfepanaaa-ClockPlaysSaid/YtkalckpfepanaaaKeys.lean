/- The clock: the names of a map, collected (maps.Keys, slices.Collect). -/
import Derived.Test.YtkalckpfepanaaaTickA
import Derived.RangeFuncNested
import Derived.RangeFuncBound
import Derived.RangeFuncCalls
import Derived.RangeFuncLeaves
import Derived.RangeFuncBox
import Derived.Shelf.Abstract
import Derived.Shelf.RegionOpen
import Derived.OwnWalkIn
import Derived.TacticsInMore
import Derived.LoopNIn
import Derived.LoopIn
import Derived.Maps.AppendAt
import Derived.Sort.LoopGhostIn
namespace Go.Proofs.Ytkalckpfepanaaa
set_option linter.unusedVariables false
set_option linter.unusedSimpArgs false
set_option linter.unusedSectionVars false
open Go.My Go.RowKit Go.ChangeMaps Go.Shelf
set_option maxHeartbeats 1000000
set_option maxRecDepth 100000

theorem grown_of_upd {w w' : World} {r : Nat} (h : Upd (· = r) w w') : w.grownBy w' (some r) :=
  ⟨h.os, h.tape, h.output, h.size, fun k hk hne => h.block k hk (fun e => hne (by rw [e]))⟩
theorem iter_walk {w : World} {r A : Nat} {l rest : List (Nm × Nat)} (h : IterOf Try.prog 38 encN encU w r A l rest) : ∃ o : Obj, w.heap[r]? = some o ∧ o.isWalk = true := by
  obtain ⟨es, clock, seen, h1, _⟩ := h
  exact ⟨_, h1, rfl⟩
theorem iter_kept {w w' : World} {r A : Nat} {l rest : List (Nm × Nat)} (h : IterOf Try.prog 38 encN encU w r A l rest) (hk : KeepsWalks w w') : IterOf Try.prog 38 encN encU w' r A l rest := by
  have h0 := h
  obtain ⟨es, clock, seen, h1, h2, _⟩ := h
  exact h0.congr ((hk.same r _ h1 rfl).trans h1.symm) ((hk.same A _ h2 rfl).trans h2.symm)

/-- what the iterator's loop holds -/
structure KeysRel (A r : Nat) (l : List (Nm × Nat)) (J : List Nm → World → Prop) (k : Nat) (wr : World) (pre : List Nm) (rest : List (Nm × Nat)) : Prop where
  len : rest.length = k
  it : IterOf Try.prog 38 encN encU wr r A l rest
  perm : (pre ++ rest.map (·.1)).Perm (l.map (·.1))
  j : J pre wr

theorem keys_body (F : Fence) (n : Nat) (h44 : F.fn 44) (hro : F.round = none) (hn : 1 ≤ n) (l0 Bm A : Nat) (l : List (Nm × Nat)) (J Jx : List Nm → World → Prop)
    (hY : ∀ pre x W, J pre W → pre.length < l.length → YieldAt F (n - 1) Try.prog l0 #[encN x] W fun e W' =>
      (e = .returned (.bool true) ∧ J (pre ++ [x]) W' ∧ KeepsWalks W W') ∨ (e = .returned (.bool false) ∧ Jx (pre ++ [x]) W'))
    (W : World) (hJ : AbidesFrom W.heap.size J) (hm : W.cell? ⟨Bm, 0, none⟩ = some (.map (some A))) (hown : MapOf Try.prog 38 encN encU W A l) (h0 : J [] W) :
    CallsIn F n Try.prog 44 #[.func (.yield l0) #[] #[], .pointer (some ⟨Bm, 0, none⟩)] W fun e W' => (∃ v, e = .returned v) ∧
      ((∃ xs : List Nm, xs.Perm (l.map (·.1)) ∧ J xs W') ∨ (∃ pre : List Nm, True ∧ Jx pre W')) := by
  obtain ⟨o, hrg, hit⟩ := hown.range Try.underlying66
  have hJ0 : J [] (W.alloc o) := hJ [] W _ none h0 (World.grownBy_alloc W o none) (fun r e => by cases e)
  have hr : W.heap.size ≤ W.heap.size := Nat.le_refl _
  refine callsIn_of_wp Try.func44 rfl h44 ?_ hro
  simp only [Try.ntmps44, List.size_toArray, List.length_cons, List.length_nil, Nat.reduceAdd, Nat.reduceSub, Array.replicate_succ, Array.replicate_zero, List.push_toArray, List.append_toArray, List.nil_append, List.cons_append]
  gi_wp2
  have hst : KeysRel A W.heap.size l J l.length (W.alloc o) [] l := ⟨rfl, hit, List.Perm.refl _, hJ0⟩
  clear hrg hit hown hm h0
  generalize W.heap.size = r at *
  gi_loopg [6] l.length (fun k _ wr => ∃ pre rest, KeysRel A r l J k wr pre rest)
  case atStart => exact ⟨_, _, hst⟩
  case round =>
    obtain ⟨pre, rest, hrel⟩ := hrel
    clear hst hJ0
    have hplen : pre.length + rest.length = l.length := by have := hrel.perm.length_eq; simpa using this
    rcases hrel.it.next 0 with ⟨hnil, hnx⟩ | ⟨p, r1, r2, w', hrest, hnx, hit', hur, hsz, hen⟩
    · have hp := hrel.perm
      have hj := hrel.j
      rw [hnil] at hp
      simp only [List.map_nil, List.append_nil] at hp
      have A := Lib.hid hp
      clear hnil hp hrel
      gi_wp2
      go_end0
      exact ⟨⟨_, rfl⟩, .inl ⟨pre, A.out, hj⟩⟩
    · have hen1 := hen w' rfl rfl
      have hj1 : J pre w' := hJ pre wr w' (some r) hrel.j (grown_of_upd hur) (fun r' e => by cases e; exact ⟨Nat.le_refl _, iter_walk hrel.it⟩)
      have hj2 : J pre (w'.alloc (.cells (encN p.1).cells 38)) := hJ pre w' _ none hj1 (World.grownBy_alloc _ _ none) (fun r' e => by cases e)
      have hit2 : IterOf Try.prog 38 encN encU (w'.alloc (.cells (encN p.1).cells 38)) r A l (r1 ++ r2) := hit'.upd ((Upd.refl Nil _).alloc _) (fun k => k) (fun k => k)
      obtain ⟨fn, tmps, assign, body, hy, hR⟩ := hY pre p.1 _ hj2 (by have := congrArg List.length hrest; simp at this; omega)
      have hperm : ((pre ++ [p.1]) ++ (r1 ++ r2).map (·.1)).Perm (l.map (·.1)) := by
        refine List.Perm.trans ?_ hrel.perm
        rw [hrest, List.append_assoc]
        refine List.Perm.append_left _ ?_
        simp only [List.map_append, List.map_cons, List.singleton_append]
        exact List.perm_middle.symm
      have A := Lib.hid (And.intro hrest hperm)
      have hlen := hrel.len
      clear hrest hperm hen hsz hj1 hj2 hrel hY
      simp only [encN, Value.cells, encU] at *
      gi_wp2
      refine hR.mono ?_
      rintro e W3 (⟨rfl, hJ3, hk3⟩ | ⟨rfl, hJx3⟩)
      · have hit3 := iter_kept hit2 hk3
        clear hy hnx hen1
        gi_wp2
        gi_roundg (r1 ++ r2).length
        case measure => have := congrArg List.length A.out.1; simp at this ⊢; omega
        case rel => exact ⟨_, _, rfl, hit3, A.out.2, hJ3⟩
      · gi_wp2
        refine bodyPost_ret (results_none rfl _ _ _) rfl ?_
        exact ⟨⟨_, rfl⟩, .inr ⟨_, trivial, hJx3⟩⟩

theorem mapOf_below {w W : World} {A : Nat} {l : List (Nm × Nat)} (h : MapOf Try.prog 38 encN encU w A l) (hW : Below w.heap.size w W) : MapOf Try.prog 38 encN encU W A l := h.congr (hW.block A h.lt)

theorem keys_stops (F : Fence) (n : Nat) (h44 : F.fn 44) (hro : F.round = none) (hn : 1 ≤ n) (Bm A : Nat) (l : List (Nm × Nat)) (w : World) (hBm : Bm < w.heap.size) (hm : w.cell? ⟨Bm, 0, none⟩ = some (.map (some A))) (hown : MapOf Try.prog 38 encN encU w A l) :
    SeqStopsK F n Try.prog 44 #[.pointer (some ⟨Bm, 0, none⟩)] (fun x : Nm => #[encN x]) KeepsWalks (fun xs => xs.Perm (l.map (·.1))) (fun _ => True) l.length w := fun l0 J Jx W hW hJ _ hY h0 =>
  keys_body F n h44 hro hn l0 Bm A l J Jx hY W hJ ((hW.cell (p := ⟨Bm, 0, none⟩) hBm).trans hm) (mapOf_below hown hW) h0

/-- maps.Keys -/
theorem keys_in (F : Fence) (n : Nat) (h34 : F.fn 34) (hro : F.round = none) (A : Nat) (w : World) :
    CallsIn F n Try.prog 34 #[.map (some A)] w fun e w' => e = .returned (.func (.func 44) #[] #[.pointer (some ⟨w.heap.size, 0, none⟩)]) ∧ w' = w.alloc (.cells #[.map (some A)] 66) := by
  refine callsIn_of_wp Try.func34 rfl h34 ?_ hro
  simp only [Try.ntmps34, List.size_toArray, List.length_cons, List.length_nil, Nat.reduceAdd, Nat.reduceSub, Array.replicate_succ, Array.replicate_zero, List.push_toArray, List.append_toArray, List.nil_append, List.cons_append]
  gi_wp2
  go_ret
  exact ⟨rfl, rfl⟩

attribute [local go_sem] Oper.semAt_some

def NameBox (W : World) (B : Nat) (x : Nm) : Prop := W.heap[B]? = some (.cells #[.int .u8 x.kind.toNat, .int .u8 x.tx.node.toNat, .int .u32 x.tx.boot.toNat, .int .u32 x.tx.num.toNat] 38)
theorem NameBox.own (B : Nat) (x : Nm) {X Y : World} {row : Option Nat} (h : NameBox X B x) (hg : X.grownBy Y row) (hr : ∀ r, row = some r → ∃ o : Obj, X.heap[r]? = some o ∧ o.isCells = false) : NameBox Y B x :=
  (hg.block B (heap_lt h) (fun e => by obtain ⟨o, ho, hc⟩ := hr B e.symm; rw [show X.heap[B]? = _ from h] at ho; cases ho; cases hc)).trans h

theorem append_in (F : Fence) (n : Nat) (h59 : F.fn 59) (h44 : F.fn 44) (hro : F.round = none) (hn : 3 ≤ n) (Bm A : Nat) (l : List (Nm × Nat)) (hl : l.length ≤ 1024) (w : World) (hBm : Bm < w.heap.size) (hm : w.cell? ⟨Bm, 0, none⟩ = some (.map (some A))) (hown : MapOf Try.prog 38 encN encU w A l) :
    CallsIn F n Try.prog 59 #[.slice none 0 0, .func (.func 44) #[] #[.pointer (some ⟨Bm, 0, none⟩)]] w fun e w' => ∃ (v : Value) (xs : List Nm), e = .returned v ∧ xs.Perm (l.map (·.1)) ∧ w'.ownsRow w.heap.size 38 4 v xs.length (xs.flatMap flN) ∧ Below w.heap.size w w' := by
  have h1 : 1 ≤ n := by omega
  obtain ⟨i38, hi38, hz380, hz381, hz382⟩ := info_parts info38
  refine callsIn_of_wp_marks Try.func59 rfl h59 ?_ hro
  simp only [Try.ntmps59, List.size_toArray, List.length_cons, List.length_nil, Nat.reduceAdd, Nat.reduceSub, Array.replicate_succ, Array.replicate_zero, List.push_toArray, List.append_toArray, List.nil_append, List.cons_append]
  gi_wp2
  have bO := Boxed.new w 33 (.slice none 0 0)
  have hB0 : Below w.heap.size w (w.alloc (.cells #[.slice none 0 0] 33)) := (Below.refl _ w).alloc (Nat.le_refl _) _
  have hsz : (w.alloc (.cells #[.slice none 0 0] 33)).heap.size = w.heap.size + 1 := by simp
  obtain ⟨W0, hW0⟩ : ∃ W0, w.alloc (.cells #[.slice none 0 0] 33) = W0 := ⟨_, rfl⟩
  rw [hW0] at bO hB0 hsz ⊢
  clear hW0
  refine wpIn_rangeFunc_ownH hro h1 (gf := 44) (lb := #[.pointer (some ⟨Bm, 0, none⟩)]) rfl h44 (enters_of Try.func44 (by kernel_rfl) rfl)
    (keys_stops F (n - 1) h44 hro (by omega) Bm A l W0 (by omega) ((hB0.cell (p := ⟨Bm, 0, none⟩) hBm).trans hm) (mapOf_below hown hB0)) walksK_t walksK_b (Below.refl _ _) (fun _ => rfl)
    (fun pre W => (∃ v, Boxed W w.heap.size 33 v ∧ W.ownsRow w.heap.size 38 4 v pre.length (pre.flatMap flN) ∧ True) ∧ Below w.heap.size w W)
    (fun _ _ _ => False)
    (OwnFrom.and (Own.from (holdsRow_own w.heap.size w.heap.size 33 38 4 (fun pre : List Nm => pre.length) (fun pre => pre.flatMap flN) (fun _ _ => True)) _) (ownFrom_below (Nat.le_refl _) (by omega)))
    (fun _ _ _ _ _ hs _ _ => hs)
    ⟨⟨_, bO, World.ownsRow_nil _ _ _ _, trivial⟩, hB0⟩
    (fun x a' W => ∃ Bx, w.heap.size < Bx ∧ NameBox W Bx x ∧ a' = { tmps := #[.slice none 0 0, .func (.func 44) #[] #[.pointer (some ⟨Bm, 0, none⟩)], .pointer (some ⟨w.heap.size, 0, none⟩), undef, .slice none 0 0, .pointer (some ⟨Bx, 0, none⟩), .func (.func 44) #[] #[.pointer (some ⟨Bm, 0, none⟩)], encN x, undef, undef, undef, undef, undef], defers := [] })
    (fun x a' _ X Y row hs hg hr => by obtain ⟨Bx, h1, h2, h3⟩ := hs; exact ⟨Bx, h1, h2.own Bx x hg (fun r e => (hr r e).2), h3⟩)
    ?assign ?body ?done ?stop
  case assign =>
    rintro l0 pre x W K ⟨⟨v, hv, hrow, _⟩, hB⟩ hK
    simp only [encN]
    gi_wp2
    exact hK _ _ ((KeepsOthers.alloc _ _).from _) (KeepsWalks.alloc _ _) ⟨⟨v, hv.alloc _, hrow.alloc _, trivial⟩, hB.alloc hB.size _⟩ ⟨W.heap.size, hv.lt, hpNew _ _, rfl⟩
  case body =>
    rintro l0 pre x a' W hl0 ⟨r, hr⟩ ⟨⟨v, hv, hrow, _⟩, hB⟩ ⟨Bx, hBx, bX, rfl⟩ hlt
    have hc := hv.cell
    obtain ⟨c0, c1, c2, c3⟩ := box4 bX
    simp only [encN]
    have hBs := hB.size
    gi_wp2_with (gi_at_builtin; refine wpListIn_append_own _ rfl _ _ 33 rfl w.heap.size 38 i38 _ 4 16 Try.underlying33 hi38 hz380 hz381 hz382 rfl (by decide) _ _ _ rfl (hrow.alloc _) ⟨W.heap.size, 0, none⟩ 1 1 (flN x) rfl rfl ?c1 ?c2 ?c3 ?c4 ?c5 ?_)
    case c1 =>
      have hb := hpNew W (.cells (flN x).toArray 38)
      intro j u hj
      rw [addr_add]
      exact (My.cell_of_heap hb j).trans (by simpa using hj)
    case c2 => exact flN_one x
    case c3 => unfold maxLen; omega
    case c4 => omega
    case c5 => simp; omega
    intro v' w1 hown' hgrow _
    obtain ⟨g', cap', rfl⟩ := ownsRow_succ hown'
    obtain ⟨hv1, hv2, hr2, hk2, hb2⟩ := hv.appended (by decide) hrow hB.size (Nat.le_refl _) hown' hgrow
    have hcv := hv1.cell
    have hfv := hv1.frozen
    have hkw : KeepsWalks W (w1.setCell ⟨w.heap.size, 0, none⟩ (.slice (some ⟨g', 0, none⟩) (pre.length + 1) cap')) := ⟨hk2.size, fun k o hk ho => hk2.same k o hk (Obj.not_cells_of_walk ho)⟩
    clear hc c0 c1 c2 c3 hrow hown' hgrow hv1
    gi_wp2
    exact ⟨hk2.from _, hkw, ⟨_, hv2, by simpa using hr2, trivial⟩, hB.trans hb2⟩
  case done =>
    rintro D ys W hD hperm ⟨⟨v, hv, hrow, _⟩, hB⟩ hK
    have hc := hv.cell
    gi_wp2
    refine ⟨by simp, .inl ⟨_, _, rfl, run_takeDeferred hK, ?_⟩⟩
    exact ⟨_, results_tmp rfl _ _ _, v, ys, rfl, hperm, ownsRow_putObj hrow _ hK rfl, hB.trans (belowK_b (w := w) (Nat.le_refl _) W D _ _ (by omega) hK rfl rfl)⟩
  case stop =>
    rintro D c pre W _ _ h _
    exact h.elim
end Go.Proofs.Ytkalckpfepanaaa

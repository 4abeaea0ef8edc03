/- The law's 'ours', the reference's Same. -/
import Derived.Test.YtkalckpfepanaaaRefH
namespace Go.Proofs.Ytkalckpfepanaaa
set_option linter.unusedVariables false
set_option linter.unusedSimpArgs false
set_option linter.unusedSectionVars false
open Go.My Go.RowKit Go.ChangeMaps
set_option maxHeartbeats 1000000
set_option maxRecDepth 100000

theorem size38 (w : World) : (Go.sizeOf 38).run Try.prog w = .ok 4 w := by kernel_rfl

theorem ours_own {w : World} {base : Nat} {v : Value} {D : List Nm} (h : SliceAt flN 4 base w v D) (hfew : D.length ≤ 1024) :
    Calls Try.prog 20 #[v] w fun e w' => ∃ v', e = .returned v' ∧ Upd Nil w w' ∧ w'.ownsRow w.heap.size 27 4 v' D.length (D.flatMap flN) := by
  obtain ⟨i27, hi27, hz270, hz271, hz272⟩ := info_parts info27
  have hl := fun rt w' => h.len (P := Try.prog) Try.underlying33 rt w'
  go_enter Try.func20, Try.ntmps20
  go_wp2_with fail
  go_loopw [3, 8] (fun out i wr => ∃ k : Nat, k ≤ D.length ∧ i = .int .i64 k ∧ Upd Nil w wr ∧ wr.ownsRow w.heap.size 27 4 out k ((D.take k).flatMap flN)) (fun _ i _ => D.length - (intOf i).toNat)
  case atStart => exact ⟨0, by omega, rfl, Upd.refl _ _, ownsRow_nil _ _ _ _⟩
  case round =>
    obtain ⟨k, hk, rfl, hu, hown⟩ := hrel
    by_cases hkl : k < D.length
    · obtain ⟨b, o, hb, hidx, hcell⟩ := h.index (P := Try.prog) Try.underlying33 size38 hkl
      have c0 : wr.cell? ⟨b, o, none⟩ = some (.int .u8 D[k].kind.toNat) := (hu.cell (p := ⟨b, o, none⟩) hb (fun k => k)).trans (hcell 0 (by omega))
      have c1 : wr.cell? ⟨b, o + 1, none⟩ = some (.int .u8 D[k].tx.node.toNat) := (hu.cell (p := ⟨b, o + 1, none⟩) hb (fun k => k)).trans (hcell 1 (by omega))
      have c2 : wr.cell? ⟨b, o + 2, none⟩ = some (.int .u32 D[k].tx.boot.toNat) := (hu.cell (p := ⟨b, o + 2, none⟩) hb (fun k => k)).trans (hcell 2 (by omega))
      have c3 : wr.cell? ⟨b, o + 3, none⟩ = some (.int .u32 D[k].tx.num.toNat) := (hu.cell (p := ⟨b, o + 3, none⟩) hb (fun k => k)).trans (hcell 3 (by omega))
      clear hcell
      have hsz := hu.size
      go_wp2_with (at_builtin; refine wpList_append_own _ rfl _ _ 51 rfl w.heap.size 27 i27 _ 4 16 Try.underlying51 hi27 hz270 hz271 hz272 rfl (by decide) _ _ _ rfl ((hown.alloc _).alloc _) ⟨wr.heap.size + 1, 0, none⟩ 1 1 (flN D[k]) rfl rfl ?c1 ?c2 ?c3 ?c4 ?c5 ?_)
      case c1 =>
        have hb := hpNew (wr.alloc (.cells (flN D[k]).toArray 38)) (.cells (flN D[k]).toArray 27)
        rw [World.size_alloc] at hb
        intro j u hj
        rw [addr_add]
        exact (My.cell_of_heap hb j).trans (by simpa using hj)
      case c2 => exact flN_one D[k]
      case c3 => unfold maxLen; omega
      case c4 => omega
      case c5 => simp; omega
      intro out' w6 hown6 hgrow _
      have hu6 : Upd Nil w w6 := ((hu.alloc _).alloc _).grown hgrow (fun i hi hlt => by have := (ownsRow_block hown hi).1; omega)
      clear c0 c1 c2 c3 hidx hown
      go_wp2_with fail
      go_roundw
      case rel =>
        refine ⟨k + 1, by omega, by go_num, hu6, ?_⟩
        rw [List.take_succ_eq_append_getElem hkl, List.flatMap_append]
        have e : (([D[k]] : List Nm).flatMap flN) = flN D[k] := by simp
        rw [e]
        exact hown6
      case measure => simp [intOf]; omega
    · have Hk := Lib.hid hkl
      have hkD : k = D.length := by omega
      have HkD := Lib.hid hkD
      clear hkD
      go_wp2_with fail
      go_ret
      refine ⟨_, rfl, hu, ?_⟩
      have e := HkD.out
      rw [e, List.take_length] at hown
      exact hown

theorem same_ref {w : World} {b1 b2 : Nat} {u v : Value} {D : List Nm} (h1 : SliceAt flN 4 b1 w u D) (h2 : SliceAt flN 4 b2 w v D) (hfew : D.length ≤ 1024) :
    Calls Try.prog 19 #[u, v] w fun e w' => e = .returned (.bool true) ∧ Upd Nil w w' := by
  have l1 := fun rt w' => h1.len (P := Try.prog) Try.underlying51 rt w'
  have l2 := fun rt w' => h2.len (P := Try.prog) Try.underlying51 rt w'
  go_enter Try.func19, Try.ntmps19
  go_wp2_with fail
  go_loopw [5] (fun i wr => ∃ k : Nat, k ≤ D.length ∧ i = .int .i64 k ∧ Upd Nil w wr) (fun i _ => D.length - (intOf i).toNat)
  case atStart => exact ⟨0, by omega, rfl, Upd.refl _ _⟩
  case round =>
    obtain ⟨k, hk, rfl, hu⟩ := hrel
    by_cases hkl : k < D.length
    · obtain ⟨b, o, hb, hidx, hcell⟩ := h1.index (P := Try.prog) Try.underlying51 size27 hkl
      obtain ⟨b', o', hb', hidx', hcell'⟩ := h2.index (P := Try.prog) Try.underlying51 size27 hkl
      have hcl := Lib.hid fun w' (hw : Upd Nil wr w') j (hj : j < 4) => And.intro (((hu.trans hw).cell (p := ⟨b, o + j, none⟩) hb (fun k => k)).trans (hcell j hj)) (((hu.trans hw).cell (p := ⟨b', o' + j, none⟩) hb' (fun k => k)).trans (hcell' j hj))
      have hne := fun w' => neq27 D[k] D[k] w'
      simp only [encN, decide_true, Bool.not_true] at hne
      clear hcell hcell'
      go_wp2_with fail
      refine wp_region_class (fun w' => Upd Nil wr w') (by kernel_rfl) (by kernel_rfl) (Upd.refl _ _).drew ?_
      iterate 9
        apply wpQuiet_plain rfl
        · intro w' hw'
          have c0 : w'.cell? ⟨b, o, none⟩ = some (.int .u8 D[k].kind.toNat) := (hcl.out w' hw' 0 (by omega)).1
          have c1 : w'.cell? ⟨b, o + 1, none⟩ = some (.int .u8 D[k].tx.node.toNat) := (hcl.out w' hw' 1 (by omega)).1
          have c2 : w'.cell? ⟨b, o + 2, none⟩ = some (.int .u32 D[k].tx.boot.toNat) := (hcl.out w' hw' 2 (by omega)).1
          have c3 : w'.cell? ⟨b, o + 3, none⟩ = some (.int .u32 D[k].tx.num.toNat) := (hcl.out w' hw' 3 (by omega)).1
          have d0 : w'.cell? ⟨b', o', none⟩ = some (.int .u8 D[k].kind.toNat) := (hcl.out w' hw' 0 (by omega)).2
          have d1 : w'.cell? ⟨b', o' + 1, none⟩ = some (.int .u8 D[k].tx.node.toNat) := (hcl.out w' hw' 1 (by omega)).2
          have d2 : w'.cell? ⟨b', o' + 2, none⟩ = some (.int .u32 D[k].tx.boot.toNat) := (hcl.out w' hw' 2 (by omega)).2
          have d3 : w'.cell? ⟨b', o' + 3, none⟩ = some (.int .u32 D[k].tx.num.toNat) := (hcl.out w' hw' 3 (by omega)).2
          have f1 := hidx w'
          have f2 := hidx' w'
          have f3 := hne w'
          go_simp
          first | done | exact rfl | exact ⟨rfl, rfl⟩
        go_frame
      refine wpQuiet_nil ?_
      intro w5 hu5
      clear hcl hidx hidx' hne
      go_wp2_with fail
      go_roundw
      case rel => exact ⟨k + 1, by omega, by go_num, hu.trans hu5⟩
      case measure => simp [intOf]; omega
    · have Hk := Lib.hid hkl
      go_wp2_with fail
      go_ret
      exact ⟨rfl, hu⟩
end Go.Proofs.Ytkalckpfepanaaa

/- The reference's order: numbers, first, Txs, ahead. -/
import Derived.Test.YtkalckpfepanaaaRefD
namespace Go.Proofs.Ytkalckpfepanaaa
set_option linter.unusedVariables false
set_option linter.unusedSimpArgs false
set_option linter.unusedSectionVars false
open Go.My Go.RowKit Go.ChangeMaps
set_option maxHeartbeats 400000
set_option maxRecDepth 100000

theorem numbers_ref (t : Tx) (w : World) : Calls Try.prog 58 #[encT t] w fun e w' => ∃ g, e = .returned (.slice (some ⟨g, 0, none⟩) 3 3) ∧ w'.heap[g]? = some (.cells #[.int .u32 t.node.toNat, .int .u32 t.boot.toNat, .int .u32 t.num.toNat] 23) ∧ Upd Nil w w' := by
  have h8 : t.node.toNat < 256 := t.node.toNat_lt
  have hmod : ((t.node.toNat : Int) % 4294967296) = (t.node.toNat : Int) := by omega
  simp only [encT]
  go_enter Try.func58, Try.ntmps58
  go_wp2_with fail
  go_ret
  refine ⟨_, rfl, ?_, ((Upd.refl _ _).alloc _).alloc _⟩
  have := hpNew (w.alloc (.cells #[.int .u8 t.node.toNat, .int .u32 t.boot.toNat, .int .u32 t.num.toNat] 25)) (.cells #[.int .u32 t.node.toNat, .int .u32 t.boot.toNat, .int .u32 t.num.toNat] 23)
  rwa [World.size_alloc] at this

def firstL : List (Nat × Nat) → Int
  | [] => 0
  | (x, y) :: l => if x < y then -1 else if x > y then 1 else firstL l

theorem first_ref (a b : Nat) (xs : List (Nat × Nat)) (w : World) (hl : xs.length ≤ 100) (ca cb : Nat) (ha : ∀ i (h : i < xs.length), w.cell? ⟨a, i, none⟩ = some (.int .u32 xs[i].1)) (hb : ∀ i (h : i < xs.length), w.cell? ⟨b, i, none⟩ = some (.int .u32 xs[i].2)) :
    Calls Try.prog 57 #[.slice (some ⟨a, 0, none⟩) xs.length ca, .slice (some ⟨b, 0, none⟩) xs.length cb] w fun e w' => e = .returned (.int .i64 (firstL xs)) ∧ Upd Nil w w' := by
  go_enter Try.func57, Try.ntmps57
  go_wp2_with fail
  go_loopw [5] (fun i wr => ∃ k m : Nat, k ≤ xs.length ∧ i = .int .i64 k ∧ wr = w.drewN m ∧ firstL xs = firstL (xs.drop k)) (fun i _ => xs.length - (intOf i).toNat)
  case atStart => exact ⟨0, 0, by omega, rfl, rfl, rfl⟩
  case round =>
    obtain ⟨k, m, hk, rfl, rfl, hf⟩ := hrel
    by_cases hkl : k < xs.length
    · have c1 := ha k hkl
      have c2 := hb k hkl
      rw [List.drop_eq_getElem_cons hkl] at hf
      generalize xs[k] = xy at *
      obtain ⟨x, y⟩ := xy
      simp only at c1 c2
      have hf := Lib.hid hf
      clear ha hb
      by_cases h1 : x < y
      · have d1 : decide ((x : Int) < y) = true := decide_eq_true (by omega)
        go_wp2_with fail
        go_quiet (fail)
        go_wp2_with fail
        go_ret
        refine ⟨?_, by first | exact (Upd.refl _ _).drewN _ | exact ((Upd.refl _ _).drewN _).drewN _⟩
        rw [hf.out]; simp [firstL, h1]
      · have d1 : decide ((x : Int) < y) = false := decide_eq_false (by omega)
        by_cases h2 : x > y
        · have d2 : decide ((x : Int) > y) = true := decide_eq_true (by omega)
          go_wp2_with fail
          go_quiet (fail)
          go_wp2_with fail
          go_quiet (fail)
          go_wp2_with fail
          go_ret
          refine ⟨?_, by first | exact (Upd.refl _ _).drewN _ | exact ((Upd.refl _ _).drewN _).drewN _ | exact (((Upd.refl _ _).drewN _).drewN _).drewN _⟩
          rw [hf.out]; simp [firstL, h1, h2]
        · have d2 : decide ((x : Int) > y) = false := decide_eq_false (by omega)
          go_wp2_with fail
          go_quiet (fail)
          go_wp2_with fail
          go_quiet (fail)
          go_wp2_with fail
          go_roundw
          case rel => exact ⟨k + 1, _, by omega, by go_num, by first | rfl | exact World.drewN_drewN _ _ _, by rw [hf.out]; simp [firstL, h1, h2]⟩
          case measure => simp [intOf]; omega
    · have hd : xs.drop k = [] := List.drop_of_length_le (by omega)
      rw [hd] at hf
      have hf := Lib.hid hf
      clear hd ha hb
      go_wp2_with fail
      go_ret
      exact ⟨by rw [hf.out]; rfl, by first | exact (Upd.refl _ _).drewN _ | exact ((Upd.refl _ _).drewN _).drewN _⟩

def Tx.first (a b : Tx) : Int := firstL [(a.node.toNat, b.node.toNat), (a.boot.toNat, b.boot.toNat), (a.num.toNat, b.num.toNat)]
theorem txs_ref (a b : Tx) (w : World) : Calls Try.prog 42 #[encT a, encT b] w fun e w' => e = .returned (.int .i64 (a.first b)) ∧ Upd Nil w w' := by
  have hn := fun (t : Tx) (w : World) => numbers_ref t w
  simp only [encT] at *
  go_enter Try.func42, Try.ntmps42
  go_wp2_with fail
  generalize hw1 : (w.alloc (.cells #[.int .u8 a.node.toNat, .int .u32 a.boot.toNat, .int .u32 a.num.toNat] 25)).alloc (.cells #[.int .u8 b.node.toNat, .int .u32 b.boot.toNat, .int .u32 b.num.toNat] 25) = w1
  have hg : Upd Nil w w1 := by rw [← hw1]; exact ((Upd.refl Nil w).alloc _).alloc _
  have hb1 : w1.heap[w.heap.size]? = some (.cells #[.int .u8 a.node.toNat, .int .u32 a.boot.toNat, .int .u32 a.num.toNat] 25) := by rw [← hw1]; exact hpOld _ (hpNew _ _)
  have hb2 : w1.heap[w.heap.size + 1]? = some (.cells #[.int .u8 b.node.toNat, .int .u32 b.boot.toNat, .int .u32 b.num.toNat] 25) := by rw [← hw1]; have := hpNew (w.alloc (.cells #[.int .u8 a.node.toNat, .int .u32 a.boot.toNat, .int .u32 a.num.toNat] 25)) (.cells #[.int .u8 b.node.toNat, .int .u32 b.boot.toNat, .int .u32 b.num.toNat] 25); simpa using this
  clear hw1
  refine wp_region_I [0, 2] 4 1000 (fun w' => Upd Nil w1 w') (by kernel_rfl) (by kernel_rfl) rfl (Upd.refl _ _).drew ?_
  simp only [pickO, nthO]
  iterate 2
    apply wpTake_plain rfl
    · intro w' hw'
      obtain ⟨f1, f2, f3⟩ := box3 (hw'.keep hb1 (fun k => k))
      obtain ⟨g1, g2, g3⟩ := box3 (hw'.keep hb2 (fun k => k))
      go_simp
      first | done | exact rfl | exact ⟨rfl, rfl⟩
    go_frame
  refine wpTake_nil ?_
  refine wpAnyT_one (i := 1) (by kernel_rfl) (by kernel_rfl) fun K hK => ?_
  simp only [nthO]
  go_simp
  refine (hn a _).mono ?_
  rintro e w2 ⟨g1, rfl, hb3, hu2⟩
  have hu2 : Upd Nil w1 w2 := (Upd.refl Nil w1).drew.trans hu2
  refine hK _ _ (.inr hu2) ?_
  clear hK K
  try go_frame
  refine wpAnyT_one (i := 3) (by kernel_rfl) (by kernel_rfl) fun K hK => ?_
  simp only [nthO]
  go_simp
  refine (hn b _).mono ?_
  rintro e w3 ⟨g2, rfl, hb4, hu3⟩
  have hb3 := hu3.keep hb3 (fun k => k)
  have hu3 := hu2.trans hu3
  refine hK _ _ (.inr hu3) ?_
  clear hK K hn
  try go_frame
  have hf := first_ref g1 g2 [(a.node.toNat, b.node.toNat), (a.boot.toNat, b.boot.toNat), (a.num.toNat, b.num.toNat)] w3 (by simp) 3 3 (by
    obtain ⟨f1, f2, f3⟩ := box3 hb3
    intro i hi
    match i, hi with
    | 0, _ => exact f1
    | 1, _ => exact f2
    | 2, _ => exact f3) (by
    obtain ⟨f1, f2, f3⟩ := box3 hb4
    intro i hi
    match i, hi with
    | 0, _ => exact f1
    | 1, _ => exact f2
    | 2, _ => exact f3)
  refine wpAnyT_one (i := 4) (by kernel_rfl) (by kernel_rfl) fun K hK => ?_
  simp only [nthO]
  go_simp
  refine hf.mono ?_
  rintro e w4 ⟨rfl, hu4⟩
  have hu4 := hu3.trans hu4
  refine hK _ _ (.inr hu4) ?_
  clear hK K hf
  try go_frame
  refine wpAnyT_one (i := 5) (by kernel_rfl) (by kernel_rfl) fun K hK => ?_
  simp only [nthO]
  go_simp
  refine hK _ _ (.inr hu4) ?_
  clear hK K
  try go_frame
  refine wpAnyT_zero (by kernel_rfl) ?_
  simp only [NoPan]
  go_wp2_with fail
  go_ret
  exact ⟨rfl, hg.trans hu4⟩
end Go.Proofs.Ytkalckpfepanaaa

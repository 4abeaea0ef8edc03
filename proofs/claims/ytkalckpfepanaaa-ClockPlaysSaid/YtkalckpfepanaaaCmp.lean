/- Comparisons. -/
import Derived.Test.YtkalckpfepanaaaVals
import Derived.Test.YtkalckpfepanaaaGr
namespace Go.Proofs.Ytkalckpfepanaaa
set_option linter.unusedVariables false
set_option linter.unusedSimpArgs false
set_option linter.unusedSectionVars false
open Go.My Go.RowKit Go.ChangeMaps Go.Lib Go.Sort
set_option maxHeartbeats 400000
set_option maxRecDepth 100000

def cmpN (x y : Nat) : Int := if x < y then -1 else if y < x then 1 else 0

theorem isNaN32 (x : Nat) (w : World) : Calls Try.prog 45 #[.int .u32 x] w fun e w' => e = .returned (.bool false) ∧ w = w' := by
  go_enter Try.func45, Try.ntmps45
  go_wp2
  go_ret
  exact ⟨by simp, rfl⟩
theorem isNaN8 (x : Nat) (w : World) : Calls Try.prog 56 #[.int .u8 x] w fun e w' => e = .returned (.bool false) ∧ w = w' := by
  go_enter Try.func56, Try.ntmps56
  go_wp2
  go_ret
  exact ⟨by simp, rfl⟩
theorem cmp32 (x y : Nat) (w : World) : Calls Try.prog 37 #[.int .u32 x, .int .u32 y] w fun e w' => e = .returned (.int .i64 (cmpN x y)) ∧ w = w' := by
  go_enter Try.func37, Try.ntmps37
  go_wp2_with (go_at_call 45; refine (isNaN32 _ _).mono ?_; rintro e w' ⟨rfl, rfl⟩)
  all_goals
    go_ret
    refine ⟨?_, rfl⟩
    unfold cmpN
    first
      | (rw [if_pos (by omega)]; rfl)
      | (rw [if_neg (by omega), if_pos (by omega)]; rfl)
      | (rw [if_neg (by omega), if_neg (by omega)]; rfl)
theorem cmp8 (x y : Nat) (w : World) : Calls Try.prog 40 #[.int .u8 x, .int .u8 y] w fun e w' => e = .returned (.int .i64 (cmpN x y)) ∧ w = w' := by
  go_enter Try.func40, Try.ntmps40
  go_wp2_with (go_at_call 56; refine (isNaN8 _ _).mono ?_; rintro e w' ⟨rfl, rfl⟩)
  all_goals
    go_ret
    refine ⟨?_, rfl⟩
    unfold cmpN
    first
      | (rw [if_pos (by omega)]; rfl)
      | (rw [if_neg (by omega), if_pos (by omega)]; rfl)
      | (rw [if_neg (by omega), if_neg (by omega)]; rfl)

def orL : List Int → Int
  | [] => 0
  | v :: l => if v ≠ 0 then v else orL l

theorem or_at (b : Nat) (vs : List Int) (w : World) (hl : vs.length ≤ 100) (hc : ∀ i v, vs[i]? = some v → w.cell? ⟨b, i, none⟩ = some (.int .i64 v)) (cap : Nat) :
    Calls Try.prog 36 #[.slice (some ⟨b, 0, none⟩) vs.length cap] w fun e w' => e = .returned (.int .i64 (orL vs)) ∧ w = w' := by
  go_enter Try.func36, Try.ntmps36
  go_wp2_with fail
  go_loop [8] (fun i => ∃ k : Nat, k ≤ vs.length ∧ i = .int .i64 k ∧ orL vs = orL (vs.drop k)) (fun i => vs.length - (intOf i).toNat)
  case atStart => exact ⟨0, by omega, rfl, rfl⟩
  case round =>
    obtain ⟨k, hk, rfl, ho⟩ := hrel
    by_cases hlt : k < vs.length
    · have h1 := hc k vs[k] (by simp [hlt])
      have hd : vs.drop k = vs[k] :: vs.drop (k + 1) := List.drop_eq_getElem_cons hlt
      rw [hd] at ho
      generalize vs[k] = v at *
      clear hc
      have Ho := Lib.hid ho; clear ho
      by_cases hv : v = 0
      · subst hv
        go_wp2_with fail
        go_round
        case rel => exact ⟨k + 1, by omega, by go_num, by rw [Ho.out]; simp [orL]⟩
        case measure => simp [intOf]; omega
      · have hv2 : (v != 0) = true := by simp [hv]
        go_wp2_with fail
        go_ret
        exact ⟨by rw [Ho.out]; simp [orL, hv], rfl⟩
    · have : vs.drop k = [] := List.drop_of_length_le (by omega)
      rw [this] at ho
      have Ho := Lib.hid ho; clear ho
      clear hc
      go_wp2_with fail
      go_ret
      exact ⟨by rw [Ho.out]; rfl, rfl⟩

def Tx.cmp (a b : Tx) : Int := orL [cmpN a.node.toNat b.node.toNat, cmpN a.boot.toNat b.boot.toNat, cmpN a.num.toNat b.num.toNat]
def Nm.cmp (a b : Nm) : Int := orL [cmpN a.kind.toNat b.kind.toNat, a.tx.cmp b.tx]
def encT (t : Tx) : Value := .agg #[.int .u8 t.node.toNat, .int .u32 t.boot.toNat, .int .u32 t.num.toNat]

theorem cmp32' (x y : Nat) (w : World) : Calls Try.prog 37 #[.int .u32 x, .int .u32 y] w fun e w' => e = .returned (.int .i64 (cmpN x y)) ∧ w' = w := (cmp32 x y w).mono fun _ _ h => ⟨h.1, h.2.symm⟩
theorem cmp8' (x y : Nat) (w : World) : Calls Try.prog 40 #[.int .u8 x, .int .u8 y] w fun e w' => e = .returned (.int .i64 (cmpN x y)) ∧ w' = w := (cmp8 x y w).mono fun _ _ h => ⟨h.1, h.2.symm⟩

theorem txs_cmp (a b : Tx) (w : World) : Calls Try.prog 41 #[encT a, encT b] w fun e w' => e = .returned (.int .i64 (a.cmp b)) ∧ Gr w w' := by
  unfold Tx.cmp
  have h8 := fun w' => cmp8' a.node.toNat b.node.toNat w'
  have h1 := fun w' => cmp32' a.boot.toNat b.boot.toNat w'
  have h2 := fun w' => cmp32' a.num.toNat b.num.toNat w'
  have hor := fun (vs : List Int) (b : Nat) (w : World) => or_at b vs w
  generalize cmpN a.node.toNat b.node.toNat = c0 at *
  generalize cmpN a.boot.toNat b.boot.toNat = c1 at *
  generalize cmpN a.num.toNat b.num.toNat = c2 at *
  simp only [encT]
  go_enter Try.func41, Try.ntmps41
  go_wp2_with fail
  generalize hw1 : (w.alloc (.cells #[.int .u8 a.node.toNat, .int .u32 a.boot.toNat, .int .u32 a.num.toNat] 25)).alloc (.cells #[.int .u8 b.node.toNat, .int .u32 b.boot.toNat, .int .u32 b.num.toNat] 25) = w1
  have hg : Gr w w1 := by rw [← hw1]; exact ((Gr.refl w).alloc _).alloc _
  have hb1 : w1.heap[w.heap.size]? = some (.cells #[.int .u8 a.node.toNat, .int .u32 a.boot.toNat, .int .u32 a.num.toNat] 25) := by rw [← hw1]; exact hpOld _ (hpNew _ _)
  have hb2 : w1.heap[w.heap.size + 1]? = some (.cells #[.int .u8 b.node.toNat, .int .u32 b.boot.toNat, .int .u32 b.num.toNat] 25) := by rw [← hw1]; have := hpNew (w.alloc (.cells #[.int .u8 a.node.toNat, .int .u32 a.boot.toNat, .int .u32 a.num.toNat] 25)) (.cells #[.int .u8 b.node.toNat, .int .u32 b.boot.toNat, .int .u32 b.num.toNat] 25); simpa using this
  clear hw1
  let S : World → Prop := fun w' => w'.heap[w.heap.size]? = w1.heap[w.heap.size]? ∧ w'.heap[w.heap.size + 1]? = w1.heap[w.heap.size + 1]?
  have hF : ∀ w', S w' → (w'.cell? ⟨w.heap.size, 0, none⟩ = some (.int .u8 a.node.toNat) ∧ w'.cell? ⟨w.heap.size, 1, none⟩ = some (.int .u32 a.boot.toNat) ∧ w'.cell? ⟨w.heap.size, 2, none⟩ = some (.int .u32 a.num.toNat)) ∧
      (w'.cell? ⟨w.heap.size + 1, 0, none⟩ = some (.int .u8 b.node.toNat) ∧ w'.cell? ⟨w.heap.size + 1, 1, none⟩ = some (.int .u32 b.boot.toNat) ∧ w'.cell? ⟨w.heap.size + 1, 2, none⟩ = some (.int .u32 b.num.toNat)) := fun w' ⟨h1, h2⟩ =>
    ⟨box3 (h1.trans hb1), box3 (h2.trans hb2)⟩
  refine wp_region_S 15 S (by kernel_rfl) (by kernel_rfl) ⟨rfl, rfl⟩ ?_
  simp only [List.take_succ_cons, List.take_zero, List.drop_succ_cons, List.drop_zero]
  iterate 4
    apply wpTake_plain rfl
    · intro w' hw'
      obtain ⟨⟨f1, f2, f3⟩, ⟨f4, f5, f6⟩⟩ := hF w' hw'
      go_simp
      first | done | exact rfl | exact ⟨rfl, rfl⟩
    go_frame
  apply wpTake_plain rfl
  · intro w' hw'
    go_simp
    exact h8 w'
  go_frame
  iterate 4
    apply wpTake_plain rfl
    · intro w' hw'
      obtain ⟨⟨f1, f2, f3⟩, ⟨f4, f5, f6⟩⟩ := hF w' hw'
      go_simp
      first | done | exact rfl | exact ⟨rfl, rfl⟩
    go_frame
  apply wpTake_plain rfl
  · intro w' hw'
    go_simp
    exact h1 w'
  go_frame
  iterate 4
    apply wpTake_plain rfl
    · intro w' hw'
      obtain ⟨⟨f1, f2, f3⟩, ⟨f4, f5, f6⟩⟩ := hF w' hw'
      go_simp
      first | done | exact rfl | exact ⟨rfl, rfl⟩
    go_frame
  apply wpTake_plain rfl
  · intro w' hw'
    go_simp
    exact h2 w'
  go_frame
  refine wpTake_nil ?_
  have hS1 : S (w1.alloc (.cells #[.int .i64 c0, .int .i64 c1, .int .i64 c2] 3)).drew := ⟨(hpOld _ hb1).trans hb1.symm, (hpOld _ hb2).trans hb2.symm⟩
  have hor := hor [c0, c1, c2] w1.heap.size (w1.alloc (.cells #[.int .i64 c0, .int .i64 c1, .int .i64 c2] 3)).drew (by simp) (by
    obtain ⟨g1, g2, g3⟩ := box3 (hpNew w1 (.cells #[.int .i64 c0, .int .i64 c1, .int .i64 c2] 3))
    intro i v hv
    match i, hv with
    | 0, hv => simp at hv; subst hv; exact g1
    | 1, hv => simp at hv; subst hv; exact g2
    | 2, hv => simp at hv; subst hv; exact g3) 3
  refine wpListH_plain rfl fun K hK => ?_
  go_simp
  refine hK _ _ hS1 ?_
  clear hK K
  try go_frame
  refine wpListH_plain rfl fun K hK => ?_
  go_simp
  refine hor.mono ?_
  rintro e w2 ⟨rfl, rfl⟩
  refine hK _ _ hS1 ?_
  clear hK K hor
  try go_frame
  refine wpListH_plain rfl fun K hK => ?_
  go_simp
  refine hK _ _ hS1 ?_
  clear hK K
  refine wpListH_nil ?_
  simp only [NoPan]
  go_wp2_with fail
  go_ret
  exact ⟨rfl, (hg.alloc _).drew⟩
theorem names_cmp (a b : Nm) (w : World) : Calls Try.prog 30 #[encN a, encN b] w fun e w' => e = .returned (.int .i64 (a.cmp b)) ∧ Gr w w' := by
  unfold Nm.cmp
  have h8 := fun w' => cmp8' a.kind.toNat b.kind.toNat w'
  have ht := fun w' => txs_cmp a.tx b.tx w'
  have hor := fun (vs : List Int) (b : Nat) (w : World) => or_at b vs w
  generalize cmpN a.kind.toNat b.kind.toNat = c0 at *
  generalize a.tx.cmp b.tx = c1 at *
  simp only [encN, encT] at *
  generalize hA : (#[.int .u8 a.kind.toNat, .int .u8 a.tx.node.toNat, .int .u32 a.tx.boot.toNat, .int .u32 a.tx.num.toNat] : Array Value) = A
  generalize hB : (#[.int .u8 b.kind.toNat, .int .u8 b.tx.node.toNat, .int .u32 b.tx.boot.toNat, .int .u32 b.tx.num.toNat] : Array Value) = B
  go_enter Try.func30, Try.ntmps30
  go_wp2_with fail
  generalize hw1 : (w.alloc (.cells A 38)).alloc (.cells B 38) = w1
  have hg : Gr w w1 := by rw [← hw1]; exact ((Gr.refl w).alloc _).alloc _
  have hb1 : w1.heap[w.heap.size]? = some (.cells A 38) := by rw [← hw1]; exact hpOld _ (hpNew _ _)
  have hb2 : w1.heap[w.heap.size + 1]? = some (.cells B 38) := by rw [← hw1]; have := hpNew (w.alloc (.cells A 38)) (.cells B 38); simpa using this
  subst hA hB
  clear hw1
  have hF : ∀ w', Gr w1 w' → (w'.cell? ⟨w.heap.size, 0, none⟩ = some (.int .u8 a.kind.toNat) ∧ w'.cell? ⟨w.heap.size, 1, none⟩ = some (.int .u8 a.tx.node.toNat) ∧ w'.cell? ⟨w.heap.size, 2, none⟩ = some (.int .u32 a.tx.boot.toNat) ∧ w'.cell? ⟨w.heap.size, 3, none⟩ = some (.int .u32 a.tx.num.toNat)) ∧
      (w'.cell? ⟨w.heap.size + 1, 0, none⟩ = some (.int .u8 b.kind.toNat) ∧ w'.cell? ⟨w.heap.size + 1, 1, none⟩ = some (.int .u8 b.tx.node.toNat) ∧ w'.cell? ⟨w.heap.size + 1, 2, none⟩ = some (.int .u32 b.tx.boot.toNat) ∧ w'.cell? ⟨w.heap.size + 1, 3, none⟩ = some (.int .u32 b.tx.num.toNat)) := fun w' h =>
    ⟨box4 (h.keep hb1), box4 (h.keep hb2)⟩
  refine wp_region_head_tail 10 (Gr w1) (by kernel_rfl) (by kernel_rfl) (Gr.refl w1).drew ?_
  simp only [List.take_succ_cons, List.take_zero, List.drop_succ_cons, List.drop_zero]
  iterate 4
    apply wpQuiet_plain rfl
    · intro w' hw'
      obtain ⟨⟨f1, f2, f3, f4⟩, ⟨g1, g2, g3, g4⟩⟩ := hF w' hw'
      go_simp
      first | done | exact rfl | exact ⟨rfl, rfl⟩
    go_frame
  apply wpQuiet_plain rfl
  · intro w' hw'
    go_simp
    exact (h8 w').mono fun e w'' h => ⟨h.1, h.2 ▸ hw'⟩
  go_frame
  iterate 4
    apply wpQuiet_plain rfl
    · intro w' hw'
      obtain ⟨⟨f1, f2, f3, f4⟩, ⟨g1, g2, g3, g4⟩⟩ := hF w' hw'
      go_simp
      first | done | exact rfl | exact ⟨rfl, rfl⟩
    go_frame
  apply wpQuiet_plain rfl
  · intro w' hw'
    go_simp
    exact (ht w').mono fun e w'' h => ⟨h.1, hw'.trans h.2⟩
  go_frame
  refine wpQuiet_nil ?_
  intro w2 hw2
  clear hF
  have hor := hor [c0, c1] w2.heap.size (w2.alloc (.cells #[.int .i64 c0, .int .i64 c1] 3)) (by simp) (by
    obtain ⟨g1, g2⟩ := box2 (hpNew w2 (.cells #[.int .i64 c0, .int .i64 c1] 3))
    intro i v hv
    match i, hv with
    | 0, hv => simp at hv; subst hv; exact g1
    | 1, hv => simp at hv; subst hv; exact g2) 2
  go_wp2_with (go_at_call 36; refine hor.mono ?_; rintro e w3 ⟨rfl, rfl⟩)
  go_ret
  exact ⟨rfl, (hg.trans hw2).alloc _⟩
end Go.Proofs.Ytkalckpfepanaaa

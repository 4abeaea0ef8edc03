/- The order of names is whole; slices.SortFunc over names. -/
import Derived.Test.YtkalckpfepanaaaCmp
import Derived.Test.YtkalckpfepanaaaShelf
import Derived.Test.YtkalckpfepanaaaSortRow
namespace Go.Proofs.Ytkalckpfepanaaa
set_option linter.unusedVariables false
set_option linter.unusedSimpArgs false
set_option linter.unusedSectionVars false
open Go.My Go.RowKit Go.ChangeMaps Go.Lib Go.Sort

instance : Inhabited Nm := ⟨⟨0, ⟨0, 0, 0⟩⟩⟩

theorem cmpN_neg (x y : Nat) : cmpN x y < 0 ↔ x < y := by unfold cmpN; split <;> (try split) <;> omega
theorem cmpN_zero (x y : Nat) : cmpN x y = 0 ↔ x = y := by unfold cmpN; split <;> (try split) <;> omega
theorem orL_cons_neg (v : Int) (l : List Int) : orL (v :: l) < 0 ↔ v < 0 ∨ (v = 0 ∧ orL l < 0) := by
  show (if v ≠ 0 then v else orL l) < 0 ↔ _
  split <;> omega
theorem orL_cons_zero (v : Int) (l : List Int) : orL (v :: l) = 0 ↔ v = 0 ∧ orL l = 0 := by
  show (if v ≠ 0 then v else orL l) = 0 ↔ _
  split <;> omega
theorem orL_nil : orL [] = 0 := rfl

def Nm.lt (a b : Nm) : Prop := a.kind.toNat < b.kind.toNat ∨ (a.kind.toNat = b.kind.toNat ∧ (a.tx.node.toNat < b.tx.node.toNat ∨ (a.tx.node.toNat = b.tx.node.toNat ∧
  (a.tx.boot.toNat < b.tx.boot.toNat ∨ (a.tx.boot.toNat = b.tx.boot.toNat ∧ a.tx.num.toNat < b.tx.num.toNat)))))
theorem Nm.cmp_neg (a b : Nm) : a.cmp b < 0 ↔ a.lt b := by
  unfold Nm.cmp Tx.cmp Nm.lt
  simp only [orL_cons_neg, orL_nil, cmpN_neg, cmpN_zero]
  omega
theorem Nm.ext_nat {a b : Nm} (h0 : a.kind.toNat = b.kind.toNat) (h1 : a.tx.node.toNat = b.tx.node.toNat) (h2 : a.tx.boot.toNat = b.tx.boot.toNat) (h3 : a.tx.num.toNat = b.tx.num.toNat) : a = b := by
  obtain ⟨ak, ⟨an, ab, au⟩⟩ := a
  obtain ⟨bk, ⟨bn, bb, bu⟩⟩ := b
  simp only at h0 h1 h2 h3
  rw [UInt8.toNat_inj] at h0 h1
  rw [UInt32.toNat_inj] at h2 h3
  subst h0 h1 h2 h3
  rfl
theorem Nm.lt_total (a b : Nm) (h1 : ¬ a.lt b) (h2 : ¬ b.lt a) : a = b := by
  unfold Nm.lt at h1 h2
  exact Nm.ext_nat (by omega) (by omega) (by omega) (by omega)

theorem ltNm (a b : Nm) : ltOf Nm.cmp a b = true ↔ a.lt b := by
  unfold ltOf; rw [decide_eq_true_eq, Nm.cmp_neg]
theorem ltNm_false (a b : Nm) : ltOf Nm.cmp a b = false ↔ ¬ a.lt b := by
  rw [← ltNm]; simp
theorem swoNm : SWO (ltOf Nm.cmp) where
  irrefl x := by rw [ltNm_false]; unfold Nm.lt; omega
  trans x y z h1 h2 := by rw [ltNm] at *; unfold Nm.lt at *; omega
  ntrans x y z h1 h2 := by rw [ltNm_false] at *; unfold Nm.lt at *; omega
theorem totNm (x y : Nm) (h1 : ltOf Nm.cmp x y = false) (h2 : ltOf Nm.cmp y x = false) : x = y := by
  rw [ltNm_false] at *; exact Nm.lt_total x y h1 h2

def flN (n : Nm) : List Value := [.int .u8 n.kind.toNat, .int .u8 n.tx.node.toNat, .int .u32 n.tx.boot.toNat, .int .u32 n.tx.num.toNat]
theorem flN_len (n : Nm) : (flN n).length = 4 := rfl
theorem flN_one (n : Nm) : ∀ v ∈ flN n, v.oneCell' = true := by
  intro v hv
  simp [flN] at hv
  rcases hv with rfl | rfl | rfl | rfl <;> rfl
theorem enters30 : ∀ args w, (callFunc 30 args).run Try.prog w = .ok (.enter 30 args) w := enters_of Try.func30 (by kernel_rfl) rfl

def sortNm (l : List Nm) : List Nm := l.mergeSort fun x y => !(ltOf Nm.cmp) y x

def leNm (x y : Nm) : Bool := !(ltOf Nm.cmp) y x
theorem leNm_iff (x y : Nm) : leNm x y = true ↔ ¬ y.lt x := by
  unfold leNm; rw [Bool.not_eq_true', ltNm_false]
theorem sortNm_sorted (l : List Nm) : (sortNm l).Pairwise (fun a b => leNm a b = true) := by
  refine List.pairwise_mergeSort (le := leNm) (fun a b c h1 h2 => ?_) (fun a b => ?_) l
  · rw [leNm_iff] at *; unfold Nm.lt at *; omega
  · rw [Bool.or_eq_true, leNm_iff, leNm_iff]; unfold Nm.lt; omega
theorem sortNm_mem (l : List Nm) (x : Nm) : x ∈ sortNm l ↔ x ∈ l := (List.mergeSort_perm l leNm).mem_iff
theorem sortNm_perm {l l' : List Nm} (h : l.Perm l') : sortNm l = sortNm l' := by
  refine List.Perm.eq_of_pairwise (le := fun a b => leNm a b = true) (fun a b _ _ h1 h2 => ?_) (sortNm_sorted l) (sortNm_sorted l') ?_
  · rw [leNm_iff] at *; exact Nm.lt_total _ _ h2 h1
  · exact (List.mergeSort_perm l leNm).trans (h.trans (List.mergeSort_perm l' leNm).symm)

theorem sort_names {w : World} {g : Nat} {cur : Array Value} {l : List Nm} (cap : Nat) (hb : w.heap[g]? = some (.cells cur 38 (0, 0))) (ht : cur.toList.take (l.length * 4) = l.flatMap flN) (hsz : l.length * 4 ≤ cur.size) (hlen : l.length < 4611686018427387904) :
    Calls Try.prog 29 #[.slice (some ⟨g, 0, none⟩) l.length cap, .func (.func 30) #[] #[]] w fun e w' => e = .returned (.tuple #[]) ∧ Upd (· = g) w w' ∧
      ∃ cur', w'.heap[g]? = some (.cells cur' 38 (0, 0)) ∧ cur'.size = cur.size ∧ cur'.toList.take (l.length * 4) = (sortNm l).flatMap flN :=
  sort_row flN 4 flN_len Try.sortN (by omega) Try.isAgg38 Try.sizeOf38 flN_one Nm.cmp swoNm totNm 30 #[] enters30 cap hb ht hsz hlen (fun w' _ x y => names_cmp x y w')
theorem sort_none (p : Option Addr) (cap : Nat) (fv : Value) (w : World) : Calls Try.prog 29 #[.slice p 0 cap, fv] w fun e w' => e = .returned (.tuple #[]) ∧ w' = w :=
  AnyF.slices_SortFunc_none Try.sortN p cap fv w
end Go.Proofs.Ytkalckpfepanaaa

/- The clock: Next. -/
import Derived.Test.YtkalckpfepanaaaKeys
import Derived.Test.YtkalckpfepanaaaNob
import Derived.Test.YtkalckpfepanaaaSliceAt
namespace Go.Proofs.Ytkalckpfepanaaa
set_option linter.unusedVariables false
set_option linter.unusedSimpArgs false
set_option linter.unusedSectionVars false
open Go.My Go.RowKit Go.ChangeMaps Go.Lib Go.Sort
set_option maxHeartbeats 400000
set_option maxRecDepth 100000

def timeOf (l : List (Nm × Nat)) (n : Nm) : Nat := (get l n).getD 0
def tcmp (l : List (Nm × Nat)) (a b : Nm) : Int := orL [cmpN (timeOf l a) (timeOf l b), a.cmp b]
def tlt (l : List (Nm × Nat)) (a b : Nm) : Prop := timeOf l a < timeOf l b ∨ (timeOf l a = timeOf l b ∧ a.lt b)
theorem tlt_total {l : List (Nm × Nat)} {x y : Nm} (h1 : ¬ tlt l x y) (h2 : ¬ tlt l y x) : x = y := by
  have a1 : ¬ timeOf l x < timeOf l y := fun k => h1 (.inl k)
  have a2 : ¬ timeOf l y < timeOf l x := fun k => h2 (.inl k)
  exact Nm.lt_total x y (fun k => h1 (.inr ⟨by omega, k⟩)) (fun k => h2 (.inr ⟨by omega, k⟩))
theorem tcmp_neg (l : List (Nm × Nat)) (a b : Nm) : tcmp l a b < 0 ↔ tlt l a b := by
  unfold tcmp tlt
  simp only [orL_cons_neg, orL_nil, cmpN_neg, cmpN_zero, Nm.cmp_neg, Int.lt_irrefl, and_false, or_false]
theorem ltT (l : List (Nm × Nat)) (a b : Nm) : ltOf (tcmp l) a b = true ↔ tlt l a b := by
  unfold ltOf; rw [decide_eq_true_eq, tcmp_neg]
theorem ltT_false (l : List (Nm × Nat)) (a b : Nm) : ltOf (tcmp l) a b = false ↔ ¬ tlt l a b := by
  rw [← ltT]; simp
theorem swoT (l : List (Nm × Nat)) : SWO (ltOf (tcmp l)) where
  irrefl x := by rw [ltT_false]; unfold tlt Nm.lt; omega
  trans x y z h1 h2 := by rw [ltT] at *; unfold tlt Nm.lt at *; omega
  ntrans x y z h1 h2 := by rw [ltT_false] at *; unfold tlt Nm.lt at *; omega
theorem totT (l : List (Nm × Nat)) (x y : Nm) (h1 : ltOf (tcmp l) x y = false) (h2 : ltOf (tcmp l) y x = false) : x = y := by
  rw [ltT_false] at *
  exact tlt_total h1 h2
def sortT (l : List (Nm × Nat)) (xs : List Nm) : List Nm := xs.mergeSort fun x y => !(ltOf (tcmp l)) y x
def leT (l : List (Nm × Nat)) (x y : Nm) : Bool := !(ltOf (tcmp l)) y x
theorem leT_iff (l : List (Nm × Nat)) (x y : Nm) : leT l x y = true ↔ ¬ tlt l y x := by
  unfold leT; rw [Bool.not_eq_true', ltT_false]
theorem sortT_sorted (l : List (Nm × Nat)) (xs : List Nm) : (sortT l xs).Pairwise (fun a b => leT l a b = true) := by
  refine List.pairwise_mergeSort (le := leT l) (fun a b c h1 h2 => ?_) (fun a b => ?_) xs
  · rw [leT_iff] at *; unfold tlt Nm.lt at *; omega
  · rw [Bool.or_eq_true, leT_iff, leT_iff]; unfold tlt Nm.lt; omega
theorem sortT_perm_self (l : List (Nm × Nat)) (xs : List Nm) : (sortT l xs).Perm xs := List.mergeSort_perm xs (leT l)
theorem sortT_perm (l : List (Nm × Nat)) {xs ys : List Nm} (h : xs.Perm ys) : sortT l xs = sortT l ys := by
  refine List.Perm.eq_of_pairwise (le := fun a b => leT l a b = true) (fun a b _ _ h1 h2 => ?_) (sortT_sorted l xs) (sortT_sorted l ys) ?_
  · rw [leT_iff] at *; exact tlt_total h2 h1
  · exact (sortT_perm_self l xs).trans (h.trans (sortT_perm_self l ys).symm)
/-- the names in the order in which they ring -/
def Clk.order (s : Clk) : List Nm := sortT s.at_ (s.at_.map (·.1))

theorem time_cmp (l : List (Nm × Nat)) (a b : Nm) (B c A : Nat) (w : World) (hB : w.cell? ⟨B, 0, none⟩ = some (.pointer (some ⟨c, 0, none⟩))) (hc : w.cell? ⟨c, 1, none⟩ = some (.map (some A))) (hm : MapOf Try.prog 38 encN encU w A l) :
    Calls Try.prog 35 #[encN a, encN b, .pointer (some ⟨B, 0, none⟩)] w fun e w' => e = .returned (.int .i64 (tcmp l a b)) ∧ Gr w w' := by
  unfold tcmp
  have hBl := cell_lt hB
  have hcl := cell_lt hc
  have hn := fun w' => names_cmp a b w'
  have h32 := fun w' => cmp32' (timeOf l a) (timeOf l b) w'
  have hla := fun w' (hw : Gr w w') => (hm.upd hw.upd (fun k => k)).lookup key38 Try.underlying66 (zero23 _) a false
  have hlb := fun w' (hw : Gr w w') => (hm.upd hw.upd (fun k => k)).lookup key38 Try.underlying66 (zero23 _) b false
  have hza : ((Option.map encU (get l a)).getD (encU 0)) = encU (timeOf l a) := by unfold timeOf; cases get l a <;> rfl
  have hzb : ((Option.map encU (get l b)).getD (encU 0)) = encU (timeOf l b) := by unfold timeOf; cases get l b <;> rfl
  rw [hza] at hla
  rw [hzb] at hlb
  simp only [Bool.false_eq_true, if_false] at hla hlb
  have hor := fun (vs : List Int) (b : Nat) (w : World) => or_at b vs w
  clear hza hzb hm
  generalize timeOf l a = ta at *
  generalize timeOf l b = tb at *
  generalize cmpN ta tb = c0 at *
  generalize a.cmp b = c1 at *
  simp only [encN, encU] at *
  generalize hA : (#[.int .u8 a.kind.toNat, .int .u8 a.tx.node.toNat, .int .u32 a.tx.boot.toNat, .int .u32 a.tx.num.toNat] : Array Value) = Ar
  generalize hBr : (#[.int .u8 b.kind.toNat, .int .u8 b.tx.node.toNat, .int .u32 b.tx.boot.toNat, .int .u32 b.tx.num.toNat] : Array Value) = Br
  go_enter Try.func35, Try.ntmps35
  go_wp2_with fail
  generalize hw1 : (w.alloc (.cells Ar 38)).alloc (.cells Br 38) = w1
  have hg : Gr w w1 := by rw [← hw1]; exact ((Gr.refl w).alloc _).alloc _
  have hb1 : w1.heap[w.heap.size]? = some (.cells Ar 38) := by rw [← hw1]; exact hpOld _ (hpNew _ _)
  have hb2 : w1.heap[w.heap.size + 1]? = some (.cells Br 38) := by rw [← hw1]; have := hpNew (w.alloc (.cells Ar 38)) (.cells Br 38); simpa using this
  subst hA hBr
  clear hw1
  have hF : ∀ w', Gr w1 w' → (w'.cell? ⟨w.heap.size, 0, none⟩ = some (.int .u8 a.kind.toNat) ∧ w'.cell? ⟨w.heap.size, 1, none⟩ = some (.int .u8 a.tx.node.toNat) ∧ w'.cell? ⟨w.heap.size, 2, none⟩ = some (.int .u32 a.tx.boot.toNat) ∧ w'.cell? ⟨w.heap.size, 3, none⟩ = some (.int .u32 a.tx.num.toNat)) ∧
      (w'.cell? ⟨w.heap.size + 1, 0, none⟩ = some (.int .u8 b.kind.toNat) ∧ w'.cell? ⟨w.heap.size + 1, 1, none⟩ = some (.int .u8 b.tx.node.toNat) ∧ w'.cell? ⟨w.heap.size + 1, 2, none⟩ = some (.int .u32 b.tx.boot.toNat) ∧ w'.cell? ⟨w.heap.size + 1, 3, none⟩ = some (.int .u32 b.tx.num.toNat)) ∧
      w'.cell? ⟨B, 0, none⟩ = some (.pointer (some ⟨c, 0, none⟩)) ∧ w'.cell? ⟨c, 1, none⟩ = some (.map (some A)) ∧ _ ∧ _ := fun w' h =>
    ⟨box4 (h.keep hb1), box4 (h.keep hb2), ((hg.trans h).upd.cell hBl (fun k => k)).trans hB, ((hg.trans h).upd.cell hcl (fun k => k)).trans hc, hla w' (hg.trans h), hlb w' (hg.trans h)⟩
  refine wp_region_head_tail 16 (Gr w1) (by kernel_rfl) (by kernel_rfl) (Gr.refl w1).drew ?_
  simp only [List.take_succ_cons, List.take_zero, List.drop_succ_cons, List.drop_zero]
  iterate 12
    apply wpQuiet_plain rfl
    · intro w' hw'
      obtain ⟨⟨f1, f2, f3, f4⟩, ⟨g1, g2, g3, g4⟩, p1, p2, la, lb⟩ := hF w' hw'
      go_simp
      first | done | exact rfl | exact ⟨rfl, rfl⟩
    go_frame
  apply wpQuiet_plain rfl
  · intro w' hw'
    go_simp
    exact (h32 w').mono fun e w'' h => ⟨h.1, h.2 ▸ hw'⟩
  go_frame
  iterate 2
    apply wpQuiet_plain rfl
    · intro w' hw'
      obtain ⟨⟨f1, f2, f3, f4⟩, ⟨g1, g2, g3, g4⟩, p1, p2, la, lb⟩ := hF w' hw'
      go_simp
      first | done | exact rfl | exact ⟨rfl, rfl⟩
    go_frame
  apply wpQuiet_plain rfl
  · intro w' hw'
    go_simp
    exact (hn w').mono fun e w'' h => ⟨h.1, hw'.trans h.2⟩
  go_frame
  refine wpQuiet_nil ?_
  intro w2 hw2
  clear hF
  have hor := hor [c0, c1] w2.heap.size (w2.alloc (.cells #[.int .i64 c0, .int .i64 c1] 3)) (by simp) (by
    obtain ⟨g1, g2⟩ := box2 (hpNew w2 (.cells #[.int .i64 c0, .int .i64 c1] 3))
    intro i v hv
    match i, hv with
    | 0, hv => simp at hv; subst hv; exact g1
    | 1, hv => simp at hv; subst hv; exact g2) 2
  clear hla hlb
  go_wp2_with (go_at_call 36; refine hor.mono ?_; rintro e w3 ⟨rfl, rfl⟩)
  go_ret
  exact ⟨rfl, (hg.trans hw2).alloc _⟩

theorem append_calls (Bm A : Nat) (l : List (Nm × Nat)) (hl : l.length ≤ 1024) (w : World) (hBm : Bm < w.heap.size) (hm : w.cell? ⟨Bm, 0, none⟩ = some (.map (some A))) (hown : MapOf Try.prog 38 encN encU w A l) :
    Calls Try.prog 59 #[.slice none 0 0, .func (.func 44) #[] #[.pointer (some ⟨Bm, 0, none⟩)]] w fun e w' => ∃ (v : Value) (xs : List Nm), e = .returned v ∧ xs.Perm (l.map (·.1)) ∧ w'.ownsRow w.heap.size 38 4 v xs.length (xs.flatMap flN) ∧ Upd Nil w w' :=
  (callsIn_wide.1 (append_in Fence.wide 3 trivial trivial rfl (by omega) Bm A l hl w hBm hm hown)).mono fun e w' ⟨v, xs, h1, h2, h3, h4⟩ => ⟨v, xs, h1, h2, h3, Upd.of_below h4⟩
theorem keys_calls (A : Nat) (w : World) : Calls Try.prog 34 #[.map (some A)] w fun e w' => e = .returned (.func (.func 44) #[] #[.pointer (some ⟨w.heap.size, 0, none⟩)]) ∧ w' = w.alloc (.cells #[.map (some A)] 66) :=
  callsIn_wide.1 (keys_in Fence.wide 3 trivial rfl A w)
theorem collect_calls (Bm A : Nat) (l : List (Nm × Nat)) (hl : l.length ≤ 1024) (w : World) (hBm : Bm < w.heap.size) (hm : w.cell? ⟨Bm, 0, none⟩ = some (.map (some A))) (hown : MapOf Try.prog 38 encN encU w A l) :
    Calls Try.prog 43 #[.func (.func 44) #[] #[.pointer (some ⟨Bm, 0, none⟩)]] w fun e w' => ∃ (v : Value) (xs : List Nm), e = .returned v ∧ xs.Perm (l.map (·.1)) ∧ w'.ownsRow w.heap.size 38 4 v xs.length (xs.flatMap flN) ∧ Upd Nil w w' := by
  have ha := append_calls Bm A l hl w hBm hm hown
  clear hm hown
  go_enter Try.func43, Try.ntmps43
  go_wp2_with fail
  refine ha.mono ?_
  rintro e w' ⟨v, xs, rfl, h2, h3, h4⟩
  have H := Lib.hid (And.intro h2 (And.intro h3 h4))
  clear ha h2 h3 h4
  go_wp2_with fail
  go_ret
  exact ⟨v, xs, rfl, H.out⟩
theorem enters35 : ∀ args w, (callFunc 35 args).run Try.prog w = .ok (.enter 35 args) w := enters_of Try.func35 (by kernel_rfl) rfl

theorem sort_time (l : List (Nm × Nat)) (B c A base : Nat) {w1 : World} {v : Value} {xs : List Nm} (h : w1.ownsRow base 38 4 v xs.length (xs.flatMap flN)) (hlen : xs.length ≤ 1024)
    (hown : MapOf Try.prog 38 encN encU w1 A l) (hB : w1.cell? ⟨B, 0, none⟩ = some (.pointer (some ⟨c, 0, none⟩))) (hc : w1.cell? ⟨c, 1, none⟩ = some (.map (some A))) (hBl : B < base) (hcl : c < base) (hAl : A < base) :
    Calls Try.prog 29 #[v, .func (.func 35) #[] #[.pointer (some ⟨B, 0, none⟩)]] w1 fun e w' => e = .returned (.tuple #[]) ∧ Upd (fun i => v.ownBlock = some i) w1 w' ∧ w'.ownsRow base 38 4 v (sortT l xs).length ((sortT l xs).flatMap flN) := by
  obtain ⟨h1, h2⟩ := h
  have hlen2 : (sortT l xs).length = xs.length := List.length_mergeSort _
  rcases h2 with ⟨rfl, h0⟩ | ⟨g, cap, cur, rfl, hg, hh, hn, hcp, hsz, htk⟩
  · refine (sort_none none 0 _ w1).mono ?_
    rintro e w' ⟨rfl, rfl⟩
    refine ⟨rfl, Upd.refl _ _, ?_, .inl ⟨rfl, by omega⟩⟩
    rw [length_flat flN 4 flN_len]
  · have hs := sort_row flN 4 flN_len Try.sortN (by omega) Try.isAgg38 Try.sizeOf38 flN_one (tcmp l) (swoT l) (totT l) 35 #[.pointer (some ⟨B, 0, none⟩)] enters35 cap hh htk (by rw [hsz]; exact Nat.mul_le_mul_right _ hn) (by omega) (fun w' hu x y => by
      have := time_cmp l x y B c A w' ((hu.cell (cell_lt hB) (fun e => by have e : B = g := e; omega)).trans hB) ((hu.cell (cell_lt hc) (fun e => by have e : c = g := e; omega)).trans hc) (hown.upd hu (fun e => by have e : A = g := e; omega))
      exact this)
    refine hs.mono ?_
    rintro e w' ⟨rfl, hu, cur', hb', hs', ht'⟩
    refine ⟨rfl, hu.mono (fun i _ e => by subst e; rfl), ?_, .inr ⟨g, cap, cur', by rw [hlen2], hg, hb', by omega, hcp, by rw [hs', hsz], ?_⟩⟩
    · rw [length_flat flN 4 flN_len]
    · rw [hlen2]; exact ht'

theorem sorted_calls (Bm B c A : Nat) (l : List (Nm × Nat)) (hl : l.length ≤ 1024) (w : World) (hm : w.cell? ⟨Bm, 0, none⟩ = some (.map (some A))) (hown : MapOf Try.prog 38 encN encU w A l)
    (hB : w.cell? ⟨B, 0, none⟩ = some (.pointer (some ⟨c, 0, none⟩))) (hc : w.cell? ⟨c, 1, none⟩ = some (.map (some A))) :
    Calls Try.prog 33 #[.func (.func 44) #[] #[.pointer (some ⟨Bm, 0, none⟩)], .func (.func 35) #[] #[.pointer (some ⟨B, 0, none⟩)]] w fun e w' => ∃ v, e = .returned v ∧
      w'.ownsRow w.heap.size 38 4 v (sortT l (l.map (·.1))).length ((sortT l (l.map (·.1))).flatMap flN) ∧ Upd Nil w w' := by
  have hcl := collect_calls Bm A l hl w (cell_lt hm) hm hown
  have hst := fun (w1 : World) (hu : Upd Nil w w1) (v : Value) (xs : List Nm) (hrow : w1.ownsRow w.heap.size 38 4 v xs.length (xs.flatMap flN)) (hlen : xs.length ≤ 1024) =>
    sort_time l B c A w.heap.size hrow hlen (hown.upd hu (fun k => k)) ((hu.cell (cell_lt hB) (fun k => k)).trans hB) ((hu.cell (cell_lt hc) (fun k => k)).trans hc) (cell_lt hB) (cell_lt hc) hown.lt
  clear hm hown hB hc
  go_enter Try.func33, Try.ntmps33
  go_wp2_with fail
  refine hcl.mono ?_
  rintro e w1 ⟨v, xs, rfl, hp, hrow, hu⟩
  clear hcl
  have hs := hst w1 hu v xs hrow (by have := hp.length_eq; simp at this; omega)
  rw [sortT_perm l hp] at hs
  have hb := fun i hi => (ownsRow_block hrow (i := i) hi).1
  clear hst hp hrow
  go_wp2_with fail
  refine hs.mono ?_
  rintro e w2 ⟨rfl, hu2, hrow2⟩
  have hu2 := hu.then hu2 (fun i hi hlt => by have := hb i hi; omega)
  clear hs
  have H := Lib.hid (And.intro hrow2 hu2)
  clear hrow2 hu2
  go_wp2_with fail
  go_ret
  exact ⟨v, rfl, H.out⟩

theorem next_clk {w : World} {L : Lay} {s : Clk} (h : ClkIn w L s) :
    Calls Try.prog 24 #[L.ptr] w fun e w' => Upd Nil w w' ∧
      ((s.order = [] ∧ e = .returned (.tuple #[.agg #[.int .u8 0, .int .u8 0, .int .u32 0, .int .u32 0], .int .u32 0, .bool false])) ∨
       ∃ n r, s.order = n :: r ∧ e = .returned (.tuple #[encN n, .int .u32 (timeOf s.at_ n), .bool true])) := by
  have hol : s.order.length = s.at_.length := by unfold Clk.order; rw [(sortT_perm_self _ _).length_eq]; simp
  have hlen := fun w' (hu : Upd Nil w w') => len_clk (h.nil hu)
  by_cases h0 : s.at_.length = 0
  · have ho : s.order = [] := List.eq_nil_of_length_eq_zero (by omega)
    rw [h0] at hlen
    clear h hol
    go_enter Try.func24, Try.ntmps24
    go_wp2_with fail
    refine (hlen _ (((Upd.refl _ w).alloc _).alloc _)).mono ?_
    rintro e w3 ⟨rfl, rfl⟩
    clear hlen
    go_wp2_with fail
    exact bodyPost_ret (v := .tuple #[.agg #[.int .u8 0, .int .u8 0, .int .u32 0, .int .u32 0], .int .u32 0, .bool false]) (by simp [results, Try.results24, go_sem]) rfl ⟨((Upd.refl _ w).alloc _).alloc _, .inl ⟨ho, rfl⟩⟩
  · obtain ⟨n, r, ho⟩ : ∃ n r, s.order = n :: r := List.exists_cons_of_length_pos (by omega)
    have hd : ((s.at_.length : Int) == 0) = false := beq_eq_false_iff_ne.2 (by omega)
    have hb1 := fun w' (hu : Upd Nil ((w.alloc (.cells #[L.ptr] 28)).alloc (.cells #[.int .u8 0, .int .u8 0, .int .u32 0, .int .u32 0] 38)) w') => hu.keep (hpOld (.cells #[.int .u8 0, .int .u8 0, .int .u32 0, .int .u32 0] 38) (hpNew w (.cells #[L.ptr] 28))) (fun k => k)
    have hu0 : Upd Nil w ((w.alloc (.cells #[L.ptr] 28)).alloc (.cells #[.int .u8 0, .int .u8 0, .int .u32 0, .int .u32 0] 38)) := ((Upd.refl _ w).alloc _).alloc _
    have hc0 := h.nil hu0
    go_enter Try.func24, Try.ntmps24
    go_wp2_with fail
    refine (hlen _ hu0).mono ?_
    rintro e w3 ⟨rfl, rfl⟩
    clear hlen
    have hb := hb1 _ (Upd.refl _ _)
    have hbr := hpNew (w.alloc (.cells #[L.ptr] 28)) (.cells #[.int .u8 0, .int .u8 0, .int .u32 0, .int .u32 0] 38)
    rw [World.size_alloc] at hbr
    have hsz : ((w.alloc (.cells #[L.ptr] 28)).alloc (.cells #[.int .u8 0, .int .u8 0, .int .u32 0, .int .u32 0] 38)).heap.size = w.heap.size + 2 := by simp
    generalize (w.alloc _).alloc _ = w3 at *
    clear hb1
    have p1 := box1 hb
    have c1 := hc0.c1
    go_wp2_with fail
    have hk := keys_calls L.A w3
    refine hk.mono ?_
    rintro e w4 ⟨rfl, hw4⟩
    have hu4 : Upd Nil w3 w4 := by rw [hw4]; exact (Upd.refl _ _).alloc _
    have hbm : w4.heap[w3.heap.size]? = some (.cells #[.map (some L.A)] 66) := by rw [hw4]; exact hpNew _ _
    clear hk hw4 p1 c1
    have hc4 := hc0.nil hu4
    have hs := sorted_calls w3.heap.size w.heap.size L.c L.A s.at_ hc4.few w4 (box1 hbm) hc4.map (box1 (hu4.keep hb (fun k => k))) hc4.c1
    go_wp2_with fail
    rw [hsz] at hs
    refine hs.mono ?_
    rintro e w5 ⟨v, rfl, hrow, hu5⟩
    clear hs
    have hrow : w5.ownsRow w4.heap.size 38 4 v s.order.length (s.order.flatMap flN) := hrow
    obtain ⟨g, hg, hglt, hia, e0, e1, e2, e3⟩ := row_name hrow (k := 0) (by rw [ho]; simp)
    have hn0 : s.order[0]'(by rw [ho]; simp) = n := by simp [ho]
    rw [hn0] at e0 e1 e2 e3
    have hc5 := hc4.nil hu5
    have hu35 := hu4.trans hu5
    have hb5 := hu35.keep hb (fun k => k)
    have hbr5 := hu35.keep hbr (fun k => k)
    have hla := fun w' (hw : Upd (· = w.heap.size + 1) w5 w') => (hc5.map.upd hw (fun e => by have := h.lt L.A (.inr (.inl rfl)); omega)).lookup key38 Try.underlying66 (zero23 _) n false
    have hza : ((Option.map encU (get s.at_ n)).getD (encU 0)) = encU (timeOf s.at_ n) := by unfold timeOf; cases get s.at_ n <;> rfl
    rw [hza] at hla
    simp only [Bool.false_eq_true, if_false] at hla
    have hF : ∀ w', Upd (· = w.heap.size + 1) w5 w' → w'.cell? ⟨w.heap.size, 0, none⟩ = some L.ptr ∧ w'.cell? ⟨L.c, 1, none⟩ = some (.map (some L.A)) ∧
        (w'.cell? ⟨g, 0 * 4, none⟩ = some (.int .u8 n.kind.toNat) ∧ w'.cell? ⟨g, 0 * 4 + 1, none⟩ = some (.int .u8 n.tx.node.toNat) ∧ w'.cell? ⟨g, 0 * 4 + 2, none⟩ = some (.int .u32 n.tx.boot.toNat) ∧ w'.cell? ⟨g, 0 * 4 + 3, none⟩ = some (.int .u32 n.tx.num.toNat)) ∧ _ := fun w' hw =>
      ⟨(hw.cell (My.heap_lt hb5) (by show ¬ w.heap.size = _; omega)).trans (box1 hb5), (hw.cell (cell_lt hc5.c1) (fun e => by have := h.lt L.c (.inl rfl); have e : L.c = w.heap.size + 1 := e; omega)).trans hc5.c1,
        ⟨(hw.cell hglt (fun e => by have e : g = w.heap.size + 1 := e; have := hu4.size; omega)).trans e0, (hw.cell hglt (fun e => by have e : g = w.heap.size + 1 := e; have := hu4.size; omega)).trans e1,
          (hw.cell hglt (fun e => by have e : g = w.heap.size + 1 := e; have := hu4.size; omega)).trans e2, (hw.cell hglt (fun e => by have e : g = w.heap.size + 1 := e; have := hu4.size; omega)).trans e3⟩, hla w' hw⟩
    have hu05 := hu0.trans hu35
    have HO := Lib.hid ho
    clear hla hza e0 e1 e2 e3 hrow hc5 hc4 hc0 hb hbr hb5 hu35 hu4 hu5 hu0 hn0 h ho hol h0 hbm hd
    obtain ⟨tm, htm⟩ : ∃ tm, timeOf s.at_ n = tm := ⟨_, rfl⟩
    rw [htm] at hF
    have htm := Lib.hid htm
    simp only [encN, encU, Nat.zero_mul, Nat.zero_add] at hF hia
    have hia : ∀ w', (Instr.indexAt 33 v (.int .i64 0)).run Try.prog w' = .ok (.pointer (some ⟨g, 0, none⟩)) w' := hia
    go_wp2_with fail
    refine wp_region_S 11 (fun w' => Upd (· = w.heap.size + 1) w5 w') (by kernel_rfl) (by kernel_rfl) (Upd.refl _ _).drew ?_
    simp only [List.take_succ_cons, List.take_zero, List.drop_succ_cons, List.drop_zero]
    iterate 11
      apply wpTake_plain rfl
      · intro w' hw'
        obtain ⟨f1, f2, ⟨f3, f4, f5, f6⟩, f7⟩ := hF w' hw'
        have f8 := hia w'
        go_simp
        first | done | exact rfl | exact ⟨rfl, rfl⟩
      go_frame
    refine wpTake_nil ?_
    have hfz := My.frozen_of_heap hbr5
    have z0 := hfz 0
    have z1 := hfz 1
    have z2 := hfz 2
    have z3 := hfz 3
    obtain ⟨r0, r1, r2, r3⟩ := box4 hbr5
    refine wpListH_plain rfl fun K hK => ?_
    go_simp
    have hb6 := My.hpSetSame (My.hpSetSame (My.hpSetSame (My.hpSetSame hbr5 0 (.int .u8 n.kind.toNat)) 1 (.int .u8 n.tx.node.toNat)) 2 (.int .u32 n.tx.boot.toNat)) 3 (.int .u32 n.tx.num.toNat)
    have hS6 : Upd (· = w.heap.size + 1) w5 ((((w5.setCell ⟨w.heap.size + 1, 0, none⟩ (.int .u8 n.kind.toNat)).setCell ⟨w.heap.size + 1, 1, none⟩ (.int .u8 n.tx.node.toNat)).setCell ⟨w.heap.size + 1, 2, none⟩ (.int .u32 n.tx.boot.toNat)).setCell ⟨w.heap.size + 1, 3, none⟩ (.int .u32 n.tx.num.toNat)).drew :=
      (((((Upd.refl (· = w.heap.size + 1) w5).setCell (p := ⟨w.heap.size + 1, 0, none⟩) (fun _ => rfl) (.int .u8 n.kind.toNat)).setCell (p := ⟨w.heap.size + 1, 1, none⟩) (fun _ => rfl) (.int .u8 n.tx.node.toNat)).setCell (p := ⟨w.heap.size + 1, 2, none⟩) (fun _ => rfl) (.int .u32 n.tx.boot.toNat)).setCell (p := ⟨w.heap.size + 1, 3, none⟩) (fun _ => rfl) (.int .u32 n.tx.num.toNat)).drew
    have hb6 : ((((w5.setCell ⟨w.heap.size + 1, 0, none⟩ (.int .u8 n.kind.toNat)).setCell ⟨w.heap.size + 1, 1, none⟩ (.int .u8 n.tx.node.toNat)).setCell ⟨w.heap.size + 1, 2, none⟩ (.int .u32 n.tx.boot.toNat)).setCell ⟨w.heap.size + 1, 3, none⟩ (.int .u32 n.tx.num.toNat)).drew.heap[w.heap.size + 1]? = some (.cells #[.int .u8 n.kind.toNat, .int .u8 n.tx.node.toNat, .int .u32 n.tx.boot.toNat, .int .u32 n.tx.num.toNat] 38) := hb6
    generalize World.drew _ = w6 at *
    clear z0 z1 z2 z3 hfz r0 r1 r2 r3
    refine hK _ _ hS6 ?_
    clear hK K
    try go_frame
    iterate 2
      refine wpListH_plain rfl fun K hK => ?_
      go_simp
      refine hK _ _ hS6 ?_
      clear hK K
      try go_frame
    refine wpListH_nil ?_
    simp only [NoPan]
    obtain ⟨r0, r1, r2, r3⟩ := box4 hb6
    go_wp2_with fail
    have hu6 : Upd Nil w w6 := hu05.then hS6 (fun i hi hlt => by omega)
    exact bodyPost_ret (v := .tuple #[.agg #[.int .u8 n.kind.toNat, .int .u8 n.tx.node.toNat, .int .u32 n.tx.boot.toNat, .int .u32 n.tx.num.toNat], .int .u32 tm, .bool true]) (by simp [results, Try.results24, go_sem, r0, r1, r2, r3]) rfl ⟨hu6, .inr ⟨n, r, HO.out, by rw [htm.out]; rfl⟩⟩
end Go.Proofs.Ytkalckpfepanaaa

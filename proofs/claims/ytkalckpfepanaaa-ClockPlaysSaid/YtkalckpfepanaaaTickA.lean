/- The clock: Tick. -/
import Derived.Test.YtkalckpfepanaaaClkB
import Derived.Test.YtkalckpfepanaaaOrder
import Derived.Deep.LoopGhost
namespace Go.Proofs.Ytkalckpfepanaaa
set_option linter.unusedVariables false
set_option linter.unusedSimpArgs false
set_option linter.unusedSectionVars false
open Go.My Go.RowKit Go.ChangeMaps Go.Lib Go.Sort
set_option maxHeartbeats 400000
set_option maxRecDepth 100000

theorem next27 (n : Nat) (w : World) (h : (n : Int) < 2147483647) : Calls Try.prog 27 #[.int .u32 n] w fun e w' => e = .returned (.tuple #[.int .u32 (n + 1 : Nat), .int .i64 0]) ∧ w = w' := by
  have hd : decide (2147483647 ≤ (n : Int)) = false := by simp; omega
  go_enter Try.func27, Try.ntmps27
  go_wp2
  go_ret2
  exact ⟨rfl, rfl⟩
theorem next27_max (n : Nat) (w : World) (h : 2147483647 ≤ (n : Int)) : Calls Try.prog 27 #[.int .u32 n] w fun e w' => e = .returned (.tuple #[.int .u32 n, .int .i64 17]) ∧ w = w' := by
  go_enter Try.func27, Try.ntmps27
  go_wp2
  go_ret2
  exact ⟨rfl, rfl⟩

theorem tick_max {w : World} {L : Lay} {s : Clk} (h : ClkIn w L s) (hm : 2147483647 ≤ s.now) :
    Calls Try.prog 10 #[L.ptr] w fun e w' => e = .returned (.tuple #[.slice none 0 0, .int .i64 17]) ∧ w = w' := by
  have h0 := h.c0
  have hok := ok_clk h
  have hn := next27_max s.now w (by omega)
  clear h
  go_enter Try.func10, Try.ntmps10
  go_wp2_with (first | (go_at_call 26; refine hok.mono ?_; rintro e w' ⟨rfl, rfl⟩) | (go_at_call 27; refine hn.mono ?_; rintro e w' ⟨rfl, rfl⟩))
  go_ret2
  exact ⟨rfl, rfl⟩

theorem ClkIn.setNow {w : World} {L : Lay} {s : Clk} (h : ClkIn w L s) (t : Nat) (ht : t ≤ 2147483647) : ClkIn (w.setCell ⟨L.c, 0, none⟩ (.int .u32 t)) L { s with now := t } := by
  refine ⟨?_, h.map.setCell _ _ (Ne.symm h.cA), fun i hi => ?_, h.inj, h.neA, ht, h.times, h.few⟩
  · rw [hpSetSame h.blk]
    rfl
  · obtain ⟨l, h1, h2⟩ := h.wheel i hi
    exact ⟨l, h1.setCell _ _ (Ne.symm (h.cW hi)), h2⟩

/-- what the loop over the slot has gathered -/
def Due (t : Nat) (l : List (Nm × Nat)) : List Nm := (l.filter (fun p => p.2 = t)).map (·.1)

/-- the relation of the loop: w the world when the call began, r the iterator's block -/
structure TickRel (w : World) (L : Lay) (s1 : Clk) (B r : Nat) (l : List (Nm × Nat)) (T : Nat) (k : Nat) (v : Value) (wr : World) (rest : List (Nm × Nat)) (acc : List Nm) : Prop where
  len : rest.length = k
  it : IterOf Try.prog 38 encN encU wr r B l rest
  own : wr.ownsRow (r + 1) 38 4 v acc.length (acc.flatMap flN)
  perm : (acc ++ Due T rest).Perm (Due T l)
  upd : Upd L.foot w wr
  clk : ClkIn wr L s1

section
variable {w : World} {L : Lay} {s1 : Clk} {B r : Nat} {l : List (Nm × Nat)} {T k : Nat} {v : Value} {wr : World} {rest : List (Nm × Nat)} {acc : List Nm}
theorem due_app (T : Nat) (a b : List (Nm × Nat)) : Due T (a ++ b) = Due T a ++ Due T b := by simp [Due]
theorem TickRel.base (h : TickRel w L s1 B r l T k v wr rest acc) (hlt : ∀ b, L.foot b → b < w.heap.size) (hr : w.heap.size ≤ r) (hB : L.foot B) {p : Nm × Nat} {r1 r2 : List (Nm × Nat)} (hs : rest = r1 ++ p :: r2) {w' : World}
    (hit : IterOf Try.prog 38 encN encU w' r B l (r1 ++ r2)) (hu : Upd (· = r) wr w') :
    w'.ownsRow (r + 1) 38 4 v acc.length (acc.flatMap flN) ∧ Upd L.foot w w' ∧ ClkIn w' L s1 := by
  refine ⟨ownsRow_upd h.own hu (fun b hb e => by omega), h.upd.then hu (fun i hi hlt => by omega), h.clk.upd hu (fun b hb e => by have := hlt b hb; omega)⟩
theorem TickRel.skip (h : TickRel w L s1 B r l T k v wr rest acc) (hlt : ∀ b, L.foot b → b < w.heap.size) (hr : w.heap.size ≤ r) (hB : L.foot B) {p : Nm × Nat} {r1 r2 : List (Nm × Nat)} (hs : rest = r1 ++ p :: r2) (hp : ¬ p.2 = T) {w' w'' : World}
    (hit : IterOf Try.prog 38 encN encU w' r B l (r1 ++ r2)) (hu : Upd (· = r) wr w') (hu2 : Upd Nil w' w'') : TickRel w L s1 B r l T (r1 ++ r2).length v w'' (r1 ++ r2) acc ∧ (r1 ++ r2).length < k := by
  obtain ⟨h1, h2, h3⟩ := h.base hlt hr hB hs hit hu
  refine ⟨⟨rfl, hit.upd hu2 (fun k => k) (fun k => k), ownsRow_upd h1 hu2 (fun _ _ k => k), ?_, h2.then hu2 (fun _ k => k.elim), h3.nil hu2⟩, ?_⟩
  · have : Due T rest = Due T (r1 ++ r2) := by
      rw [hs]; simp [Due, List.filter_cons, hp]
    rw [← this]; exact h.perm
  · have := h.len; rw [hs] at this; simp at this ⊢; omega
theorem TickRel.take (h : TickRel w L s1 B r l T k v wr rest acc) (hlt : ∀ b, L.foot b → b < w.heap.size) (hr : w.heap.size ≤ r) (hB : L.foot B) {p : Nm × Nat} {r1 r2 : List (Nm × Nat)} (hs : rest = r1 ++ p :: r2) (hp : p.2 = T) {w' w2 w'' : World} {v' : Value} {n : Nat} {xs : List Value}
    (hit : IterOf Try.prog 38 encN encU w' r B l (r1 ++ r2)) (hu : Upd (· = r) wr w') (hu2 : Upd Nil w' w2) (hn : n = acc.length + 1) (hxs : xs = acc.flatMap flN ++ flN p.1) (hown : w''.ownsRow (r + 1) 38 4 v' n xs) (hg : w2.grownBy w'' v.ownBlock) :
    TickRel w L s1 B r l T (r1 ++ r2).length v' w'' (r1 ++ r2) (acc ++ [p.1]) ∧ (r1 ++ r2).length < k := by
  obtain ⟨h1, h2, h3⟩ := h.base hlt hr hB hs hit hu
  have hrow : ∀ i, v.ownBlock = some i → r + 1 ≤ i := fun i hi => (ownsRow_block h1 hi).1
  have hg' := Upd.of_grown hg
  refine ⟨⟨rfl, ?_, ?_, ?_, ?_, ?_⟩, ?_⟩
  · refine (hit.upd hu2 (fun k => k) (fun k => k)).upd hg' (fun e => by have := hrow _ e; omega) (fun e => by have := hrow _ e; have := hlt _ hB; omega)
  · subst hn hxs
    simpa using hown
  · have : (acc ++ [p.1] ++ Due T (r1 ++ r2)).Perm (acc ++ Due T rest) := by
      rw [hs, due_app, due_app, List.append_assoc]
      refine List.Perm.append_left _ ?_
      have e : Due T (p :: r2) = p.1 :: Due T r2 := by simp [Due, List.filter_cons, hp]
      rw [e]
      simp only [List.singleton_append]
      exact (List.perm_middle).symm
    exact this.trans h.perm
  · exact (h2.then hu2 (fun _ k => k.elim)).grown hg (fun i hi hlt2 => by have := hrow i hi; omega)
  · exact (h3.nil hu2).upd hg' (fun b hb e => by have := hrow b e; have := hlt b hb; omega)
  · have := h.len; rw [hs] at this; simp at this ⊢; omega
end

theorem info38 : (Try.prog.info? 38).map (fun i => (i.zero, i.size, i.bytes)) = some (some (.agg #[.int .u8 0, .int .u8 0, .int .u32 0, .int .u32 0]), 4, 16) := by kernel_rfl

/-- the sort, over a row that the call owns -/
theorem sort_own {wr : World} {base : Nat} {v : Value} {acc : List Nm} (h : wr.ownsRow base 38 4 v acc.length (acc.flatMap flN)) (hfew : acc.length ≤ 1024) :
    Calls Try.prog 29 #[v, .func (.func 30) #[] #[]] wr fun e w' => e = .returned (.tuple #[]) ∧ Upd (fun i => v.ownBlock = some i) wr w' ∧ w'.ownsRow base 38 4 v acc.length ((sortNm acc).flatMap flN) := by
  obtain ⟨h1, h2⟩ := h
  have hlen : (sortNm acc).length = acc.length := List.length_mergeSort _
  rcases h2 with ⟨rfl, h0⟩ | ⟨g, cap, cur, rfl, hg, hh, hn, hc, hsz, htk⟩
  · rw [h0]
    refine (sort_none none 0 _ wr).mono ?_
    rintro e w' ⟨rfl, rfl⟩
    refine ⟨rfl, Upd.refl _ _, ?_, .inl ⟨rfl, rfl⟩⟩
    rw [length_flat flN 4 flN_len, hlen, h0]
  · refine (sort_names cap hh htk (by rw [hsz]; exact Nat.mul_le_mul_right _ hn) (by omega)).mono ?_
    rintro e w' ⟨rfl, hu, cur', hb', hs', ht'⟩
    refine ⟨rfl, hu.mono (fun i _ e => by subst e; rfl), ?_, .inr ⟨g, cap, cur', rfl, hg, hb', hn, hc, by rw [hs', hsz], ht'⟩⟩
    rw [length_flat flN 4 flN_len, hlen]

/-- what a row of names holds -/
theorem row_name {wr : World} {base : Nat} {v : Value} {D : List Nm} (h : wr.ownsRow base 38 4 v D.length (D.flatMap flN)) {k : Nat} (hk : k < D.length) :
    ∃ g, base ≤ g ∧ g < wr.heap.size ∧ (∀ w', (Instr.indexAt 33 v (.int .i64 k)).run Try.prog w' = .ok (.pointer (some ⟨g, k * 4, none⟩)) w') ∧ wr.cell? ⟨g, k * 4, none⟩ = some (.int .u8 D[k].kind.toNat) ∧ wr.cell? ⟨g, k * 4 + 1, none⟩ = some (.int .u8 D[k].tx.node.toNat) ∧
      wr.cell? ⟨g, k * 4 + 2, none⟩ = some (.int .u32 D[k].tx.boot.toNat) ∧ wr.cell? ⟨g, k * 4 + 3, none⟩ = some (.int .u32 D[k].tx.num.toNat) := by
  obtain ⟨g, hg, hlt, hi, hc⟩ := row_index h Try.underlying33 Try.sizeOf38 hk
  have hx : ∀ j, j < 4 → wr.cell? ⟨g, k * 4 + j, none⟩ = (flN D[k])[j]? := fun j hj => by rw [hc j hj, get_flat flN 4 flN_len D k j hk hj]
  exact ⟨g, hg, hlt, hi, hx 0 (by omega), hx 1 (by omega), hx 2 (by omega), hx 3 (by omega)⟩

def stopAll (s : Clk) (D : List Nm) : Clk := D.foldl Clk.stop s

def Clk.tick (s : Clk) : Clk := { now := s.now + 1, at_ := s.at_.filter fun p => ¬ p.2 = s.now + 1 }
def Clk.rung (s : Clk) : List Nm := sortNm (Due (s.now + 1) s.at_)

theorem stopAll_eq (s : Clk) (D : List Nm) : stopAll s D = { s with at_ := s.at_.filter fun p => ¬ p.1 ∈ D } := by
  induction D generalizing s with
  | nil =>
    have : (s.at_.filter fun p => ¬ p.1 ∈ ([] : List Nm)) = s.at_ := by rw [List.filter_eq_self]; simp
    rw [this]; rfl
  | cons n D ih =>
    have : stopAll s (n :: D) = stopAll (s.stop n) D := rfl
    rw [this, ih]
    simp only [Clk.stop, del, List.filter_filter]
    congr 1
    apply List.filter_congr
    intro p _
    simp only [List.mem_cons, not_or]
    rw [← Bool.decide_and]
    congr 1
    rw [eq_iff_iff]
    exact And.comm
theorem due_slot {at_ l : List (Nm × Nat)} {T : Nat} (h : l.Perm (at_.filter fun p => p.2 % 64 = T % 64)) : (Due T l).Perm (Due T at_) := by
  unfold Due
  refine List.Perm.map _ ?_
  refine (h.filter _).trans ?_
  rw [List.filter_filter]
  refine List.Perm.of_eq (List.filter_congr fun p _ => ?_)
  by_cases hp : p.2 = T <;> simp [hp]
theorem tick_done {at_ l : List (Nm × Nat)} {T : Nat} {acc : List Nm} (hn : (at_.map (·.1)).Nodup) (hl : (l.map (·.1)).Nodup) (hs : ∀ n t, get l n = some t ↔ (get at_ n = some t ∧ t % 64 = T % 64)) (hp : (acc ++ Due T []).Perm (Due T l)) :
    sortNm acc = sortNm (Due T at_) ∧ (at_.filter fun p => ¬ p.1 ∈ sortNm acc) = at_.filter fun p => ¬ p.2 = T := by
  have h1 : acc.Perm (Due T at_) := by
    have : acc ++ Due T [] = acc := by simp [Due]
    rw [this] at hp
    exact hp.trans (due_slot (slot_perm hn hl hs))
  refine ⟨sortNm_perm h1, List.filter_congr fun p hpm => ?_⟩
  have h2 : p.1 ∈ sortNm acc ↔ p.2 = T := by
    rw [sortNm_mem, h1.mem_iff]
    unfold Due
    simp only [List.mem_map, List.mem_filter, decide_eq_true_eq]
    constructor
    · rintro ⟨q, ⟨hq, hqt⟩, hqp⟩
      have e1 := mem_get hn (show (p.1, p.2) ∈ at_ from hpm)
      have e2 := mem_get hn (show (q.1, q.2) ∈ at_ from hq)
      rw [hqp, e1] at e2
      exact (Option.some.inj e2).trans hqt
    · intro hpt
      exact ⟨p, ⟨hpm, hpt⟩, rfl⟩
  simp [h2]

structure TickStop (w : World) (L : Lay) (s1 : Clk) (D : List Nm) (k : Nat) (v : Value) (wx : World) : Prop where
  own : wx.ownsRow (w.heap.size + 1) 38 4 v D.length (D.flatMap flN)
  upd : Upd L.foot w wx
  clk : ClkIn wx L (stopAll s1 (D.take k))

theorem tick_clk {w : World} {L : Lay} {s : Clk} (h : ClkIn w L s) (hm : s.now < 2147483647) :
    Calls Try.prog 10 #[L.ptr] w fun e w' => ∃ v, e = .returned (.tuple #[v, .int .i64 0]) ∧ Upd L.foot w w' ∧ ClkIn w' L s.tick ∧ w'.ownsRow (w.heap.size + 1) 38 4 v s.rung.length (s.rung.flatMap flN) := by
  obtain ⟨T, hT⟩ : ∃ T, T = s.now + 1 := ⟨_, rfl⟩
  have h0 := h.c0
  have hf := h.f 0
  have hok := ok_clk h
  have hn := next27 s.now w (by omega)
  have hc1 := h.setNow T (by omega)
  have hu1 : Upd L.foot w (w.setCell ⟨L.c, 0, none⟩ (.int .u32 T)) := (Upd.refl _ w).setCell (fun _ => .inl rfl) _
  have hT2 : T % 64 < 64 := Nat.mod_lt _ (by omega)
  have hT3 : T < 4294967296 := by omega
  obtain ⟨l, hl, hspec⟩ := hc1.wheel (T % 64) hT2
  have hsl := slot_at' hT3 (hc1.cw hT2)
  obtain ⟨o, hrg, hit⟩ := hl.range Try.underlying66
  have hl1024 : l.length ≤ 1024 := by
    have h1 := (slot_perm hc1.map.nodup hl.nodup hspec).length_eq
    have h2 := List.length_filter_le (fun p : Nm × Nat => p.2 % 64 = T % 64) s.at_
    have h3 := h.few
    exact Nat.le_trans (Nat.le_of_eq h1) (Nat.le_trans h2 h3)
  have hspec' := Lib.hid hspec
  have hlt := h.lt
  have hB : L.foot (L.W (T % 64)) := .inr (.inr ⟨_, hT2, rfl⟩)
  have hnod := Lib.hid (And.intro h.map.nodup hl.nodup)
  rw [← hT] at hn
  have hTs := Lib.hid hT.symm
  clear hT hspec h hm
  simp only [encU] at hsl
  go_enter Try.func10, Try.ntmps10
  go_wp2_with (first | (go_at_call 26; refine hok.mono ?_; rintro e w' ⟨rfl, rfl⟩) | (go_at_call 27; refine hn.mono ?_; rintro e w' ⟨rfl, rfl⟩))
  have hz1 : (w.setCell ⟨L.c, 0, none⟩ (.int .u32 T)).heap.size = w.heap.size := by simp
  generalize w.setCell ⟨L.c, 0, none⟩ (.int .u32 T) = w1 at *
  refine hsl.mono ?_
  rintro e w2 ⟨rfl, rfl⟩
  clear hsl hok hn h0 hf
  go_wp2_with fail
  rw [hz1] at hit
  have hr0 : ClkIn (w2.alloc o) L { s with now := T } := hc1.alloc o
  have hst : TickRel w L { s with now := T } (L.W (T % 64)) w.heap.size l T l.length (.slice none 0 0) (w2.alloc o) l [] :=
    ⟨rfl, hit, ownsRow_nil _ _ _ _, List.Perm.refl _, hu1.alloc o, hr0⟩
  generalize L.W (T % 64) = B at *
  obtain ⟨i38, hi38, hz380, hz381, hz382⟩ := info_parts info38
  clear hrg hit hc1 hl hT2 hu1 hz1 hr0
  go_loopg [6] l.length (fun k v wr => ∃ rest acc, TickRel w L { s with now := T } B w.heap.size l T k v wr rest acc)
  case atStart => exact ⟨l, [], hst⟩
  case round =>
    clear hst
    obtain ⟨rest, acc, hrel⟩ := hrel
    have hacc : acc.length ≤ 1024 := by
      have h1 := hrel.perm.length_eq
      have h2 : (Due T l).length ≤ l.length := by unfold Due; rw [List.length_map]; exact List.length_filter_le _ _
      simp only [List.length_append] at h1
      omega
    rcases hrel.it.next 0 with ⟨hnil, hnx⟩ | ⟨p, r1, r2, w', hrest, hnx, hit', hur, hsz, hen⟩
    · have hso := sort_own hrel.own hacc
      have hsl : (sortNm acc).length = acc.length := List.length_mergeSort _
      have hvl := fun rt w' => row_len hrel.own Try.underlying33 rt w'
      have A := Lib.hid hnil
      clear hnil
      go_wp2_with fail
      refine hso.mono ?_
      rintro e w3 ⟨rfl, hu3, hown3⟩
      have hrow := fun i hi => (ownsRow_block hrel.own (i := i) hi).1
      have hclk3 : ClkIn w3 L { s with now := T } := hrel.clk.upd hu3 (fun b hb e => by have := hrow b e; have := hlt b hb; omega)
      have hupd3 : Upd L.foot w w3 := hrel.upd.then hu3 (fun i hi hlt2 => by have := hrow i hi; omega)
      have hperm := hrel.perm
      rw [A.out] at hperm
      generalize hD : sortNm acc = D at *
      have hD' := Lib.hid hD
      clear hso hD hu3 hrow hrel A hnx
      rw [← hsl] at hvl hown3 hacc
      have hsl' := Lib.hid hsl
      clear hsl
      go_wp2_with fail
      go_loopw [49] (fun i wx => ∃ k : Nat, k ≤ D.length ∧ i = .int .i64 k ∧ TickStop w L { s with now := T } D k u6 wx) (fun i _ => D.length - (intOf i).toNat)
      case atStart => exact ⟨0, by omega, rfl, hown3, hupd3, hclk3⟩
      case round =>
        obtain ⟨k, hk, rfl, hown, hupd, hclk⟩ := hrel
        clear hown3 hupd3 hclk3
        by_cases hkl : k < D.length
        · obtain ⟨g, hg, hglt, hia, c0, c1, c2, c3⟩ := row_name hown hkl
          go_wp2_with fail
          have hst := stop_clk (hclk.alloc (.cells (flN D[k]).toArray 38)) D[k]
          have hown' := hown.alloc (.cells (flN D[k]).toArray 38)
          have hupd' := hupd.alloc (.cells (flN D[k]).toArray 38)
          simp only [encN, flN] at hst hown' hupd'
          clear c0 c1 c2 c3 hia hvl
          refine hst.mono ?_
          rintro e w4 ⟨rfl, hu4, hc4⟩
          go_wp2_with fail
          go_roundw
          case rel =>
            refine ⟨k + 1, by omega, by go_num, ownsRow_upd hown' hu4 (fun b hb hf => by have := hlt b hf; omega), hupd'.trans hu4, ?_⟩
            rw [List.take_succ_eq_append_getElem hkl]
            unfold stopAll
            rw [List.foldl_append]
            exact hc4
          case measure => simp [intOf]; omega
        · have hkn : k = D.length := by omega
          have A2 := Lib.hid hkn
          clear hkn
          go_wp2_with fail
          go_ret2
          have htk : D.take k = D := by rw [A2.out]; exact List.take_length
          rw [htk, stopAll_eq, ← hD'.out] at hclk
          obtain ⟨f1, f2⟩ := tick_done hnod.out.1 hnod.out.2 hspec'.out hperm
          have hrg : D = s.rung := by rw [← hD'.out, f1]; unfold Clk.rung; rw [hTs.out]
          have htick : s.tick = { now := T, at_ := s.at_.filter fun p => ¬ p.2 = T } := by unfold Clk.tick; rw [hTs.out]
          refine ⟨_, rfl, hupd, ?_, hrg ▸ hown⟩
          rw [htick, ← f2]
          exact hclk
    · have hen1 := hen w' rfl rfl
      clear hen hsz
      have hbase := hrel.base hlt (Nat.le_refl _) hB hrest hit' hur
      simp only [encN, encU] at hnx hen1
      have hown := hbase.1
      by_cases hpt : p.2 = T
      · have A := Lib.hid (And.intro hpt hrest)
        clear hrest
        have hd : ((p.2 : Int) == (T : Int)) = true := by simp [hpt]
        clear hpt hbase
        go_wp2_with (at_builtin; refine wpList_append_own _ rfl _ _ 33 rfl (w.heap.size + 1) 38 i38 _ 4 16 Try.underlying33 hi38 hz380 hz381 hz382 rfl (by decide) _ _ _ rfl ((hown.alloc _).alloc _) ⟨w'.heap.size + 1, 0, none⟩ 1 1 (flN p.1) rfl rfl ?c1 ?c2 ?c3 ?c4 ?c5 ?_)
        case c1 =>
          have hb := hpNew (w'.alloc (.cells (flN p.1).toArray 38)) (.cells (flN p.1).toArray 38)
          rw [World.size_alloc] at hb
          intro j u hj
          rw [addr_add]
          exact (My.cell_of_heap hb j).trans (by simpa using hj)
        case c2 => exact flN_one p.1
        case c3 => unfold maxLen; omega
        case c4 => omega
        case c5 => have := hur.size; have := hrel.upd.size; simp; omega
        intro v' w3 hown3 hgrow _
        clear hnx hen1 hd hown
        go_wp2_with fail
        go_roundg (r1 ++ r2).length
        case measure => have := hrel.len; rw [A.out.2] at this; simp at this ⊢; omega
        case rel =>
          exact ⟨_, _, (hrel.take hlt (Nat.le_refl _) hB A.out.2 A.out.1 hit' hur (((Upd.refl _ _).alloc _).alloc _) rfl rfl hown3 hgrow).1⟩
      · have A := Lib.hid (And.intro hpt hrest)
        clear hrest
        have hd : ((p.2 : Int) == (T : Int)) = false := by simp; omega
        clear hpt hbase hown
        go_wp2_with fail
        go_roundg (r1 ++ r2).length
        case measure => have := hrel.len; rw [A.out.2] at this; simp at this ⊢; omega
        case rel =>
          exact ⟨_, _, (hrel.skip hlt (Nat.le_refl _) hB A.out.2 A.out.1 hit' hur ((Upd.refl _ _).alloc _)).1⟩
end Go.Proofs.Ytkalckpfepanaaa

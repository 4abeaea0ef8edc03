/- Regions that draw their order: the quiet operations of a given list of numbers are taken first, where one condition S holds of every world that is met; of what is left each order is walked. Plain theorems, no program. -/
import Derived.Test.YtkalckpfepanaaaRegS
namespace Go.My
set_option linter.unusedVariables false
set_option linter.unusedSimpArgs false
set_option linter.unusedSectionVars false
section
variable {P : Program} {ops : Array Oper} {Q : Exit → Act → World → Prop} {md : Region.Mode} {S : World → Prop}

def mark : List Nat → Array Bool → Array Bool
  | [], l => l
  | i :: is, l => mark is (l.setIfInBounds i true)
def Region.idxHead (md : Region.Mode) (ops : Array Oper) : List Nat → Array Bool → Bool
  | [], _ => true
  | i :: is, listed => (Go.Region.ready md ops listed).contains i && Go.Region.free md ops listed i && Region.idxHead md ops is (listed.setIfInBounds i true)
def nthO : List Oper → Nat → Oper
  | [], _ => { dst := none, op := .move (.tmp 0), type := 0, pos := "", after := #[], guard := none }
  | o :: _, 0 => o
  | _ :: l, i + 1 => nthO l i
def pickO (l : List Oper) : List Nat → List Oper
  | [] => []
  | i :: is => nthO l i :: pickO l is
theorem nthO_get : ∀ (l : List Oper) (i : Nat) (o : Oper), l[i]? = some o → nthO l i = o
  | [], _, _, h => by simp at h
  | o :: _, 0, _, h => by simpa [nthO] using h
  | _ :: l, i + 1, o, h => nthO_get l i o (by simpa using h)
/-- of what is left each order is walked; behind each operation but L S is to be shown -/
def wpAnyT (P : Program) (md : Region.Mode) (ops : Array Oper) (Q : Exit → Act → World → Prop) (S : World → Prop) (L : Nat) : Nat → Array Bool → Act → World → Prop
  | 0, listed, a, w => Go.Region.ready md ops listed = [] ∧ Q .normal a w
  | fuel + 1, listed, a, w =>
    (Go.Region.ready md ops listed = [] → Q .normal a w) ∧
    ∀ i ∈ Go.Region.ready md ops listed, wpOp P ops Q i (fun a' w' => (i = L ∨ S w') ∧ wpAnyT P md ops Q S L fuel (listed.setIfInBounds i true) a' w') a w
variable {L : Nat}
theorem wpAny_of_T : ∀ (fuel : Nat) (listed : Array Bool) (a : Act) (w : World), wpAnyT P md ops Q S L fuel listed a w → wpAny P md ops Q fuel listed a w
  | 0, _, _, _, h => h
  | fuel + 1, _, _, _, h => ⟨h.1, fun i hi => wpOp_mono (fun a' w' h' => wpAny_of_T fuel _ a' w' h'.2) (h.2 i hi)⟩

/-- whatever is listed has behind it what it waits for -/
def Down (md : Region.Mode) (ops : Array Oper) (listed : Array Bool) : Prop :=
  ∀ j oj, ops[j]? = some oj → listed.getD j false = true → ∀ e ∈ oj.after, Go.Region.binds md e = true → listed.getD e.on false = true
theorem Down.start (n : Nat) : Down md ops (Array.replicate n false) := by
  intro j oj _ h
  exfalso
  simp only [Array.getD_eq_getD_getElem?, Array.getElem?_replicate] at h
  split at h <;> simp at h
theorem getD_set {listed : Array Bool} {i j : Nat} (h : listed.getD j false = true) : (listed.setIfInBounds i true).getD j false = true := by
  simp only [Array.getD_eq_getD_getElem?, Array.getElem?_setIfInBounds] at *
  split
  · split
    · rfl
    · rename_i h1 h2
      subst h1
      rw [Array.getElem?_eq_none (by omega)] at h
      simp at h
  · exact h
theorem Down.step {listed : Array Bool} {i : Nat} (h : Down md ops listed) (hi : i ∈ Go.Region.ready md ops listed) : Down md ops (listed.setIfInBounds i true) := by
  intro j oj hj hl e he hb
  by_cases hij : j = i
  · subst hij
    obtain ⟨_, oi, hoi, hall⟩ := mem_ready.1 hi
    rw [hj] at hoi; cases hoi
    exact getD_set (hall e he hb)
  · have : listed.getD j false = true := by
      simp only [Array.getD_eq_getD_getElem?, Array.getElem?_setIfInBounds] at *
      rw [if_neg (Ne.symm hij)] at hl
      exact hl
    exact getD_set (h j oj hj this e he hb)
/-- j waits for i -/
def Region.waits (md : Region.Mode) (ops : Array Oper) (i : Nat) : Nat → Nat → Bool
  | 0, _ => false
  | f + 1, j => match ops[j]? with
    | none => false
    | some o => o.after.any fun e => Go.Region.binds md e && (e.on == i || Region.waits md ops i f e.on)
theorem waits_listed {listed : Array Bool} (hd : Down md ops listed) {i : Nat} : ∀ (f j : Nat), Region.waits md ops i f j = true → (∀ oj, ops[j]? = some oj → ∀ e ∈ oj.after, Go.Region.binds md e = true → listed.getD e.on false = true) → listed.getD i false = true
  | 0, _, h, _ => by simp [Region.waits] at h
  | f + 1, j, h, hl => by
    unfold Region.waits at h
    cases ho : ops[j]? with
    | none => rw [ho] at h; cases h
    | some o =>
      rw [ho] at h
      obtain ⟨e, he, hb⟩ := Array.any_eq_true'.1 h
      simp only [Bool.and_eq_true, Bool.or_eq_true, beq_iff_eq] at hb
      obtain ⟨hb1, hb2⟩ := hb
      have hle := hl o ho e he hb1
      rcases hb2 with rfl | hb2
      · exact hle
      · exact waits_listed hd f e.on hb2 (fun oj hoj => hd e.on oj hoj hle)

theorem wpAnyT_first {i : Nat} {oi : Oper} {v : Value} (hi : ops[i]? = some oi) (hsel : ∀ (j : Nat) (o : Oper) cs b, ops[j]? = some o → o.op ≠ .select cs b)
    (hQ : ∀ c a w, Q (.panic c) (a.put oi.dst v) w → Q (.panic c) a w) (hL : L < ops.size → Region.waits md ops i ops.size L = true) :
    ∀ (fuel : Nat) (listed : Array Bool) (a : Act) (w : World), Down md ops listed →
      (∀ j oj, ops[j]? = some oj → j ≠ i → listed.getD j true = false → (∀ e ∈ oj.after, Region.binds md e = true → e.on ≠ i) → oi.apart ops oj = true) →
      i ∈ Go.Region.ready md ops listed → YieldsS P ops S oi v a → S w →
      wpAnyT P md ops Q S L fuel (listed.setIfInBounds i true) (a.put oi.dst v) w → wpAnyT P md ops Q S L (fuel + 1) listed a w := by
  intro fuel
  induction fuel with
  | zero =>
    intro listed a w _ _ hr hy hS H
    refine ⟨fun h => (by rw [h] at hr; cases hr), fun j hj => ?_⟩
    by_cases hji : j = i
    · subst hji; exact hy.wpOp hi hS ⟨.inr hS, H⟩
    · have := ready_mono hj hji
      rw [H.1] at this
      cases this
  | succ fuel ih =>
    intro listed a w hd hfree hr hy hS H
    refine ⟨fun h => (by rw [h] at hr; cases hr), fun j hj => ?_⟩
    by_cases hji : j = i
    · subst hji; exact hy.wpOp hi hS ⟨.inr hS, H⟩
    · have h1 := H.2 j (ready_mono hj hji)
      obtain ⟨hjun, oj, hoj, hall⟩ := mem_ready.1 hj
      have hjL : j ≠ L := by
        intro e
        subst e
        have hw := hL (Array.getElem?_eq_some_iff.1 hoj).1
        have h2 := waits_listed hd ops.size j hw (fun oj' hoj' e he hb => by rw [hoj] at hoj'; cases hoj'; exact hall e he hb)
        have h0 := (mem_ready.1 hr).1
        rcases Nat.lt_or_ge i listed.size with h' | h'
        · simp [h'] at h0 h2; rw [h0] at h2; cases h2
        · simp [Array.getElem?_eq_none h'] at h2
      have hnot : ∀ e ∈ oj.after, Region.binds md e = true → e.on ≠ i := fun e he hb heq => by
        have h1 := hall e he hb
        have h0 := (mem_ready.1 hr).1
        rw [heq] at h1
        rcases Nat.lt_or_ge i listed.size with h' | h'
        · simp [h'] at h0 h1; rw [h0] at h1; cases h1
        · simp [Array.getElem?_eq_none h'] at h1
      have h2 := wpOp_putS hoj (hfree j oj hoj hji hjun hnot) (fun cs b => hsel i oi cs b hi) (fun cs b => hsel j oj cs b hoj) hQ hy h1
      have hfree' : ∀ k ok, ops[k]? = some ok → k ≠ i → (listed.setIfInBounds j true).getD k true = false →
          (∀ e ∈ ok.after, Region.binds md e = true → e.on ≠ i) → oi.apart ops ok = true := fun k ok hk hki hun hno => by
        refine hfree k ok hk hki ?_ hno
        by_cases hjk : j = k
        · subst hjk; exact hjun
        · rw [getD_set_ne true hjk] at hun; exact hun
      refine wpOp_mono (fun a' w' h3 => ?_) h2
      have hS' : S w' := h3.2.1.resolve_left hjL
      refine ⟨.inr hS', ih (listed.setIfInBounds j true) a' w' (hd.step hj) hfree' (ready_mono hr (Ne.symm hji)) h3.1 hS' ?_⟩
      rw [Array.setIfInBounds_comm _ _ hji]
      exact h3.2.2

def Region.idxAll (md : Region.Mode) (ops : Array Oper) (L : Nat) (is : List Nat) : Bool := decide (ops.size ≤ L) || is.all fun i => Region.waits md ops i ops.size L

theorem wpAnyT_of_takeI {l : List Oper} (hl : ops = l.toArray) (hsel : Region.noSelect ops = true) (hQ : ∀ c a w, ¬ Q (.panic c) a w) (g : Nat) :
    ∀ (is : List Nat) (listed : Array Bool) (a : Act) (w : World), Down md ops listed → S w → (∀ i ∈ is, L < ops.size → Region.waits md ops i ops.size L = true) → Region.idxHead md ops is listed = true →
    wpTake P ops S (fun a' => wpAnyT P md ops Q S L g (mark is listed) a' w) (pickO l is) a → wpAnyT P md ops Q S L (is.length + g) listed a w
  | [], listed, a, w, _, hS, _, _, h => by
    simp only [List.length_nil, Nat.zero_add]
    exact h
  | i :: is, listed, a, w, hd, hS, hL, hB, h => by
    simp only [Region.idxHead, Bool.and_eq_true] at hB
    obtain ⟨⟨hr, hf⟩, hB'⟩ := hB
    have hr' : i ∈ Go.Region.ready md ops listed := by simpa using hr
    obtain ⟨_, o, h0, _⟩ := mem_ready.1 hr'
    have ho : nthO l i = o := nthO_get l i o (by rw [hl] at h0; simpa using h0)
    unfold pickO at h
    rw [ho] at h
    unfold wpTake at h
    have key : ∃ v, YieldsS P ops S o v a ∧ wpTake P ops S (fun a' => wpAnyT P md ops Q S L g (mark is (listed.setIfInBounds i true)) a' w) (pickO l is) (a.put o.dst v) := by
      split at h
      · rename_i hw
        obtain ⟨v, h1, h2⟩ := h
        exact ⟨v, .inl ⟨hw, h1⟩, h2⟩
      · rename_i hw
        exact ⟨undef, .inr ⟨by simpa using hw, rfl⟩, h⟩
    obtain ⟨v, hy, hK⟩ := key
    have := wpAnyT_of_takeI hl hsel hQ g is (listed.setIfInBounds i true) (a.put o.dst v) w (hd.step hr') hS (fun j hj => hL j (List.mem_cons_of_mem _ hj)) hB' hK
    have h5 := wpAnyT_first (S := S) (L := L) h0 (Region.noSelect_spec hsel) (fun c a w hp => (hQ c _ w hp).elim) (hL i List.mem_cons_self) (is.length + g) listed a w hd (Go.Region.free_spec h0 hf) hr' hy hS this
    simpa [Nat.add_right_comm] using h5

theorem wpAnyT_zero {listed : Array Bool} {a : Act} {w : World} (hr : Go.Region.ready md ops listed = []) (h : Q .normal a w) : wpAnyT P md ops Q S L 0 listed a w := ⟨hr, h⟩
theorem nth_of_ready {l : List Oper} {i : Nat} {listed : Array Bool} (hi : i ∈ Go.Region.ready md l.toArray listed) : l.toArray[i]? = some (nthO l i) := by
  obtain ⟨_, o, h0, _⟩ := mem_ready.1 hi
  rw [h0, nthO_get l i o (by simpa using h0)]
theorem wpAnyT_one {l : List Oper} {g i : Nat} {listed : Array Bool} {a : Act} {w : World} (hr : Go.Region.ready md l.toArray listed = [i]) (hg : (nthO l i).guard = none)
    (h : ∀ K : Act → World → Prop, (∀ a w, (i = L ∨ S w) → wpAnyT P md l.toArray Q S L g (listed.setIfInBounds i true) a w → K a w) → (nthO l i).wp P a w K Q) : wpAnyT P md l.toArray Q S L (g + 1) listed a w := by
  refine ⟨fun h1 => by rw [hr] at h1; (cases h1), fun j hj => ?_⟩
  have hn := nth_of_ready hj
  rw [hr] at hj
  obtain rfl : j = i := by simpa using hj
  unfold wpOp
  simp only [hn]
  rw [if_pos (by simp [Region.wanted, hg])]
  exact .inl (h _ (fun a w h1 h2 => ⟨h1, h2⟩))
theorem wpAnyT_two {l : List Oper} {g i j : Nat} {listed : Array Bool} {a : Act} {w : World} (hr : Go.Region.ready md l.toArray listed = [i, j]) (hg : (nthO l i).guard = none) (hg' : (nthO l j).guard = none)
    (h : ∀ K : Act → World → Prop, (∀ a w, (i = L ∨ S w) → wpAnyT P md l.toArray Q S L g (listed.setIfInBounds i true) a w → K a w) → (nthO l i).wp P a w K Q)
    (h' : ∀ K : Act → World → Prop, (∀ a w, (j = L ∨ S w) → wpAnyT P md l.toArray Q S L g (listed.setIfInBounds j true) a w → K a w) → (nthO l j).wp P a w K Q) : wpAnyT P md l.toArray Q S L (g + 1) listed a w := by
  refine ⟨fun h1 => by rw [hr] at h1; (cases h1), fun k hk => ?_⟩
  have hn := nth_of_ready hk
  rw [hr] at hk
  unfold wpOp
  rcases (by simpa using hk : k = i ∨ k = j) with rfl | rfl
  · simp only [hn]
    rw [if_pos (by simp [Region.wanted, hg])]
    exact .inl (h _ (fun a w h1 h2 => ⟨h1, h2⟩))
  · simp only [hn]
    rw [if_pos (by simp [Region.wanted, hg'])]
    exact .inl (h' _ (fun a w h1 h2 => ⟨h1, h2⟩))

def Region.idxB (md : Region.Mode) (ops : Array Oper) (L : Nat) (is : List Nat) : Bool :=
  Go.Region.noSelect ops && Region.idxAll md ops L is && Region.idxHead md ops is (Array.replicate ops.size false)
/-- the operations of 'is' are taken first, in every world that meets S; of the rest every order is walked; behind the operation L (which waits for each of 'is') S need not hold (none: L = 1000). Next: simp only [pickO, nthO] -/
theorem wp_region_I {id : Nat} {a : Act} {w : World} {l : List Oper} (is : List Nat) (g L : Nat) (S : World → Prop) (hm : P.follows .mixedOrders = true) (hB : Region.idxB .any l.toArray L is = true) (hg : is.length + g = l.toArray.size)
    (hS : S w.drew) (h : wpTake P l.toArray S (fun a' => wpAnyT P .any l.toArray (NoPan Q) S L g (mark is (Array.replicate l.toArray.size false)) a' w.drew) (pickO l is) a) : (Code.region id l.toArray true).wp P Q a w := by
  simp only [Region.idxB, Bool.and_eq_true] at hB
  obtain ⟨⟨hsel, hn⟩, hh⟩ := hB
  have hL : ∀ i ∈ is, L < l.toArray.size → Region.waits .any l.toArray i l.toArray.size L = true := fun i hi hl => by
    unfold Region.idxAll at hn
    simp only [Bool.or_eq_true, decide_eq_true_eq, List.all_eq_true] at hn
    rcases hn with hn | hn
    · omega
    · exact hn i hi
  refine wp_mono (Q := NoPan Q) ?_ (fun e a w h => h.imp)
  refine wp_region_any hm ?_
  have := wpAnyT_of_takeI (md := .any) (Q := NoPan Q) rfl hsel (fun c a w h => h) g is (Array.replicate l.toArray.size false) a w.drew (Down.start _) hS hL hh h
  rw [hg] at this
  exact wpAny_of_T _ _ _ _ this
end
end Go.My

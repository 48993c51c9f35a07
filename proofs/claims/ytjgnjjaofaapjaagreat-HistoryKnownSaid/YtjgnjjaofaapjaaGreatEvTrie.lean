import Derived.Test.YtjgnjjaofaapjaaGreatEvDefs
namespace Go.Ev

@[simp] theorem sel_true {α : Type} (x y : α) : sel true x y = x := rfl
@[simp] theorem sel_false {α : Type} (x y : α) : sel false x y = y := rfl
theorem sel_eq {α : Type} (b : Bool) (x y : α) : sel b x y = if b = true then x else y := by cases b <;> rfl

section trie
variable {α : Type}
@[simp] theorem Tr.get_nil (i : Nat) : Tr.get (.nil : Tr α) i = none := rfl
@[simp] theorem Tr.get_leaf (o : α) (i : Nat) : Tr.get (.leaf o) i = some o := rfl
theorem Tr.get_node (l r : Tr α) (i : Nat) : Tr.get (.node l r) i = sel (Nat.beq (Nat.mod i 2) 0) (Tr.get l (Nat.div i 2)) (Tr.get r (Nat.div i 2)) := rfl
@[simp] theorem Tr.put_zero (t : Tr α) (i : Nat) (o : Tr α) : Tr.put 0 t i o = o := rfl
theorem Tr.put_nil (d : Nat) (i : Nat) (o : Tr α) : Tr.put (d + 1) .nil i o = sel (Nat.beq (Nat.mod i 2) 0) (.node (Tr.put d .nil (Nat.div i 2) o) .nil) (.node .nil (Tr.put d .nil (Nat.div i 2) o)) := rfl
theorem Tr.put_leaf (d : Nat) (x : α) (i : Nat) (o : Tr α) : Tr.put (d + 1) (.leaf x) i o = sel (Nat.beq (Nat.mod i 2) 0) (.node (Tr.put d .nil (Nat.div i 2) o) .nil) (.node .nil (Tr.put d .nil (Nat.div i 2) o)) := rfl
theorem Tr.put_node (d : Nat) (l r : Tr α) (i : Nat) (o : Tr α) : Tr.put (d + 1) (.node l r) i o = sel (Nat.beq (Nat.mod i 2) 0) (.node (Tr.put d l (Nat.div i 2) o) r) (.node l (Tr.put d r (Nat.div i 2) o)) := rfl

/-- No leaf stands above row d. -/
def Tr.flat : Nat → Tr α → Prop
  | _, .nil => True
  | 0, .leaf _ => True
  | _ + 1, .leaf _ => False
  | 0, .node _ _ => False
  | d + 1, .node l r => Tr.flat d l ∧ Tr.flat d r

theorem Tr.flat_nil (d : Nat) : Tr.flat d (.nil : Tr α) := by cases d <;> trivial

theorem Tr.flat_put (x : α) : ∀ (d : Nat) (t : Tr α) (i : Nat), t.flat d → (Tr.put d t i (.leaf x)).flat d
  | 0, _, _, _ => trivial
  | d + 1, .nil, i, _ => by
    rw [Tr.put_nil, sel_eq]; split
    · exact ⟨flat_put x d _ _ (flat_nil d), flat_nil d⟩
    · exact ⟨flat_nil d, flat_put x d _ _ (flat_nil d)⟩
  | d + 1, .leaf _, i, h => h.elim
  | d + 1, .node l r, i, h => by
    rw [Tr.put_node, sel_eq]; split
    · exact ⟨flat_put x d _ _ h.1, h.2⟩
    · exact ⟨h.1, flat_put x d _ _ h.2⟩

theorem half_ne {i j : Nat} (h : i ≠ j) (hm : i % 2 = j % 2) : i / 2 ≠ j / 2 := by omega

theorem beq_mod (i : Nat) : Nat.beq (Nat.mod i 2) 0 = decide (i % 2 = 0) := by
  show Nat.beq (i % 2) 0 = _
  rw [Bool.eq_iff_iff, decide_eq_true_iff, Nat.beq_eq]

theorem Tr.get_put_same (x : α) : ∀ (d : Nat) (t : Tr α) (i : Nat), (Tr.put d t i (.leaf x)).get i = some x
  | 0, _, _ => rfl
  | d + 1, .nil, i => by
    rw [Tr.put_nil, beq_mod]; by_cases h : i % 2 = 0 <;> simp only [h, decide_true, decide_false, sel_true, sel_false, Tr.get_node, beq_mod] <;> exact get_put_same x d _ _
  | d + 1, .leaf _, i => by
    rw [Tr.put_leaf, beq_mod]; by_cases h : i % 2 = 0 <;> simp only [h, decide_true, decide_false, sel_true, sel_false, Tr.get_node, beq_mod] <;> exact get_put_same x d _ _
  | d + 1, .node l r, i => by
    rw [Tr.put_node, beq_mod]; by_cases h : i % 2 = 0 <;> simp only [h, decide_true, decide_false, sel_true, sel_false, Tr.get_node, beq_mod] <;> exact get_put_same x d _ _

theorem Tr.get_put_ne (x : α) : ∀ (d : Nat) (t : Tr α) (i j : Nat), t.flat d → i < 2 ^ d → j < 2 ^ d → i ≠ j → (Tr.put d t i (.leaf x)).get j = t.get j
  | 0, _, i, j, _, hi, hj, hne => by omega
  | d + 1, .nil, i, j, _, hi, hj, hne => by
    have hi' : i / 2 < 2 ^ d := by omega
    have hj' : j / 2 < 2 ^ d := by omega
    rw [Tr.put_nil, beq_mod]
    by_cases h : i % 2 = 0 <;> by_cases h' : j % 2 = 0 <;> simp only [h, h', decide_true, decide_false, sel_true, sel_false, Tr.get_node, beq_mod, Tr.get_nil]
    · exact get_put_ne x d .nil _ _ (flat_nil d) hi' hj' (half_ne hne (by omega))
    · exact get_put_ne x d .nil _ _ (flat_nil d) hi' hj' (half_ne hne (by omega))
  | d + 1, .leaf _, i, j, h, _, _, _ => h.elim
  | d + 1, .node l r, i, j, hf, hi, hj, hne => by
    have hi' : i / 2 < 2 ^ d := by omega
    have hj' : j / 2 < 2 ^ d := by omega
    rw [Tr.put_node, beq_mod]
    by_cases h : i % 2 = 0 <;> by_cases h' : j % 2 = 0 <;> simp only [h, h', decide_true, decide_false, sel_true, sel_false, Tr.get_node, beq_mod]
    · exact get_put_ne x d l _ _ hf.1 hi' hj' (half_ne hne (by omega))
    · exact get_put_ne x d r _ _ hf.2 hi' hj' (half_ne hne (by omega))

/-- Two leaves may be put in either order. -/
theorem Tr.put_comm (x y : α) : ∀ (d : Nat) (t : Tr α) (i j : Nat), t.flat d → i < 2 ^ d → j < 2 ^ d → i ≠ j →
    Tr.put d (Tr.put d t i (.leaf x)) j (.leaf y) = Tr.put d (Tr.put d t j (.leaf y)) i (.leaf x)
  | 0, _, i, j, _, hi, hj, hne => by omega
  | d + 1, .nil, i, j, _, hi, hj, hne => by
    have hi' : i / 2 < 2 ^ d := by omega
    have hj' : j / 2 < 2 ^ d := by omega
    simp only [Tr.put_nil, beq_mod]
    by_cases h : i % 2 = 0 <;> by_cases h' : j % 2 = 0 <;> simp only [h, h', decide_true, decide_false, sel_true, sel_false, Tr.put_node, beq_mod]
    · exact congrArg (Tr.node · .nil) (put_comm x y d .nil _ _ (flat_nil d) hi' hj' (half_ne hne (by omega)))
    · exact congrArg (Tr.node .nil ·) (put_comm x y d .nil _ _ (flat_nil d) hi' hj' (half_ne hne (by omega)))
  | d + 1, .leaf _, i, j, h, _, _, _ => h.elim
  | d + 1, .node l r, i, j, hf, hi, hj, hne => by
    have hi' : i / 2 < 2 ^ d := by omega
    have hj' : j / 2 < 2 ^ d := by omega
    simp only [Tr.put_node, beq_mod]
    by_cases h : i % 2 = 0 <;> by_cases h' : j % 2 = 0 <;> simp only [h, h', decide_true, decide_false, sel_true, sel_false, Tr.put_node, beq_mod]
    · exact congrArg (Tr.node · r) (put_comm x y d l _ _ hf.1 hi' hj' (half_ne hne (by omega)))
    · exact congrArg (Tr.node l ·) (put_comm x y d r _ _ hf.2 hi' hj' (half_ne hne (by omega)))

end trie

/-! The small heap. -/
structure AH.ok (h : AH) : Prop where
  flat : h.t.flat deep
  next : h.next ≤ most
  clean : ∀ i, h.next ≤ i → i < most → Tr.get h.t i = none

theorem AH.get_lt {h : AH} {i : Nat} {o : AObj} (hg : h.get i = some o) : i < h.next := by
  unfold AH.get at hg
  cases hb : Nat.blt i h.next with
  | false => rw [hb] at hg; simp at hg
  | true => exact Nat.le_of_ble_eq_true hb

theorem blt_true {i n : Nat} (h : i < n) : Nat.blt i n = true := Nat.ble_eq_true_of_le h
theorem lt_of_blt {i n : Nat} (h : Nat.blt i n = true) : i < n := Nat.le_of_ble_eq_true h

theorem AH.get_put_same (h : AH) (i : Nat) (o : AObj) (hi : i < h.next) : (h.put i o).get i = some o := by
  unfold AH.get AH.put; simp [blt_true hi, Tr.get_put_same]
theorem AH.get_put_ne (h : AH) (ok : h.ok) (i j : Nat) (o : AObj) (hi : i < h.next) (hne : i ≠ j) : (h.put i o).get j = h.get j := by
  unfold AH.get AH.put
  simp only
  cases hb : Nat.blt j h.next with
  | false => simp
  | true =>
    simp only [sel_true]
    have hj := lt_of_blt hb
    have hn := ok.next
    exact Tr.get_put_ne o deep h.t i j ok.flat (by unfold most at hn; show i < 65536; omega) (by unfold most at hn; show j < 65536; omega) hne
theorem AH.get_set_same (h : AH) (i : Nat) (o : AObj) (hi : i < h.next) : (h.set i o).get i = some o := AH.get_put_same h i o hi
theorem AH.get_set_ne (h : AH) (ok : h.ok) (i j : Nat) (o : AObj) (hi : i < h.next) (hne : i ≠ j) : (h.set i o).get j = h.get j := AH.get_put_ne h ok i j o hi hne
theorem AH.ok_put {h : AH} (ok : h.ok) {i : Nat} (hi : i < h.next) (o : AObj) : (h.put i o).ok := by
  have hn := ok.next
  unfold most at hn
  refine ⟨Tr.flat_put o deep h.t i ok.flat, ok.next, fun j h1 h2 => ?_⟩
  have h1' : h.next ≤ j := h1
  show Tr.get (Tr.put deep h.t i (.leaf o)) j = none
  rw [Tr.get_put_ne o deep h.t i j ok.flat (by show i < 65536; omega) h2 (by omega)]
  exact ok.clean j h1' h2
theorem AH.ok_set {h : AH} (ok : h.ok) {i : Nat} (hi : i < h.next) (o : AObj) : (h.set i o).ok := by
  have := AH.ok_put ok hi o
  exact ⟨this.flat, this.next, this.clean⟩
theorem AH.ok_empty : AH.empty.ok := ⟨trivial, by decide, fun _ _ _ => rfl⟩
theorem AH.get_empty (i : Nat) : AH.empty.get i = none := by
  unfold AH.get AH.empty
  have : Nat.blt i 0 = false := by cases i <;> rfl
  rw [this]; rfl

/-- Numbers set aside. -/
def AH.more (h : AH) (n : Nat) : AH := ⟨h.t, Nat.add h.next n, h.log⟩
theorem AH.get_more {h : AH} (ok : h.ok) {n : Nat} (hn : h.next + n ≤ most) (i : Nat) : (h.more n).get i = h.get i := by
  unfold AH.get AH.more
  simp only
  cases h1 : Nat.blt i h.next with
  | true =>
    have : Nat.blt i (Nat.add h.next n) = true := blt_true (Nat.lt_of_lt_of_le (lt_of_blt h1) (Nat.le_add_right _ _))
    rw [this]
  | false =>
    cases h2 : Nat.blt i (Nat.add h.next n) with
    | false => rfl
    | true =>
      have h3 : i < h.next + n := lt_of_blt h2
      have h4 : ¬ i < h.next := fun h => by rw [blt_true h] at h1; cases h1
      simp only [sel_true, sel_false]
      exact ok.clean i (by omega) (by omega)
theorem AH.ok_more {h : AH} (ok : h.ok) {n : Nat} (hn : h.next + n ≤ most) : (h.more n).ok :=
  ⟨ok.flat, hn, fun i h1 h2 => ok.clean i (Nat.le_trans (Nat.le_add_right _ _) h1) h2⟩

end Go.Ev

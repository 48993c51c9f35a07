import Derived.Test.YtjgnjjaofaapjaaGreatEvAct
namespace Go.Ev

/-- What a step does to the frame. -/
def Moved (o : Oper) (a a1 : BAct) : Prop := ∃ b u, (b = a ∨ ∃ d, b = a.later d) ∧ a1 = b.put o.dst u

theorem fin_put (E : Env) (ih : CodeRun) (x : ANext) (o : Oper) {a : BAct} (w : a.wf) (h1 : AH) (a1 : BAct) (h2 : AH) (e : fin E ih o a x h1 = some (.next a1 h2)) :
    Moved o a a1 ∧ ∀ (dx : Option Tmp) (v : Value), (∀ d, dx = some d → o.dst ≠ some d) → fin E ih o (a.put dx v) x h1 = some (.next (a1.put dx v) h2) := by
  cases x with
  | value u =>
    simp only [fin, Option.some.injEq, SR.next.injEq] at e ⊢
    obtain ⟨rfl, rfl⟩ := e
    exact ⟨⟨a, u, .inl rfl, rfl⟩, fun dx v hd => ⟨BAct.put_comm w v u hd, rfl⟩⟩
  | skip =>
    simp only [fin, Option.some.injEq, SR.next.injEq] at e ⊢
    obtain ⟨rfl, rfl⟩ := e
    exact ⟨⟨a, undef, .inl rfl, rfl⟩, fun dx v hd => ⟨BAct.put_comm w v undef hd, rfl⟩⟩
  | defer d =>
    simp only [fin, Option.some.injEq, SR.next.injEq] at e ⊢
    obtain ⟨rfl, rfl⟩ := e
    exact ⟨⟨a.later d, undef, .inr ⟨d, rfl⟩, rfl⟩, fun dx v hd => ⟨by rw [BAct.later_put]; exact BAct.put_comm (BAct.wf_later w d) v undef hd, rfl⟩⟩
  | panic u => simp [fin] at e
  | enter f args =>
    simp only [fin] at e ⊢
    cases hc : callF E ih f args.toList h1 with
    | none => rw [hc] at e; cases e
    | some p =>
      obtain ⟨r, h3⟩ := p
      rw [hc] at e
      cases r with
      | panicked ch => simp [finCall] at e
      | returned u =>
        simp only [finCall, Option.some.injEq, SR.next.injEq] at e ⊢
        obtain ⟨rfl, rfl⟩ := e
        exact ⟨⟨a, u, .inl rfl, rfl⟩, fun dx v hd => ⟨BAct.put_comm w v u hd, rfl⟩⟩

section
variable {ops : Array Oper}
theorem Moved.wf {o : Oper} {a a1 : BAct} (m : Moved o a a1) (w : a.wf) : a1.wf := by
  obtain ⟨b, u, hb, rfl⟩ := m
  rcases hb with rfl | ⟨d, rfl⟩
  · exact BAct.wf_put w _ _
  · exact BAct.wf_put (BAct.wf_later w d) _ _
theorem Moved.eval {o x : Oper} {a a1 : BAct} (m : Moved o a a1) (w : a.wf) (h : ∀ d, o.dst = some d → d ∉ x.looksAt ops) : ∀ y ∈ x.op.operands, a1.eval y = a.eval y := by
  obtain ⟨b, u, hb, rfl⟩ := m
  intro y hy
  rcases hb with rfl | ⟨d, rfl⟩
  · exact eval_put_looks w x _ u h y hy
  · rw [eval_put_looks (BAct.wf_later w d) x _ u h y hy, BAct.eval_later]
theorem Moved.wanted {o x : Oper} {a a1 : BAct} (m : Moved o a a1) (w : a.wf) (h : ∀ d, o.dst = some d → d ∉ x.looksAt ops) : bwanted ops a1 x = bwanted ops a x := by
  obtain ⟨b, u, hb, rfl⟩ := m
  rcases hb with rfl | ⟨d, rfl⟩
  · exact bwanted_put w x _ u h
  · rw [bwanted_put (BAct.wf_later w d) x _ u h, bwanted_later]

theorem stepOp_put (E : Env) (ih : CodeRun) (id : Nat) (o : Oper) {a : BAct} (w : a.wf) (h : AH) (a1 : BAct) (h2 : AH) (e : stepOp E ih id o a h = some (.next a1 h2)) :
    Moved o a a1 ∧ ∀ (dx : Option Tmp) (v : Value), (∀ d, dx = some d → d ∉ o.looksAt ops) → (∀ d, dx = some d → o.dst ≠ some d) → stepOp E ih id o (a.put dx v) h = some (.next (a1.put dx v) h2) := by
  unfold stepOp at e ⊢
  cases hop : opOK o.op with
  | false => rw [hop] at e; cases e
  | true =>
    rw [hop] at e
    simp only at e ⊢
    cases hr : (aOp E.P id a.eval o.op).run id h with
    | none => rw [hr] at e; cases e
    | some q =>
      obtain ⟨x, h1⟩ := q
      rw [hr] at e
      simp only at e
      obtain ⟨m, f⟩ := fin_put E ih x o w h1 a1 h2 e
      refine ⟨m, fun dx v hl hd => ?_⟩
      rw [aOp_congr o.op (eval_put_looks w o dx v hl), hr]
      exact f dx v hd
end

/-- How a step of a region that draws stands to what goes on beside it. -/
structure StepFacts (base i : Nat) (o : Oper) (s s1 : DS) : Prop where
  moved : Moved o s.a s1.a
  ok : s1.h.ok
  next : s.h.next ≤ s1.h.next
  log : s.h.log = [] → s1.h.log = []
  keep : ∀ r x, s.h.get r = some x → ∃ y, s1.h.get r = some y
  reads : ∀ (n : Nat) (anc : Nat) (r : Nat), bitN anc i = false → i < n → readOK base n anc s1.hist r = true → s1.h.get r = s.h.get r ∧ readOK base n anc s.hist r = true

theorem bitN_eq (m i : Nat) : bitN m i = m.testBit i := by
  have h : (bitN m i = true) ↔ (m.testBit i = true) := by
    unfold bitN
    rw [Nat.beq_eq, show Nat.land (Nat.shiftRight m i) 1 = (m >>> i) &&& 1 from rfl, Nat.and_one_is_mod, Nat.testBit_eq_decide_div_mod_eq, decide_eq_true_iff, Nat.shiftRight_eq_div_pow]
  cases h1 : bitN m i <;> cases h2 : m.testBit i <;> simp_all

theorem memN_iff (i : Nat) : ∀ (l : List Nat), memN i l = true ↔ i ∈ l
  | [] => by simp [memN]
  | j :: l => by
    unfold memN
    cases hb : Nat.beq i j with
    | true => have := Nat.eq_of_beq_eq_true hb; simp [this]
    | false =>
      have : i ≠ j := fun e => by rw [e] at hb; simp at hb
      simp [memN_iff i l, this]
theorem memN_false (i : Nat) (l : List Nat) : memN i l = false ↔ i ∉ l := by rw [← memN_iff]; simp

theorem readOK_ne {base n : Nat} {anc : Nat} {hist : List Hist} {r i : Nat} (hi : bitN anc i = false) (hn : i < n) (h : readOK base n anc hist r = true) : r ≠ base + i := by
  intro e
  subst e
  unfold readOK at h
  simp only [Bool.and_eq_true, Bool.or_eq_true] at h
  rcases h.1 with (h1 | h1) | h1
  · have := lt_of_blt h1; omega
  · have := Nat.le_of_ble_eq_true h1
    have : base + n ≤ base + i := this
    omega
  · rw [show Nat.sub (base + i) base = i from Nat.add_sub_cancel_left base i, hi] at h1
    cases h1
end Go.Ev

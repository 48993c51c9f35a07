import Derived.Test.YtjgnjjaofaapjaaGreatEvSwap2
namespace Go.Ev
section
variable {ops : Array Oper}

/-- Neither looks at what the other gives. -/
def Open (ops : Array Oper) (x y : Oper) : Prop := (∀ d, x.dst = some d → d ∉ y.looksAt ops) ∧ (∀ d, x.dst = some d → y.dst ≠ some d) ∧ (∀ d, y.dst = some d → d ∉ x.looksAt ops)

/-- A float may go ahead of what stands ahead of it, if the order of the two is open. -/
theorem stepD_swap (E : Env) {ih : CodeRun} (hg : Good ih) (al : List Nat) (base y x : Nat) {oy ox : Oper} (hy : ops[y]? = some oy) (hx : ops[x]? = some ox) (hf : floats ox.op = true)
    (hap : Open ops oy ox) (hyx : bitN (al.getD x 0) y = false) (hne : y ≠ x)
    (s s1 s2 : DS) (ok : s.h.ok) (w : s.a.wf) (room : base + ops.size ≤ s.h.next) (e1 : stepD E ih ops al base y s = some s1) (e2 : stepD E ih ops al base x s1 = some s2) :
    ∃ s1', stepD E ih ops al base x s = some s1' ∧ stepD E ih ops al base y s1' = some s2 := by
  obtain ⟨a1, a2, a3⟩ := hap
  have hxn : x < ops.size := (Array.getElem?_eq_some_iff.1 hx).1
  have hyn : y < ops.size := (Array.getElem?_eq_some_iff.1 hy).1
  have b := beside E hg al base y oy hy s s1 e1 ok w
  have d2 : ∀ d, ox.dst = some d → oy.dst ≠ some d := fun d h1 h2 => a2 d h2 h1
  simp only [stepD, hx] at e2
  rw [b.moved.wanted w a1] at e2
  cases hw : bwanted ops s.a ox with
  | false =>
    rw [hw] at e2
    simp only [Option.some.injEq] at e2
    refine ⟨⟨s.a.put ox.dst undef, s.h, s.hist⟩, ?_, ?_⟩
    · simp only [stepD, hx, hw]
    · rw [b.putA ox.dst undef a3 d2, e2]
  | true =>
    rw [hw, hf] at e2
    simp only at e2
    rw [stepFloat_iff] at e2
    obtain ⟨hop, v, reads, m, h1, hl, hr, hp, rfl⟩ := e2
    rw [aOp_congr ox.op (b.moved.eval w a1)] at hl
    have hrd : ∀ r ∈ reads, s1.h.get r = s.h.get r ∧ readOK base ops.size (al.getD x 0) s.hist r = true := fun r hm =>
      b.reads ops.size (al.getD x 0) r hyx hyn (readsOK_iff.1 hr r hm)
    have hl' := AM.look_local _ s1.h s.h _ _ _ hl (fun r hm => (hrd r hm).1.symm)
    have hr' : readsOK base ops.size (al.getD x 0) s.hist reads = true := readsOK_iff.2 fun r hm => (hrd r hm).2
    have hid : base + x < s.h.next := by omega
    cases m with
    | none =>
      simp only [putNew, Option.some.injEq] at hp
      subst hp
      refine ⟨⟨s.a.put ox.dst v, s.h, s.hist⟩, ?_, ?_⟩
      · simp only [stepD, hx, hw, hf]
        rw [stepFloat_iff]
        exact ⟨hop, v, reads, none, s.h, hl', hr', rfl, rfl⟩
      · exact b.putA ox.dst v a3 d2
    | some o =>
      simp only [putNew] at hp
      cases hg1 : s1.h.get (Nat.add base x) with
      | some _ => rw [hg1] at hp; cases hp
      | none =>
        rw [hg1] at hp
        cases hb : Nat.blt (Nat.add base x) s1.h.next with
        | false => rw [hb] at hp; cases hp
        | true =>
          rw [hb] at hp
          simp only [Option.some.injEq] at hp
          subst hp
          have hg0 : s.h.get (base + x) = none := by
            cases h0 : s.h.get (base + x) with
            | none => rfl
            | some z =>
              obtain ⟨z', hz⟩ := b.keep _ _ h0
              rw [show Nat.add base x = base + x from rfl, hz] at hg1
              cases hg1
          have wm : (s.a.put ox.dst v).wf := BAct.wf_put w _ _
          have hstep : stepD E ih ops al base x s = some ⟨s.a.put ox.dst v, s.h.put (base + x) o, s.hist⟩ := by
            simp only [stepD, hx, hw, hf]
            rw [stepFloat_iff]
            refine ⟨hop, v, reads, some o, s.h.put (base + x) o, hl', hr', ?_, rfl⟩
            simp only [putNew]
            rw [show Nat.add base x = base + x from rfl, hg0]
            simp only
            rw [blt_true hid]
          refine ⟨_, hstep, ?_⟩
          have e1' := b.putA ox.dst v a3 d2
          have b' := beside E hg al base y oy hy ⟨s.a.put ox.dst v, s.h, s.hist⟩ _ e1' ok wm
          exact (b'.putH (base + x) o hg0 hid (by omega)).1

theorem stepD_inv (E : Env) {ih : CodeRun} (hg : Good ih) (al : List Nat) (base i : Nat) (s s1 : DS) (e : stepD E ih ops al base i s = some s1) (ok : s.h.ok) (w : s.a.wf) :
    s1.h.ok ∧ s1.a.wf ∧ s.h.next ≤ s1.h.next ∧ (s.h.log = [] → s1.h.log = []) := by
  cases ho : ops[i]? with
  | none => simp only [stepD, ho] at e; cases e
  | some o =>
    have b := beside E hg al base i o ho s s1 e ok w
    exact ⟨b.ok, b.moved.wf w, b.next, b.log⟩

theorem runD_cons (E : Env) (ih : CodeRun) (al : List Nat) (base i : Nat) (l : List Nat) (s sf : DS) :
    runD E ih ops al base (i :: l) s = some sf ↔ ∃ s1, stepD E ih ops al base i s = some s1 ∧ runD E ih ops al base l s1 = some sf := by
  simp only [runD]
  cases stepD E ih ops al base i s with
  | none => simp
  | some s1 => simp

theorem runD_bubble (E : Env) {ih : CodeRun} (hg : Good ih) (al : List Nat) (base x : Nat) {ox : Oper} (hx : ops[x]? = some ox) (hf : floats ox.op = true) (l2 : List Nat) :
    ∀ (l1 : List Nat) (s sf : DS), (∀ y ∈ l1, bitN (al.getD x 0) y = false ∧ y ≠ x ∧ ∀ oy, ops[y]? = some oy → Open ops oy ox) → s.h.ok → s.a.wf → base + ops.size ≤ s.h.next →
      runD E ih ops al base (l1 ++ x :: l2) s = some sf → runD E ih ops al base (x :: (l1 ++ l2)) s = some sf := by
  intro l1
  induction l1 with
  | nil => intro s sf _ _ _ _ e; exact e
  | cons y l1 ihl =>
    intro s sf hl ok w room e
    rw [List.cons_append, runD_cons] at e
    obtain ⟨s1, e1, e2⟩ := e
    obtain ⟨i1, i2, i3, _⟩ := stepD_inv E hg al base y s s1 e1 ok w
    have e3 := ihl s1 sf (fun z hz => hl z (by simp [hz])) i1 i2 (by omega) e2
    rw [runD_cons] at e3
    obtain ⟨s2, e4, e5⟩ := e3
    obtain ⟨h1, h2, h3⟩ := hl y (by simp)
    cases hy : ops[y]? with
    | none => simp only [stepD, hy] at e1; cases e1
    | some oy =>
      have hap := h3 oy hy
      obtain ⟨s1', f1, f2⟩ := stepD_swap E hg al base y x hy hx hf hap h1 h2 s s1 s2 ok w room e1 e4
      rw [runD_cons]
      refine ⟨s1', f1, ?_⟩
      rw [List.cons_append, runD_cons]
      exact ⟨s2, f2, e5⟩
end
end Go.Ev

import Derived.Test.YtjgnjjaofaapjaaGreatEvGood
namespace Go.Ev

def GoodS {α : Type} (s : Nat → Prop) (f : AH → Option (α × AH)) : Prop :=
  ∀ (h : AH) (r : α) (h' : AH), f h = some (r, h') → h.ok → Evo s h h' ∧ ∀ x ox, h.get x = none → x < h.next → ¬ s x → f (h.put x ox) = some (r, h'.put x ox) ∧ h'.get x = none

theorem GoodS.of {α : Type} {s : Nat → Prop} {f : AH → Option (α × AH)} (hf : GoodC f) : GoodS s f := by
  intro h r h' e ok
  obtain ⟨e1, m1⟩ := hf h r h' e ok
  exact ⟨e1.mono fun _ _ h => h.elim, fun x ox hx hlx _ => m1 x ox hx hlx⟩
theorem GoodS.am {α : Type} (m : AM α) (id : Nat) : GoodS (· = id) (fun h => m.run id h) := by
  intro h r h' e ok
  exact ⟨AM.run_evo id m h r h' e ok, fun x ox hx hlx hne => AM.run_put id x ox m h r h' e ok hx hlx hne⟩
theorem GoodS.mono {α : Type} {s s' : Nat → Prop} {f : AH → Option (α × AH)} (hf : GoodS s f) (hs : ∀ x, s x → s' x) : GoodS s' f := by
  intro h r h' e ok
  obtain ⟨e1, m1⟩ := hf h r h' e ok
  exact ⟨e1.mono fun _ _ h => hs _ h, fun x ox hx hlx hn => m1 x ox hx hlx fun h => hn (hs _ h)⟩
theorem GoodS.bind {α β : Type} {s : Nat → Prop} {f : AH → Option (α × AH)} {g : α → AH → Option (β × AH)} {k : AH → Option (β × AH)} (hf : GoodS s f) (hg : ∀ a, GoodS s (g a))
    (k0 : ∀ h, f h = none → k h = none) (k1 : ∀ h a h1, f h = some (a, h1) → k h = g a h1) : GoodS s k := by
  intro h r h' e ok
  cases hh : f h with
  | none => rw [k0 h hh] at e; cases e
  | some p =>
    obtain ⟨a, h1⟩ := p
    rw [k1 h a h1 hh] at e
    obtain ⟨e1, m1⟩ := hf h a h1 hh ok
    obtain ⟨e2, m2⟩ := hg a h1 r h' e e1.ok
    refine ⟨e1.trans e2, fun x ox hx hlx hn => ?_⟩
    obtain ⟨j1, j2⟩ := m1 x ox hx hlx hn
    obtain ⟨j3, j4⟩ := m2 x ox j2 (Nat.lt_of_lt_of_le hlx e1.next) hn
    rw [k1 _ a _ j1]
    exact ⟨j3, j4⟩
theorem GoodS.ret {α : Type} {s : Nat → Prop} (a : α) : GoodS s (fun h => some (a, h)) := GoodS.of (good_ret a)
theorem GoodS.none {α : Type} {s : Nat → Prop} : GoodS s (fun _ => (none : Option (α × AH))) := GoodS.of good_none

/-- A step, with its heap apart. -/
def srH : Option SR → Option ((Option Exit × BAct) × AH)
  | some (.next a h) => some ((none, a), h)
  | some (.stop e a h) => some ((some e, a), h)
  | none => none
theorem srH_next {r : Option SR} {a : BAct} {h : AH} : srH r = some ((none, a), h) ↔ r = some (.next a h) := by
  cases r with
  | none => simp [srH]
  | some x => cases x <;> simp [srH]
theorem srH_stop {r : Option SR} {e : Exit} {a : BAct} {h : AH} : srH r = some ((some e, a), h) ↔ r = some (.stop e a h) := by
  cases r with
  | none => simp [srH]
  | some x => cases x <;> simp [srH, and_assoc]
theorem srH_none {r : Option SR} : srH r = none ↔ r = none := by
  cases r with
  | none => simp [srH]
  | some x => cases x <;> simp [srH]

theorem good_fin (E : Env) {ih : CodeRun} (hg : Good ih) (s : Nat → Prop) (o : Oper) (a : BAct) (x : ANext) : GoodS s (fun h1 => srH (fin E ih o a x h1)) := by
  cases x with
  | value v => exact GoodS.ret _
  | skip => exact GoodS.ret _
  | defer d => exact GoodS.ret _
  | panic v => exact GoodS.ret _
  | enter f args =>
    refine GoodS.bind (f := callF E ih f args.toList) (g := fun r h2 => match r with
      | .returned v => some ((none, a.put o.dst v), h2)
      | .panicked ch => some ((some (.panic ch), a), h2)) (GoodS.of (good_call E hg f _)) (fun r => ?_) (fun h e => ?_) (fun h r h1 e => ?_)
    · cases r <;> exact GoodS.ret _
    · simp only [fin, e]; rfl
    · simp only [fin, e]; cases r <;> rfl

theorem good_stepOp (E : Env) {ih : CodeRun} (hg : Good ih) (id : Nat) (o : Oper) (a : BAct) : GoodS (· = id) (fun h => srH (stepOp E ih id o a h)) := by
  unfold stepOp
  cases opOK o.op with
  | false => exact GoodS.none
  | true =>
    simp only
    exact GoodS.bind (f := fun h => (aOp E.P id a.eval o.op).run id h) (g := fun x h1 => srH (fin E ih o a x h1)) (GoodS.am _ _) (fun x => good_fin E hg _ o a x) (fun h e => by rw [e]; rfl) (fun h x h1 e => by rw [e])

theorem good_runL (E : Env) {ih : CodeRun} (hg : Good ih) (ops : Array Oper) (base : Nat) : ∀ (l : List (Nat × Oper)) (a : BAct), GoodS (base ≤ ·) (fun h => match runL E ih ops base l a h with
    | some (e, a, h) => some ((e, a), h)
    | none => none) := by
  intro l
  induction l with
  | nil => intro a; exact GoodS.ret _
  | cons p l ihl =>
    intro a
    obtain ⟨i, o⟩ := p
    simp only [runL]
    cases bwanted ops a o with
    | false => exact ihl _
    | true =>
      simp only
      refine GoodS.bind (f := fun h => srH (stepOp E ih (Nat.add base i) o a h)) (g := fun p h1 => match p with
        | (none, a) => (match runL E ih ops base l a h1 with
          | some (e, a, h) => some ((e, a), h)
          | none => none)
        | (some e, a) => some ((e, a), h1)) ((good_stepOp E hg _ o a).mono fun x hx => by rw [hx]; exact Nat.le_add_right _ _) (fun p => ?_) (fun h e => ?_) (fun h p h1 e => ?_)
      · obtain ⟨q, a⟩ := p
        cases q with
        | none => exact ihl a
        | some e => exact GoodS.ret _
      · rw [srH_none] at e; rw [e]
      · obtain ⟨q, a⟩ := p
        cases q with
        | none => rw [srH_next] at e; rw [e]
        | some e' => rw [srH_stop] at e; rw [e]

/-! A region that draws. -/
def dsH : Option DS → Option ((BAct × List Hist) × AH)
  | some s => some ((s.a, s.hist), s.h)
  | none => none

theorem good_put (id : Nat) (m : Option AObj) : GoodS (· = id) (fun h => match putNew h id m with
    | some h1 => some ((), h1)
    | none => none) := by
  intro h r h' e ok
  cases m with
  | none =>
    simp only [putNew, Option.some.injEq, Prod.mk.injEq, true_and] at e ⊢
    obtain rfl := e
    exact ⟨Evo.refl ok, fun x ox hx _ _ => ⟨rfl, hx⟩⟩
  | some o =>
    have e' : (AM.new o (.ret ())).run id h = some (r, h') := by
      simp only [putNew, AM.run] at e ⊢
      cases hg : h.get id with
      | some _ => rw [hg] at e; cases e
      | none =>
        rw [hg] at e
        cases hb : Nat.blt id h.next with
        | false => rw [hb] at e; cases e
        | true =>
          rw [hb] at e
          exact e
    refine ⟨AM.run_evo id _ h r h' e' ok, fun x ox hx hlx hne => ?_⟩
    obtain ⟨h1, h2⟩ := AM.run_put id x ox _ h r h' e' ok hx hlx hne
    refine ⟨?_, h2⟩
    simp only [putNew, AM.run] at h1 ⊢
    cases hg : (h.put x ox).get id with
    | some _ => rw [hg] at h1; cases h1
    | none =>
      rw [hg] at h1
      cases hb : Nat.blt id (h.put x ox).next with
      | false => rw [hb] at h1; cases h1
      | true =>
        rw [hb] at h1
        exact h1

theorem good_stepFloat (E : Env) (base n : Nat) (anc : Nat) (i : Nat) (o : Oper) (a : BAct) (hist : List Hist) :
    GoodS (· = base + i) (fun h => dsH (stepFloat E base n anc i o ⟨a, h, hist⟩)) := by
  intro h r h' e ok
  simp only [stepFloat] at e ⊢
  cases hop : opOK o.op with
  | false => rw [hop] at e; cases e
  | true =>
    rw [hop] at e
    simp only at e ⊢
    cases hl : (aOp E.P (Nat.add base i) a.eval o.op).look h with
    | none => rw [hl] at e; cases e
    | some q =>
      obtain ⟨x, reads, m⟩ := q
      rw [hl] at e
      simp only at e
      cases x <;> simp only at e <;> try cases e
      rename_i v
      cases hr : readsOK base n anc hist reads with
      | false => rw [hr] at e; cases e
      | true =>
        rw [hr] at e
        simp only at e
        cases hp : putNew h (Nat.add base i) m with
        | none => rw [hp] at e; cases e
        | some h1 =>
          rw [hp] at e
          simp only [dsH, Option.some.injEq, Prod.mk.injEq] at e
          obtain ⟨rfl, rfl⟩ := e
          obtain ⟨k1, k2⟩ := good_put (Nat.add base i) m h () h1 (by simp only [hp]) ok
          refine ⟨k1, fun x ox hx hlx hne => ?_⟩
          obtain ⟨k3, k4⟩ := k2 x ox hx hlx hne
          rw [AM.look_put x ox _ h _ hl ok hx hlx]
          simp only [hr]
          cases hp2 : putNew (h.put x ox) (Nat.add base i) m with
          | none => simp only [hp2] at k3; cases k3
          | some h2 =>
            simp only [hp2, Option.some.injEq, Prod.mk.injEq, true_and] at k3
            subst k3
            exact ⟨rfl, k4⟩

theorem nolog_put (h : AH) (x : Nat) (ox : AObj) (l : List Nat) : (⟨(h.put x ox).t, (h.put x ox).next, l⟩ : AH) = (⟨h.t, h.next, l⟩ : AH).put x ox := rfl
theorem AH.ok_log {h : AH} (ok : h.ok) (l : List Nat) : (⟨h.t, h.next, l⟩ : AH).ok := ⟨ok.flat, ok.next, ok.clean⟩
theorem AH.get_log (h : AH) (l : List Nat) (i : Nat) : (⟨h.t, h.next, l⟩ : AH).get i = h.get i := rfl

/-- A step that writes or calls, in a region that draws: what it wrote stands in its own row. -/
theorem good_stepChain (E : Env) {ih : CodeRun} (hg : Good ih) (base i : Nat) (o : Oper) (s s' : DS) (e : stepChain E ih base i o s = some s') (ok : s.h.ok) :
    s'.h.ok ∧ s.h.next ≤ s'.h.next ∧ s'.h.log = [] ∧ (∃ l, s'.hist = ⟨i, s.h.next, l⟩ :: s.hist ∧ ∀ r, r < s.h.next → r ≠ base + i → r ∉ l → s'.h.get r = s.h.get r) ∧ (∀ r o, s.h.get r = some o → ∃ o', s'.h.get r = some o') ∧
    ∀ x ox, s.h.get x = none → x < s.h.next → x ≠ base + i → stepChain E ih base i o ⟨s.a, s.h.put x ox, s.hist⟩ = some ⟨s'.a, s'.h.put x ox, s'.hist⟩ ∧ s'.h.get x = none := by
  simp only [stepChain] at e ⊢
  cases hs : stepOp E ih (Nat.add base i) o s.a ⟨s.h.t, s.h.next, []⟩ with
  | none => rw [hs] at e; cases e
  | some q =>
    rw [hs] at e
    cases q with
    | stop _ _ _ => cases e
    | next a1 h1 =>
      simp only [Option.some.injEq] at e
      subst e
      obtain ⟨ev, mp⟩ := good_stepOp E hg (Nat.add base i) o s.a _ _ _ (srH_next.2 hs) (AH.ok_log ok [])
      obtain ⟨l, hl1, hl2⟩ := ev.log
      refine ⟨AH.ok_log ev.ok [], ev.next, rfl, ⟨h1.log, rfl, fun r hr hne hnl => ?_⟩, fun r x hx => ev.keep r x hx, fun x ox hx hlx hne => ?_⟩
      · rw [hl1] at hnl
        exact hl2 r hr hne (by simpa using hnl)
      · obtain ⟨k1, k2⟩ := mp x ox hx hlx hne
        rw [nolog_put]
        rw [srH_next] at k1
        rw [k1]
        exact ⟨rfl, k2⟩
end Go.Ev

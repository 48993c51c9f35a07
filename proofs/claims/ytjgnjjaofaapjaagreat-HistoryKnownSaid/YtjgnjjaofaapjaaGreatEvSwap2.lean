import Derived.Test.YtjgnjjaofaapjaaGreatEvSwap
namespace Go.Ev
section
variable {ops : Array Oper}

theorem putNew_spec {h : AH} (ok : h.ok) {id : Nat} {m : Option AObj} {h1 : AH} (p : putNew h id m = some h1) :
    h1.ok ∧ h1.next = h.next ∧ h1.log = h.log ∧ (∀ r, r ≠ id → h1.get r = h.get r) ∧ (∀ r x, h.get r = some x → h1.get r = some x) := by
  cases m with
  | none =>
    simp only [putNew, Option.some.injEq] at p
    subst p
    exact ⟨ok, rfl, rfl, fun _ _ => rfl, fun _ _ e => e⟩
  | some o =>
    simp only [putNew] at p
    cases hg : h.get id with
    | some _ => rw [hg] at p; cases p
    | none =>
      rw [hg] at p
      cases hb : Nat.blt id h.next with
      | false => rw [hb] at p; cases p
      | true =>
        rw [hb] at p
        simp only [Option.some.injEq] at p
        subst p
        have hlt := lt_of_blt hb
        refine ⟨AH.ok_put ok hlt o, rfl, rfl, fun r hr => AH.get_put_ne h ok id r o hlt (Ne.symm hr), fun r x e => ?_⟩
        rw [AH.get_put_ne h ok id r o hlt (fun e2 => by rw [← e2, hg] at e; cases e)]
        exact e

/-- What is known of a float that succeeded. -/
theorem stepFloat_iff {E : Env} {base n : Nat} {anc : Nat} {i : Nat} {o : Oper} {s s1 : DS} :
    stepFloat E base n anc i o s = some s1 ↔ opOK o.op = true ∧ ∃ v reads m h1, (aOp E.P (Nat.add base i) s.a.eval o.op).look s.h = some (.value v, reads, m) ∧ readsOK base n anc s.hist reads = true ∧
      putNew s.h (Nat.add base i) m = some h1 ∧ s1 = ⟨s.a.put o.dst v, h1, s.hist⟩ := by
  constructor
  · intro e
    simp only [stepFloat] at e
    cases hop : opOK o.op with
    | false => rw [hop] at e; cases e
    | true =>
      rw [hop] at e
      simp only at e
      cases hl : (aOp E.P (Nat.add base i) s.a.eval o.op).look s.h with
      | none => rw [hl] at e; cases e
      | some q =>
        obtain ⟨x, reads, m⟩ := q
        rw [hl] at e
        simp only at e
        cases x <;> simp only at e <;> try cases e
        rename_i v
        cases hr : readsOK base n anc s.hist reads with
        | false => rw [hr] at e; cases e
        | true =>
          rw [hr] at e
          simp only at e
          cases hp : putNew s.h (Nat.add base i) m with
          | none => rw [hp] at e; cases e
          | some h1 =>
            rw [hp] at e
            simp only [Option.some.injEq] at e
            exact ⟨rfl, v, reads, m, h1, rfl, hr, hp, e.symm⟩
  · rintro ⟨hop, v, reads, m, h1, hl, hr, hp, rfl⟩
    simp only [stepFloat, hop, hl, hr, hp]

theorem readsOK_iff {base n : Nat} {anc : Nat} {hist : List Hist} : ∀ {l : List Nat}, readsOK base n anc hist l = true ↔ ∀ r ∈ l, readOK base n anc hist r = true
  | [] => by simp [readsOK]
  | r :: l => by simp [readsOK, readsOK_iff (l := l)]

theorem readOK_tail {base n : Nat} {anc : Nat} {y : Hist} {hist : List Hist} {r : Nat} (h : readOK base n anc (y :: hist) r = true) : readOK base n anc hist r = true ∧ (bitN anc y.i = true ∨ (r < y.next ∧ r ∉ y.log)) := by
  unfold readOK at h ⊢
  simp only [histOK, Bool.and_eq_true, Bool.or_eq_true, Bool.not_eq_true'] at h ⊢
  refine ⟨⟨h.1, h.2.2⟩, ?_⟩
  rcases h.2.1 with h1 | ⟨h1, h2⟩
  · exact .inl h1
  · exact .inr ⟨lt_of_blt h1, (memN_false _ _).1 h2⟩

structure Beside (E : Env) (ih : CodeRun) (ops : Array Oper) (al : List Nat) (base i : Nat) (o : Oper) (s s1 : DS) : Prop extends StepFacts base i o s s1 where
  putA : ∀ (dx : Option Tmp) (v : Value), (∀ d, dx = some d → d ∉ o.looksAt ops) → (∀ d, dx = some d → o.dst ≠ some d) →
    stepD E ih ops al base i ⟨s.a.put dx v, s.h, s.hist⟩ = some ⟨s1.a.put dx v, s1.h, s1.hist⟩
  putH : ∀ x ox, s.h.get x = none → x < s.h.next → x ≠ base + i → stepD E ih ops al base i ⟨s.a, s.h.put x ox, s.hist⟩ = some ⟨s1.a, s1.h.put x ox, s1.hist⟩ ∧ s1.h.get x = none

theorem beside (E : Env) {ih : CodeRun} (hg : Good ih) (al : List Nat) (base i : Nat) (o : Oper) (ho : ops[i]? = some o) (s s1 : DS) (e : stepD E ih ops al base i s = some s1) (ok : s.h.ok) (w : s.a.wf) :
    Beside E ih ops al base i o s s1 := by
  obtain ⟨a, h, hist⟩ := s
  simp only at ok w
  simp only [stepD, ho] at e
  cases hw : bwanted ops a o with
  | false =>
    rw [hw] at e
    simp only [Option.some.injEq] at e
    subst e
    refine ⟨⟨⟨a, undef, .inl rfl, rfl⟩, ok, Nat.le_refl _, fun h => h, fun r x e => ⟨x, e⟩, fun n anc r _ _ h => ⟨rfl, h⟩⟩, fun dx v hl hd => ?_, fun x ox hx hlx hne => ⟨?_, hx⟩⟩
    · simp only [stepD, ho]
      rw [bwanted_put w o dx v hl, hw]
      simp only
      rw [BAct.put_comm w v undef hd]
    · simp only [stepD, ho]
      rw [hw]
  | true =>
    rw [hw] at e
    simp only at e
    cases hf : floats o.op with
    | true =>
      rw [hf] at e
      simp only at e
      have e0 := e
      rw [stepFloat_iff] at e
      obtain ⟨hop, v, reads, m, h1, hl, hr, hp, rfl⟩ := e
      obtain ⟨p1, p2, p3, p4, p5⟩ := putNew_spec ok hp
      refine ⟨⟨⟨a, v, .inl rfl, rfl⟩, p1, by simp only; omega, fun h => by simp only at h ⊢; rw [p3]; exact h, fun r x e => ⟨x, p5 r x e⟩, fun n anc r hi hn h => ⟨p4 r (readOK_ne hi hn h), h⟩⟩, fun dx u hlk hd => ?_, fun x ox hx hlx hne => ?_⟩
      · simp only [stepD, ho]
        rw [bwanted_put w o dx u hlk, hw, hf]
        simp only
        rw [stepFloat_iff]
        refine ⟨hop, v, reads, m, h1, ?_, hr, hp, ?_⟩
        · simp only
          rw [aOp_congr o.op (eval_put_looks w o dx u hlk)]
          exact hl
        · simp only
          rw [BAct.put_comm w u v hd]
      · have k := (good_stepFloat E base ops.size (al.getD i 0) i o a hist h (a.put o.dst v, hist) h1 (by show dsH (stepFloat E base ops.size (al.getD i 0) i o ⟨a, h, hist⟩) = _; rw [e0]; rfl) ok).2 x ox hx hlx hne
        refine ⟨?_, k.2⟩
        simp only [stepD, ho]
        rw [hw, hf]
        simp only
        have k1 : dsH (stepFloat E base ops.size (al.getD i 0) i o ⟨a, h.put x ox, hist⟩) = some ((a.put o.dst v, hist), h1.put x ox) := k.1
        cases hs : stepFloat E base ops.size (al.getD i 0) i o ⟨a, h.put x ox, hist⟩ with
        | none => rw [hs] at k1; cases k1
        | some s2 =>
          obtain ⟨a2, h2, hist2⟩ := s2
          rw [hs] at k1
          simp only [dsH, Option.some.injEq, Prod.mk.injEq] at k1
          obtain ⟨⟨rfl, rfl⟩, rfl⟩ := k1
          rfl
    | false =>
      rw [hf] at e
      simp only at e
      have c := good_stepChain E hg base i o _ s1 e ok
      obtain ⟨c1, c2, c3, ⟨l, c4, c5⟩, c6, c7⟩ := c
      have mv : Moved o a s1.a ∧ ∀ (dx : Option Tmp) (v : Value), (∀ d, dx = some d → d ∉ o.looksAt ops) → (∀ d, dx = some d → o.dst ≠ some d) → stepChain E ih base i o ⟨a.put dx v, h, hist⟩ = some ⟨s1.a.put dx v, s1.h, s1.hist⟩ := by
        simp only [stepChain] at e ⊢
        cases hs : stepOp E ih (Nat.add base i) o a ⟨h.t, h.next, []⟩ with
        | none => rw [hs] at e; cases e
        | some q =>
          rw [hs] at e
          cases q with
          | stop _ _ _ => cases e
          | next a1 h1 =>
            simp only [Option.some.injEq] at e
            subst e
            obtain ⟨m, f⟩ := stepOp_put (ops := ops) E ih _ o w _ a1 h1 hs
            exact ⟨m, fun dx v hl hd => by rw [f dx v hl hd]⟩
      refine ⟨⟨mv.1, c1, c2, fun _ => c3, c6, fun n anc r hi hn hh => ?_⟩, fun dx v hlk hd => ?_, fun x ox hx hlx hne => ?_⟩
      · have hne := readOK_ne hi hn hh
        rw [c4] at hh
        obtain ⟨h1, h2⟩ := readOK_tail hh
        refine ⟨?_, h1⟩
        rcases h2 with h2 | ⟨h2, h3⟩
        · rw [hi] at h2; cases h2
        · exact c5 r h2 hne h3
      · simp only [stepD, ho]
        rw [bwanted_put w o dx v hlk, hw, hf]
        exact mv.2 dx v hlk hd
      · obtain ⟨k1, k2⟩ := c7 x ox hx hlx hne
        refine ⟨?_, k2⟩
        simp only [stepD, ho]
        rw [hw, hf]
        exact k1
end
end Go.Ev

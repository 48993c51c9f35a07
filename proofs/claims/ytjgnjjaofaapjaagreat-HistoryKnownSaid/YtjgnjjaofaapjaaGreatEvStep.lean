import Derived.Test.YtjgnjjaofaapjaaGreatEvTrie
namespace Go.Ev

/-- How a heap goes on: what was there is there, and is the same where it was not written (nor is one of those set aside). -/
structure Evo (s : Nat → Prop) (h h' : AH) : Prop where
  ok : h'.ok
  next : h.next ≤ h'.next
  log : ∃ l, h'.log = l ++ h.log ∧ ∀ r, r < h.next → ¬ s r → r ∉ l → h'.get r = h.get r
  keep : ∀ r o, h.get r = some o → ∃ o', h'.get r = some o'

abbrev Nobody : Nat → Prop := fun _ => False

theorem Evo.refl {s : Nat → Prop} {h : AH} (ok : h.ok) : Evo s h h := ⟨ok, Nat.le_refl _, ⟨[], rfl, fun _ _ _ _ => rfl⟩, fun _ o e => ⟨o, e⟩⟩
theorem Evo.trans {s : Nat → Prop} {a b c : AH} (h : Evo s a b) (k : Evo s b c) : Evo s a c := by
  obtain ⟨l1, e1, f1⟩ := h.log
  obtain ⟨l2, e2, f2⟩ := k.log
  refine ⟨k.ok, Nat.le_trans h.next k.next, ⟨l2 ++ l1, by rw [e2, e1, List.append_assoc], fun r hr hs hl => ?_⟩, fun r o e => ?_⟩
  · rw [f2 r (Nat.lt_of_lt_of_le hr h.next) hs (fun hm => hl (by simp [hm])), f1 r hr hs (fun hm => hl (by simp [hm]))]
  · obtain ⟨o', e'⟩ := h.keep r o e
    exact k.keep r o' e'
theorem Evo.mono {s s' : Nat → Prop} {h h' : AH} (e : Evo s h h') (hs : ∀ r, r < h.next → s r → s' r) : Evo s' h h' := by
  obtain ⟨l, e1, f1⟩ := e.log
  exact ⟨e.ok, e.next, ⟨l, e1, fun r hr hn hl => f1 r hr (fun h => hn (hs r hr h)) hl⟩, e.keep⟩

theorem AH.put_put {h : AH} (ok : h.ok) {i x : Nat} (hi : i < h.next) (hx : x < h.next) (hne : i ≠ x) (o o' : AObj) : (h.put x o).put i o' = (h.put i o').put x o := by
  unfold AH.put
  simp only [AH.mk.injEq, and_true]
  have hn := ok.next
  unfold most at hn
  exact Tr.put_comm o o' deep h.t x i ok.flat (by show x < 65536; omega) (by show i < 65536; omega) (Ne.symm hne)
theorem AH.put_set {h : AH} (ok : h.ok) {i x : Nat} (hi : i < h.next) (hx : x < h.next) (hne : i ≠ x) (o o' : AObj) : (h.put x o).set i o' = (h.set i o').put x o := by
  have := AH.put_put ok hi hx hne o o'
  unfold AH.put at this
  simp only [AH.mk.injEq] at this
  unfold AH.set AH.put
  simp only [AH.mk.injEq]
  exact ⟨this.1, trivial, trivial⟩

section
variable {α : Type}
theorem AM.run_evo (id : Nat) : ∀ (m : AM α) (h : AH) (v : α) (h' : AH), m.run id h = some (v, h') → h.ok → Evo (· = id) h h' := by
  intro m
  induction m with
  | ret a => intro h v h' e ok; simp only [AM.run, Option.some.injEq, Prod.mk.injEq] at e; obtain ⟨_, rfl⟩ := e; exact Evo.refl ok
  | get i k ih =>
    intro h v h' e ok
    simp only [AM.run] at e
    cases hg : h.get i with
    | none => rw [hg] at e; cases e
    | some o => rw [hg] at e; exact ih o h v h' e ok
  | set i o k ih =>
    intro h v h' e ok
    simp only [AM.run] at e
    cases hg : h.get i with
    | none => rw [hg] at e; cases e
    | some o' =>
      rw [hg] at e
      have hlt := AH.get_lt hg
      refine Evo.trans ⟨AH.ok_set ok hlt _, Nat.le_refl _, ⟨[i], rfl, fun r _ _ hl => AH.get_set_ne h ok i r o hlt (fun e => hl (by simp [e]))⟩, fun r x hx => ?_⟩ (ih _ v h' e (AH.ok_set ok hlt _))
      by_cases e2 : r = i
      · subst e2; exact ⟨o, AH.get_set_same h _ _ hlt⟩
      · exact ⟨x, by rw [AH.get_set_ne h ok i r o hlt (Ne.symm e2)]; exact hx⟩
  | kill i k ih =>
    intro h v h' e ok
    simp only [AM.run] at e
    cases hg : h.get i with
    | none => rw [hg] at e; cases e
    | some o' =>
      rw [hg] at e
      have hlt := AH.get_lt hg
      refine Evo.trans ⟨AH.ok_set ok hlt _, Nat.le_refl _, ⟨[i], rfl, fun r _ _ hl => AH.get_set_ne h ok i r .dead hlt (fun e => hl (by simp [e]))⟩, fun r x hx => ?_⟩ (ih _ v h' e (AH.ok_set ok hlt _))
      by_cases e2 : r = i
      · subst e2; exact ⟨.dead, AH.get_set_same h _ _ hlt⟩
      · exact ⟨x, by rw [AH.get_set_ne h ok i r .dead hlt (Ne.symm e2)]; exact hx⟩
  | new o k ih =>
    intro h v h' e ok
    simp only [AM.run] at e
    cases hg : h.get id with
    | some _ => rw [hg] at e; cases e
    | none =>
      rw [hg] at e
      cases hb : Nat.blt id h.next with
      | false => rw [hb] at e; cases e
      | true =>
        rw [hb] at e
        have hlt := lt_of_blt hb
        refine Evo.trans ⟨AH.ok_put ok hlt _, Nat.le_refl _, ⟨[], rfl, fun r _ hs _ => AH.get_put_ne h ok id r o hlt (fun e => hs e.symm)⟩, fun r x hx => ?_⟩ (ih _ v h' e (AH.ok_put ok hlt _))
        by_cases e2 : r = id
        · subst e2; exact ⟨o, AH.get_put_same h _ _ hlt⟩
        · exact ⟨x, by rw [AH.get_put_ne h ok id r o hlt (Ne.symm e2)]; exact hx⟩
  | fail => intro h v h' e ok; simp [AM.run] at e

theorem AM.run_next (id : Nat) : ∀ (m : AM α) (h : AH) (v : α) (h' : AH), m.run id h = some (v, h') → h'.next = h.next := by
  intro m
  induction m with
  | ret a => intro h v h' e; simp only [AM.run, Option.some.injEq, Prod.mk.injEq] at e; rw [← e.2]
  | get i k ih =>
    intro h v h' e
    simp only [AM.run] at e
    cases hg : h.get i with
    | none => rw [hg] at e; cases e
    | some o => rw [hg] at e; exact ih o h v h' e
  | set i o k ih =>
    intro h v h' e
    simp only [AM.run] at e
    cases hg : h.get i with
    | none => rw [hg] at e; cases e
    | some o' => rw [hg] at e; exact ih (h.set i o) v h' e
  | kill i k ih =>
    intro h v h' e
    simp only [AM.run] at e
    cases hg : h.get i with
    | none => rw [hg] at e; cases e
    | some o' => rw [hg] at e; exact ih (h.del i) v h' e
  | new o k ih =>
    intro h v h' e
    simp only [AM.run] at e
    cases hg : h.get id with
    | some _ => rw [hg] at e; cases e
    | none =>
      rw [hg] at e
      cases hb : Nat.blt id h.next with
      | false => rw [hb] at e; cases e
      | true => rw [hb] at e; exact ih (h.put id o) v h' e
  | fail => intro h v h' e; simp [AM.run] at e

theorem AM.run_put (id x : Nat) (ox : AObj) : ∀ (m : AM α) (h : AH) (v : α) (h' : AH), m.run id h = some (v, h') → h.ok → h.get x = none → x < h.next → x ≠ id →
    m.run id (h.put x ox) = some (v, h'.put x ox) ∧ h'.get x = none := by
  intro m
  induction m with
  | ret a => intro h v h' e ok hx hlt hne; simp only [AM.run, Option.some.injEq, Prod.mk.injEq] at e ⊢; obtain ⟨rfl, rfl⟩ := e; exact ⟨⟨rfl, rfl⟩, hx⟩
  | get i k ih =>
    intro h v h' e ok hx hlt hne
    simp only [AM.run] at e ⊢
    cases hg : h.get i with
    | none => rw [hg] at e; cases e
    | some o =>
      rw [hg] at e
      rw [AH.get_put_ne h ok x i ox hlt (fun e => by rw [e, hg] at hx; cases hx), hg]
      exact ih o h v h' e ok hx hlt hne
  | set i o k ih =>
    intro h v h' e ok hx hlt hne
    simp only [AM.run] at e ⊢
    cases hg : h.get i with
    | none => rw [hg] at e; cases e
    | some o' =>
      rw [hg] at e
      have hix : i ≠ x := fun e => by rw [← e, hg] at hx; cases hx
      rw [AH.get_put_ne h ok x i ox hlt (Ne.symm hix), hg]
      simp only
      rw [AH.put_set ok (AH.get_lt hg) hlt hix ox o]
      exact ih _ v h' e (AH.ok_set ok (AH.get_lt hg) _) (by rw [AH.get_set_ne h ok i x o (AH.get_lt hg) hix]; exact hx) hlt hne
  | kill i k ih =>
    intro h v h' e ok hx hlt hne
    simp only [AM.run] at e ⊢
    cases hg : h.get i with
    | none => rw [hg] at e; cases e
    | some o' =>
      rw [hg] at e
      have hix : i ≠ x := fun e => by rw [← e, hg] at hx; cases hx
      rw [AH.get_put_ne h ok x i ox hlt (Ne.symm hix), hg]
      simp only [AH.del] at e ⊢
      rw [AH.put_set ok (AH.get_lt hg) hlt hix ox .dead]
      exact ih _ v h' e (AH.ok_set ok (AH.get_lt hg) _) (by rw [AH.get_set_ne h ok i x .dead (AH.get_lt hg) hix]; exact hx) hlt hne
  | new o k ih =>
    intro h v h' e ok hx hlt hne
    simp only [AM.run] at e ⊢
    cases hg : h.get id with
    | some _ => rw [hg] at e; cases e
    | none =>
      rw [hg] at e
      rw [AH.get_put_ne h ok x id ox hlt hne, hg]
      simp only
      cases hb : Nat.blt id h.next with
      | false => rw [hb] at e; cases e
      | true =>
        rw [hb] at e
        have hlt2 := lt_of_blt hb
        have hb' : Nat.blt id (h.put x ox).next = true := hb
        rw [hb']
        simp only [cond_true] at e ⊢
        rw [AH.put_put ok hlt2 hlt (Ne.symm hne) ox o]
        exact ih _ v h' e (AH.ok_put ok hlt2 _) (by rw [AH.get_put_ne h ok id x o hlt2 (Ne.symm hne)]; exact hx) hlt hne
  | fail => intro h v h' e; simp [AM.run] at e

/-! Looking. -/
theorem AM.look_put (x : Nat) (ox : AObj) : ∀ (m : AM α) (h : AH) (r : α × List Nat × Option AObj), m.look h = some r → h.ok → h.get x = none → x < h.next → m.look (h.put x ox) = some r := by
  intro m
  induction m with
  | ret a => intro h r e ok hx hlt; exact e
  | get i k ih =>
    intro h r e ok hx hlt
    simp only [AM.look] at e ⊢
    cases hg : h.get i with
    | none => rw [hg] at e; cases e
    | some o =>
      rw [hg] at e
      rw [AH.get_put_ne h ok x i ox hlt (fun e => by rw [e, hg] at hx; cases hx), hg]
      simp only at e ⊢
      cases hk : (k o).look h with
      | none => rw [hk] at e; cases e
      | some q => rw [hk] at e; rw [ih o h q hk ok hx hlt]; exact e
  | new o k ih =>
    intro h r e ok hx hlt
    simp only [AM.look] at e ⊢
    cases hk : k.look h with
    | none => rw [hk] at e; cases e
    | some q => rw [hk] at e; rw [ih h q hk ok hx hlt]; exact e
  | set i o k ih => intro h r e; simp [AM.look] at e
  | kill i k ih => intro h r e; simp [AM.look] at e
  | fail => intro h r e; simp [AM.look] at e

theorem AM.look_local : ∀ (m : AM α) (h h2 : AH) (a : α) (l : List Nat) (n : Option AObj), m.look h = some (a, l, n) → (∀ r ∈ l, h2.get r = h.get r) → m.look h2 = some (a, l, n) := by
  intro m
  induction m with
  | ret a => intro h h2 b l n e _; exact e
  | get i k ih =>
    intro h h2 b l n e f
    simp only [AM.look] at e ⊢
    cases hg : h.get i with
    | none => rw [hg] at e; cases e
    | some o =>
      rw [hg] at e
      simp only at e
      cases hk : (k o).look h with
      | none => rw [hk] at e; cases e
      | some q =>
        obtain ⟨a', l', n'⟩ := q
        rw [hk] at e
        simp only [Option.some.injEq, Prod.mk.injEq] at e
        obtain ⟨rfl, rfl, rfl⟩ := e
        rw [f i (by simp), hg]
        simp only
        rw [ih o h h2 _ _ _ hk (fun r hr => f r (by simp [hr]))]
  | new o k ih =>
    intro h h2 b l n e f
    simp only [AM.look] at e ⊢
    cases hk : k.look h with
    | none => rw [hk] at e; cases e
    | some q =>
      obtain ⟨a', l', n'⟩ := q
      rw [hk] at e
      cases n' with
      | some _ => simp at e
      | none =>
        simp only [Option.some.injEq, Prod.mk.injEq] at e
        obtain ⟨rfl, rfl, rfl⟩ := e
        rw [ih h h2 _ _ _ hk f]
  | set i o k ih => intro h h2 b l n e; simp [AM.look] at e
  | kill i k ih => intro h h2 b l n e; simp [AM.look] at e
  | fail => intro h h2 b l n e; simp [AM.look] at e

theorem AM.look_run0 (id : Nat) : ∀ (m : AM α) (h : AH) (a : α) (l : List Nat), m.look h = some (a, l, none) → m.run id h = some (a, h) := by
  intro m
  induction m with
  | ret a => intro h b l e; simp only [AM.look, Option.some.injEq, Prod.mk.injEq] at e; simp [AM.run, e.1]
  | get i k ih =>
    intro h b l e
    simp only [AM.look] at e
    simp only [AM.run]
    cases hg : h.get i with
    | none => rw [hg] at e; cases e
    | some o =>
      rw [hg] at e
      simp only at e ⊢
      cases hk : (k o).look h with
      | none => rw [hk] at e; cases e
      | some q =>
        obtain ⟨a', l', n'⟩ := q
        rw [hk] at e
        simp only [Option.some.injEq, Prod.mk.injEq] at e
        obtain ⟨rfl, rfl, rfl⟩ := e
        exact ih o h _ _ hk
  | new o k ih =>
    intro h b l e
    simp only [AM.look] at e
    cases hk : k.look h with
    | none => rw [hk] at e; cases e
    | some q =>
      obtain ⟨a', l', n'⟩ := q
      rw [hk] at e
      cases n' <;> simp at e
  | set i o k ih => intro h b l e; simp [AM.look] at e
  | kill i k ih => intro h b l e; simp [AM.look] at e
  | fail => intro h b l e; simp [AM.look] at e

theorem AM.look_run (id : Nat) : ∀ (m : AM α) (h : AH) (a : α) (l : List Nat) (n : Option AObj) (h1 : AH), h.ok → m.look h = some (a, l, n) → putNew h id n = some h1 → m.run id h = some (a, h1) := by
  intro m
  induction m with
  | ret a => intro h b l n h1 ok e p; simp only [AM.look, Option.some.injEq, Prod.mk.injEq] at e; obtain ⟨rfl, rfl, rfl⟩ := e; simp only [putNew, Option.some.injEq] at p; simp [AM.run, p]
  | get i k ih =>
    intro h b l n h1 ok e p
    simp only [AM.look] at e
    simp only [AM.run]
    cases hg : h.get i with
    | none => rw [hg] at e; cases e
    | some o =>
      rw [hg] at e
      simp only at e ⊢
      cases hk : (k o).look h with
      | none => rw [hk] at e; cases e
      | some q =>
        obtain ⟨a', l', n'⟩ := q
        rw [hk] at e
        simp only [Option.some.injEq, Prod.mk.injEq] at e
        obtain ⟨rfl, rfl, rfl⟩ := e
        exact ih o h _ _ _ _ ok hk p
  | new o k ih =>
    intro h b l n h1 ok e p
    simp only [AM.look] at e
    simp only [AM.run]
    cases hk : k.look h with
    | none => rw [hk] at e; cases e
    | some q =>
      obtain ⟨a', l', n'⟩ := q
      rw [hk] at e
      cases n' with
      | some _ => simp at e
      | none =>
        simp only [Option.some.injEq, Prod.mk.injEq] at e
        obtain ⟨rfl, rfl, rfl⟩ := e
        simp only [putNew] at p
        cases hg : h.get id with
        | some _ => rw [hg] at p; cases p
        | none =>
          rw [hg] at p
          cases hb : Nat.blt id h.next with
          | false => rw [hb] at p; cases p
          | true =>
            rw [hb] at p
            simp only [Option.some.injEq] at p
            subst p
            simp only [cond_true]
            exact AM.look_run0 id k _ _ _ (AM.look_put id o k h _ hk ok hg (lt_of_blt hb))
  | set i o k ih => intro h b l n h1 ok e; simp [AM.look] at e
  | kill i k ih => intro h b l n h1 ok e; simp [AM.look] at e
  | fail => intro h b l n h1 ok e; simp [AM.look] at e
end
end Go.Ev

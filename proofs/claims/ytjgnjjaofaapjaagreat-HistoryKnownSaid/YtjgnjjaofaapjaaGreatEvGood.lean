import Derived.Test.YtjgnjjaofaapjaaGreatEvStep
namespace Go.Ev

/-- What a walk does to the heap: it goes on, and an object more (at a number set aside) changes nothing. -/
def GoodC {α : Type} (f : AH → Option (α × AH)) : Prop :=
  ∀ (h : AH) (r : α) (h' : AH), f h = some (r, h') → h.ok → Evo Nobody h h' ∧ ∀ x ox, h.get x = none → x < h.next → f (h.put x ox) = some (r, h'.put x ox) ∧ h'.get x = none

theorem AH.more_put (h : AH) (n x : Nat) (ox : AObj) : (h.put x ox).more n = (h.more n).put x ox := rfl
theorem AH.more_next (h : AH) (n : Nat) : (h.more n).next = h.next + n := rfl

theorem evo_more {h : AH} (ok : h.ok) {n : Nat} (hn : h.next + n ≤ most) (s : Nat → Prop) : Evo s h (h.more n) :=
  ⟨AH.ok_more ok hn, Nat.le_add_right _ _, ⟨[], rfl, fun r _ _ _ => AH.get_more ok hn r⟩, fun r o e => ⟨o, by rw [AH.get_more ok hn]; exact e⟩⟩

/-- An operation that makes its object at a number that was set aside only now. -/
theorem good_am {α : Type} (m : AM α) (id n : Nat) {h : AH} (ok : h.ok) (hn : h.next + n ≤ most) (hid : h.next ≤ id) {r : α} {h' : AH} (e : m.run id (h.more n) = some (r, h')) :
    Evo Nobody h h' ∧ ∀ x ox, h.get x = none → x < h.next → m.run id ((h.put x ox).more n) = some (r, h'.put x ox) ∧ h'.get x = none := by
  have okm := AH.ok_more ok hn
  have ev := AM.run_evo _ _ _ _ _ e okm
  refine ⟨((evo_more ok hn (· = id)).trans ev).mono fun r hr hs => ?_, fun x ox hx hlx => ?_⟩
  · have hs' : r = id := hs
    omega
  · rw [AH.more_put]
    exact AM.run_put id x ox m _ _ _ e okm (by rw [AH.get_more ok hn]; exact hx) (by rw [AH.more_next]; omega) (by omega)

theorem good_tab (r : List Value → Nat → AM Value) (args : List Value) : GoodC (tabF r args) := by
  intro h v h' e ok
  have key : ∀ h : AH, tabF r args h = bif Nat.blt h.next most then (match (r args h.next).run h.next (h.more 1) with
      | some (v, h1) => some (AEnd.returned v, h1)
      | none => none) else none := fun _ => rfl
  rw [key] at e
  cases hb : Nat.blt h.next most with
  | false => rw [hb] at e; cases e
  | true =>
    have hn : h.next + 1 ≤ most := lt_of_blt hb
    rw [hb] at e
    simp only [cond_true] at e
    cases hr : (r args h.next).run h.next (h.more 1) with
    | none => rw [hr] at e; cases e
    | some p =>
      obtain ⟨u, h1⟩ := p
      rw [hr] at e
      simp only [Option.some.injEq, Prod.mk.injEq] at e
      obtain ⟨rfl, rfl⟩ := e
      obtain ⟨g1, g2⟩ := good_am _ _ 1 ok hn (Nat.le_refl _) hr
      refine ⟨g1, fun x ox hx hlx => ?_⟩
      obtain ⟨g3, g4⟩ := g2 x ox hx hlx
      refine ⟨?_, g4⟩
      rw [key]
      have hb' : Nat.blt (h.put x ox).next most = true := hb
      have hnx : (h.put x ox).next = h.next := rfl
      rw [hb', hnx, g3]
      rfl

theorem good_bind {α β : Type} {f : AH → Option (α × AH)} {g : α → AH → Option (β × AH)} {k : AH → Option (β × AH)} (hf : GoodC f) (hg : ∀ a, GoodC (g a))
    (k0 : ∀ h, f h = none → k h = none) (k1 : ∀ h a h1, f h = some (a, h1) → k h = g a h1) : GoodC k := by
  intro h r h' e ok
  cases hh : f h with
  | none => rw [k0 h hh] at e; cases e
  | some p =>
    obtain ⟨a, h1⟩ := p
    rw [k1 h a h1 hh] at e
    obtain ⟨e1, m1⟩ := hf h a h1 hh ok
    obtain ⟨e2, m2⟩ := hg a h1 r h' e e1.ok
    refine ⟨e1.trans e2, fun x ox hx hlx => ?_⟩
    obtain ⟨j1, j2⟩ := m1 x ox hx hlx
    obtain ⟨j3, j4⟩ := m2 x ox j2 (Nat.lt_of_lt_of_le hlx e1.next)
    rw [k1 _ a _ j1]
    exact ⟨j3, j4⟩
theorem good_ret {α : Type} (a : α) : GoodC (fun h => some (a, h)) := by
  intro h r h' e ok
  simp only [Option.some.injEq, Prod.mk.injEq] at e
  obtain ⟨rfl, rfl⟩ := e
  exact ⟨Evo.refl ok, fun x ox hx _ => ⟨rfl, hx⟩⟩
theorem good_none {α : Type} : GoodC (fun _ => (none : Option (α × AH))) := by intro h r h' e; cases e

/-- Code, told as a function of the heap alone. -/
def asF (ih : CodeRun) (c : Code) (a : BAct) : AH → Option ((Exit × BAct) × AH) := fun h => match ih c a h with
  | some (e, a, h) => some ((e, a), h)
  | none => none
def Good (ih : CodeRun) : Prop := ∀ c a, GoodC (asF ih c a)

theorem asF_some {ih : CodeRun} {c : Code} {a : BAct} {h : AH} {e : Exit} {a' : BAct} {h' : AH} : asF ih c a h = some ((e, a'), h') ↔ ih c a h = some (e, a', h') := by
  unfold asF
  cases hi : ih c a h with
  | none => simp
  | some p => obtain ⟨x, y, z⟩ := p; simp [and_assoc]

theorem good_of {ih : CodeRun} (hg : Good ih) {c : Code} {a : BAct} {h : AH} {e : Exit} {a' : BAct} {h' : AH} (hr : ih c a h = some (e, a', h')) (ok : h.ok) :
    Evo Nobody h h' ∧ ∀ x ox, h.get x = none → x < h.next → ih c a (h.put x ox) = some (e, a', h'.put x ox) ∧ h'.get x = none := by
  obtain ⟨g1, g2⟩ := hg c a h (e, a') h' (asF_some.2 hr) ok
  exact ⟨g1, fun x ox hx hlx => let ⟨k1, k2⟩ := g2 x ox hx hlx; ⟨asF_some.1 k1, k2⟩⟩

/-- It only reads. -/
inductive Calm {α : Type} : AM α → Prop
  | ret (a : α) : Calm (.ret a)
  | get (i : Nat) (k : AObj → AM α) (h : ∀ o, Calm (k o)) : Calm (.get i k)
  | fail : Calm .fail

theorem Calm.bind {α β : Type} {m : AM α} {f : α → AM β} (h : Calm m) (hf : ∀ a, Calm (f a)) : Calm (m.bind f) := by
  induction h with
  | ret a => exact hf a
  | get i k _ ih => exact .get i _ ih
  | fail => exact .fail

theorem Calm.run {α : Type} {m : AM α} (c : Calm m) (id : Nat) : ∀ {h : AH} {v : α} {h' : AH}, m.run id h = some (v, h') → h' = h ∧ ∀ (x : Nat) (ox : AObj), h.ok → h.get x = none → x < h.next → m.run id (h.put x ox) = some (v, h.put x ox) := by
  induction c with
  | ret a => intro h v h' e; simp only [AM.run, Option.some.injEq, Prod.mk.injEq] at e ⊢; obtain ⟨rfl, rfl⟩ := e; exact ⟨rfl, fun _ _ _ _ _ => by simp⟩
  | get i k _ ih =>
    intro h v h' e
    simp only [AM.run] at e ⊢
    cases hg : h.get i with
    | none => rw [hg] at e; cases e
    | some o =>
      rw [hg] at e
      obtain ⟨h1, h2⟩ := ih o e
      refine ⟨h1, fun x ox ok hx hlx => ?_⟩
      rw [AH.get_put_ne h ok x i ox hlx (fun e => by rw [e, hg] at hx; cases hx), hg]
      exact h2 x ox ok hx hlx
  | fail => intro h v h' e; simp [AM.run] at e

theorem calm_cell1 (agg : Bool) (l : List Value) : Calm (cell1 agg l) := by
  unfold cell1
  cases agg with
  | true => exact .ret _
  | false =>
    simp only [cond_false]
    split
    · exact .ret _
    · exact .fail
theorem calm_loadV (P : Program) (t : TypeId) (x : Value) : Calm (aLoadV P t x) := by
  unfold aLoadV
  split
  · split
    · refine .get _ _ fun o => ?_
      split
      · split
        · exact calm_cell1 _ _
        · exact .fail
      · exact .fail
    · exact .fail
  · exact .fail

theorem calm_results (P : Program) (a : BAct) : ∀ (l : List ResultVar), Calm (aResults P a l)
  | [] => .ret _
  | r :: rs => by
    unfold aResults
    refine Calm.bind ?_ fun v => (calm_results P a rs).bind fun vs => .ret _
    split
    · exact .ret _
    · exact calm_loadV _ _ _

theorem good_calm {α : Type} {m : AM α} (c : Calm m) (id : Nat) : GoodC (fun h => m.run id h) := by
  intro h r h' e ok
  obtain ⟨rfl, f⟩ := c.run id e
  exact ⟨Evo.refl ok, fun x ox hx hlx => ⟨f x ox ok hx hlx, hx⟩⟩

theorem good_finish (E : Env) (fn : Func) (a : BAct) : GoodC (finish E fn a) := by
  have key : finish E fn a = fun h => bif quietDefers E a.defers then (match (aResults E.P a fn.results.toList).run 0 h with
    | some (vs, h2) => some (.returned (packed vs), h2)
    | none => none) else none := rfl
  rw [key]
  cases quietDefers E a.defers with
  | false => exact good_none
  | true => exact good_bind (f := fun h => (aResults E.P a fn.results.toList).run 0 h) (g := fun vs h2 => some (AEnd.returned (packed vs), h2)) (good_calm (calm_results _ _ _) 0) (fun vs => good_ret _) (fun h e => by simp only [cond_true]; rw [e]) (fun h vs h1 e => by simp only [cond_true]; rw [e])
theorem good_finishPanic (a : BAct) (ch : List PanicEntry) : GoodC (finishPanic a ch) := by
  intro h r h' e ok
  unfold finishPanic at e ⊢
  cases hd : a.defers with
  | nil =>
    rw [hd] at e
    simp only [Option.some.injEq, Prod.mk.injEq] at e ⊢
    obtain ⟨rfl, rfl⟩ := e
    exact ⟨Evo.refl ok, fun x ox hx _ => ⟨⟨rfl, rfl⟩, hx⟩⟩
  | cons _ _ => rw [hd] at e; cases e

theorem good_body (E : Env) {ih : CodeRun} (hg : Good ih) (fn : Func) (args : List Value) : GoodC (bodyF E ih fn args) := by
  have key : bodyF E ih fn args = fun h => match fn.body with
    | some c => bif Nat.ble fn.ntmps 512 && Nat.ble args.length fn.ntmps then callEnd E fn (ih c (BAct.start fn.ntmps args) h) else none
    | none => none := rfl
  rw [key]
  cases fn.body with
  | none => exact good_none
  | some c =>
    simp only
    cases (Nat.ble fn.ntmps 512 && Nat.ble args.length fn.ntmps) with
    | false => exact good_none
    | true =>
      simp only [cond_true]
      refine good_bind (f := asF ih c (BAct.start fn.ntmps args)) (g := fun p h1 => match p.1 with
          | .normal => finish E fn p.2 h1
          | .ret => finish E fn p.2 h1
          | .panic ch => finishPanic p.2 ch h1
          | _ => none) (hg c _) (fun p => ?_) (fun h e => ?_) (fun h p h1 e => ?_)
      · obtain ⟨e, a⟩ := p
        cases e <;> simp only <;> first
          | exact good_finish E fn a
          | exact good_finishPanic a _
          | exact good_none
      · unfold asF at e
        cases hi : ih c (BAct.start fn.ntmps args) h with
        | none => rfl
        | some q => obtain ⟨e', a', h'⟩ := q; rw [hi] at e; cases e
      · obtain ⟨e', a'⟩ := p
        rw [asF_some] at e
        rw [e]
        cases e' <;> rfl

theorem good_call (E : Env) {ih : CodeRun} (hg : Good ih) (f : FuncId) (args : List Value) : GoodC (callF E ih f args) := by
  have key : callF E ih f args = fun h => match E.tab f with
    | some r => tabF r args h
    | none => match E.P.funcs[f]? with
      | some fn => bodyF E ih fn args h
      | none => none := rfl
  rw [key]
  cases E.tab f with
  | some r => exact good_tab r args
  | none =>
    simp only
    cases E.P.funcs[f]? with
    | none => exact good_none
    | some fn => exact good_body E hg fn args
end Go.Ev

import Derived.Test.YtjgnjjaofaapjaaGreatEvAct2
namespace Go.Ev

/-! Worlds that differ where nobody looks. -/
theorem WRel.more {ρ : Emb} {h : AH} {w : World} (r : WRel ρ h w) {n : Nat} (hn : h.next + n ≤ most) : WRel ρ (h.more n) w :=
  ⟨AH.ok_more r.ok hn, fun i => by rw [AH.get_more r.ok hn]; exact r.obj i, r.inj⟩
theorem WRel.logged {ρ : Emb} {h : AH} {w : World} (r : WRel ρ h w) (l : List Nat) : WRel ρ ⟨h.t, h.next, l⟩ w := ⟨AH.ok_log r.ok l, fun i => r.obj i, r.inj⟩
theorem ObjRel.drew {ρ : Emb} {w : World} {o : AObj} {g : Img} (r : ObjRel ρ w o g) (n : Nat) : ObjRel ρ { w with drawn := n } o g := by
  cases o with
  | dead => exact r
  | amap es => exact r
  | cells c rw => exact r
theorem WRel.drew {ρ : Emb} {h : AH} {w : World} (r : WRel ρ h w) (n : Nat) : WRel ρ h { w with drawn := n } := by
  refine ⟨r.ok, fun i => ?_, r.inj⟩
  have := r.obj i
  cases hg : h.get i with
  | none => rw [hg] at this; exact this
  | some o =>
    rw [hg] at this
    cases o with
    | dead => exact this
    | amap es => obtain ⟨g, h1, h2⟩ := this; exact ⟨g, h1, h2.drew n⟩
    | cells c rw => obtain ⟨g, h1, h2⟩ := this; exact ⟨g, h1, h2.drew n⟩
theorem Step.drew (ρ : Emb) (w : World) (n : Nat) : Step ρ w ρ { w with drawn := n } := ⟨Ext.refl ρ, rfl, rfl, rfl, Nat.le_refl _, fun _ _ _ => rfl, fun i g hg hr => .inr ⟨i, g, hg, hr, rfl⟩⟩

/-- An exit that the evaluator does not follow up. -/
def isPanic : Exit → Prop
  | .panic _ => True
  | .goto _ => True
  | _ => False

/-- What a call comes to, in the world. -/
def CallEnd (ρ : Emb) (w : World) (v : Value) (h1 : AH) : Ending → World → Prop :=
  fun e w1 => ∃ v' ρ1, e = .returned v' ∧ VRel ρ1 v v' ∧ WRel ρ1 h1 w1 ∧ Step ρ w ρ1 w1

structure Sound (E : Env) : Prop where
  noOwn : NoOwn E.P
  mixed : E.P.follows .mixedOrders = true
  plans : ∀ (f : FuncId) (fn : Func) (c : Code), E.P.funcs[f]? = some fn → fn.body = some c → plansIn c = true
  tab : ∀ f r, E.tab f = some r → ∀ ρ h w args args' v h1, WRel ρ h w → VsRel ρ args (Array.toList args') → tabF r args h = some (.returned v, h1) → Calls E.P f args' w (CallEnd ρ w v h1)
  quiet : ∀ f n, E.quietD f n = true → (∃ fn, E.P.funcs[f]? = some fn ∧ fn.body.isSome = true) ∧ ∀ ρ h w (args : Array Value), args.size = n → WRel ρ h w →
    CallsD E.P f args .returning w (fun e u' w' => (∃ v, e = .returned v) ∧ u' = .returning ∧ WRel ρ h w' ∧ Step ρ w ρ w')

def CallSim (E : Env) (ih : CodeRun) : Prop :=
  ∀ f args h v h1, callF E ih f args h = some (.returned v, h1) → ∀ ρ w args', WRel ρ h w → VsRel ρ args (Array.toList args') → Calls E.P f args' w (CallEnd ρ w v h1)

def CodeSim (E : Env) (ih : CodeRun) : Prop :=
  ∀ c a h e a1 h1, plansIn c = true → ih c a h = some (e, a1, h1) → ¬ isPanic e → ∀ ρ b w (Q : Exit → Act → World → Prop), ARel ρ a b → WRel ρ h w →
    (∀ ρ1 b1 w1, Step ρ w ρ1 w1 → ARel ρ1 a1 b1 → WRel ρ1 h1 w1 → Q e b1 w1) → c.wp E.P Q b w

section
variable {E : Env} {ih : CodeRun}

theorem leaves_quiet (S : Sound E) {fn : Func} {tmps : Array Value} {R : Ending → World → Prop} {h : AH} {w0 : World} : ∀ (ds ds' : List Deferred) (ρ : Emb) (w : World), quietDefers E ds = true → DsRel ρ ds ds' → WRel ρ h w → Step ρ w0 ρ w →
    (∀ w', WRel ρ h w' → Step ρ w0 ρ w' → Leaves E.P fn tmps R [] .returning w') → Leaves E.P fn tmps R ds' .returning w := by
  intro ds
  induction ds with
  | nil => intro ds' ρ w _ r wr st k; cases r; exact k w wr st
  | cons d ds ihd =>
    intro ds' ρ w q r wr st k
    cases r with
    | cons d d' l l' hd t =>
      obtain ⟨f, cap, cap', h1, h2, h3, h4⟩ := hd
      simp only [quietDefers, h1, Bool.and_eq_true] at q
      obtain ⟨⟨fn', hf, hb⟩, qs⟩ := S.quiet f _ q.1
      obtain ⟨dt, dargs⟩ := d'
      simp only at h2
      subst h2
      have hn := S.noOwn f fn' hf
      have hnone : fn'.body.isNone = false := by cases hbb : fn'.body <;> simp_all
      refine leaves_cons (by simp) (f := f) (args := dargs ++ cap') ?_ ?_
      · simp only [invoke, callFunc, Sem.run_bind, run_program, Result.andThen_ok, hf, hn, hnone, Bool.false_eq_true, if_false, Sem.run_pure]
      · refine (qs ρ h w (dargs ++ cap') (by have e1 := h3.length; have e2 := h4.length; simp at e1 e2 ⊢; omega) wr).mono ?_
        rintro e u' w' ⟨⟨v, rfl⟩, rfl, wr', st'⟩
        exact ihd l' ρ w' q.2 t wr' (st.trans st') k

theorem callSim_of (S : Sound E) (hc : CodeSim E ih) : CallSim E ih := by
  intro f args h v h1 e ρ w args' wr ra
  unfold callF at e
  cases ht : E.tab f with
  | some r =>
    rw [ht] at e
    exact S.tab f r ht ρ h w args args' v h1 wr ra e
  | none =>
    rw [ht] at e
    simp only at e
    cases hf : E.P.funcs[f]? with
    | none => rw [hf] at e; cases e
    | some fn =>
      rw [hf] at e
      simp only [bodyF] at e
      cases hb : fn.body with
      | none => rw [hb] at e; cases e
      | some c =>
        rw [hb] at e
        simp only at e
        cases hn : (Nat.ble fn.ntmps 512 && Nat.ble args.length fn.ntmps) with
        | false => rw [hn] at e; cases e
        | true =>
          rw [hn] at e
          simp only [Bool.and_eq_true] at hn
          have hn1 := Nat.le_of_ble_eq_true hn.1
          have hn2 := Nat.le_of_ble_eq_true hn.2
          simp only [cond_true] at e
          cases hr : ih c (BAct.start fn.ntmps args) h with
          | none => rw [hr] at e; cases e
          | some p =>
            obtain ⟨ex, a1, h2⟩ := p
            rw [hr] at e
            have fin : ∀ (ρ1 : Emb) (b1 : Act) (w1 : World), Step ρ w ρ1 w1 → ARel ρ1 a1 b1 → WRel ρ1 h2 w1 → finish E fn a1 h2 = some (.returned v, h1) → Leaves E.P fn b1.tmps (CallEnd ρ w v h1) b1.defers .returning w1 := by
              intro ρ1 b1 w1 st ar wr1 ef
              unfold finish at ef
              cases hq : quietDefers E a1.defers with
              | false => rw [hq] at ef; cases ef
              | true =>
                rw [hq] at ef
                simp only [cond_true] at ef
                cases hrs : (aResults E.P a1 fn.results.toList).run 0 h2 with
                | none => rw [hrs] at ef; cases ef
                | some q =>
                  obtain ⟨vs, h3⟩ := q
                  rw [hrs] at ef
                  simp only [Option.some.injEq, Prod.mk.injEq, AEnd.returned.injEq] at ef
                  obtain ⟨rfl, rfl⟩ := ef
                  refine leaves_quiet S (w0 := w1) a1.defers b1.defers ρ1 w1 hq ar.defers wr1 (Step.refl _ _) fun w' wr' st' => ?_
                  obtain ⟨rfl, v', e1, e2⟩ := results_rel (P := E.P) wr' ar fn hrs
                  exact ⟨v', e1, v', ρ1, rfl, e2, wr', st.trans st'⟩
            refine calls_of_wp_defers hf hb ?_
            have hnp : ¬ isPanic ex := by
              intro hp
              cases ex <;> simp only [isPanic] at hp
              case goto l => simp [callEnd] at e
              case panic ch =>
                simp only [callEnd, finishPanic] at e
                split at e <;> simp at e
            refine hc c _ h ex a1 h2 (S.plans f fn c hf hb) hr hnp ρ _ w _ (ARel.start hn1 ra hn2) wr fun ρ1 b1 w1 st ar wr1 => ?_
            cases ex with
            | normal => exact fin ρ1 b1 w1 st ar wr1 e
            | ret => exact fin ρ1 b1 w1 st ar wr1 e
            | exit id => cases e
            | goto l => cases e
            | outgrown => cases e
            | panic ch => exact (hnp trivial).elim

theorem stepOp_stop {id : Nat} {o : Oper} {a a1 : BAct} {h h1 : AH} {e : Exit} (hs : stepOp E ih id o a h = some (.stop e a1 h1)) : isPanic e := by
  unfold stepOp at hs
  cases hop : opOK o.op with
  | false => rw [hop] at hs; cases hs
  | true =>
    rw [hop] at hs
    simp only at hs
    cases hr : (aOp E.P id a.eval o.op).run id h with
    | none => rw [hr] at hs; cases hs
    | some q =>
      obtain ⟨x, h2⟩ := q
      rw [hr] at hs
      cases x with
      | value u => simp [fin] at hs
      | skip => simp [fin] at hs
      | defer d => simp [fin] at hs
      | panic u => simp only [fin, Option.some.injEq, SR.stop.injEq] at hs; rw [← hs.1]; trivial
      | enter f args =>
        simp only [fin] at hs
        cases hc : callF E ih f args.toList h2 with
        | none => rw [hc] at hs; cases hs
        | some p =>
          obtain ⟨r, h3⟩ := p
          rw [hc] at hs
          cases r with
          | panicked ch => simp only [finCall, Option.some.injEq, SR.stop.injEq] at hs; rw [← hs.1]; trivial
          | returned u => simp [finCall] at hs

theorem oper_sim (S : Sound E) (hc : CallSim E ih) {id : Nat} {o : Oper} {a a1 : BAct} {h h1 : AH} (hs : stepOp E ih id o a h = some (.next a1 h1)) {ρ : Emb} {b : Act} {w : World} (ar : ARel ρ a b) (wr : WRel ρ h w)
    {K : Act → World → Prop} {Q : Exit → Act → World → Prop} (k : ∀ ρ1 b1 w1, Step ρ w ρ1 w1 → ARel ρ1 a1 b1 → WRel ρ1 h1 w1 → K b1 w1) : o.wp E.P b w K Q := by
  unfold stepOp at hs
  cases hop : opOK o.op with
  | false => rw [hop] at hs; cases hs
  | true =>
    rw [hop] at hs
    simp only at hs
    cases hr : (aOp E.P id a.eval o.op).run id h with
    | none => rw [hr] at hs; cases hs
    | some q =>
      obtain ⟨x, h2⟩ := q
      rw [hr] at hs
      simp only at hs
      obtain ⟨ρ', w', st, wr', ou⟩ := aOp_sim (id := id) wr S.noOwn o (ar.evals hop) x h2 hr
      have ar' := ar.mono st.ext
      unfold Oper.wp
      cases x with
      | value u =>
        simp only [fin, Option.some.injEq, SR.next.injEq] at hs
        obtain ⟨rfl, rfl⟩ := hs
        obtain ⟨v', hv, rv⟩ := ou
        rw [hv, Oper.upon_value]
        exact k ρ' _ w' st (ar'.put o.dst rv) wr'
      | skip =>
        simp only [fin, Option.some.injEq, SR.next.injEq] at hs
        obtain ⟨rfl, rfl⟩ := hs
        rw [show (execOp b.eval o).run E.P w = .ok .skip w' from ou, Oper.upon_skip]
        exact k ρ' _ w' st (ar'.put o.dst (undef_rel ρ')) wr'
      | defer d =>
        simp only [fin, Option.some.injEq, SR.next.injEq] at hs
        obtain ⟨rfl, rfl⟩ := hs
        obtain ⟨d', hd, rd⟩ := ou
        rw [hd, Oper.upon_defer]
        exact k ρ' _ w' st ((ar'.later rd).put o.dst (undef_rel ρ')) wr'
      | panic u => simp [fin] at hs
      | enter f args =>
        simp only [fin] at hs
        cases hcl : callF E ih f args.toList h2 with
        | none => rw [hcl] at hs; cases hs
        | some p =>
          obtain ⟨r, h3⟩ := p
          rw [hcl] at hs
          cases r with
          | panicked ch => simp [finCall] at hs
          | returned u =>
            simp only [finCall, Option.some.injEq, SR.next.injEq] at hs
            obtain ⟨rfl, rfl⟩ := hs
            obtain ⟨args', he, ra⟩ := ou
            rw [he, Oper.upon_enter]
            refine Calls.mono (hc f args.toList h2 u h3 hcl ρ' w' args' wr' ra) ?_
            rintro e w1 ⟨v', ρ1, rfl, rv, wr1, st1⟩
            exact k ρ1 _ w1 (st.trans st1) ((ar'.mono st1.ext).put o.dst rv) wr1

theorem runL_sim (S : Sound E) (hc : CallSim E ih) (ops : Array Oper) (base : Nat) (Q : Exit → Act → World → Prop) : ∀ (L : List Oper) (k : Nat) (a a1 : BAct) (h h1 : AH) (e : Exit), runL E ih ops base (numbered k L) a h = some (e, a1, h1) → ¬ isPanic e →
    ∀ ρ b w, ARel ρ a b → WRel ρ h w → (∀ ρ1 b1 w1, Step ρ w ρ1 w1 → ARel ρ1 a1 b1 → WRel ρ1 h1 w1 → Q e b1 w1) → wpList E.P ops Q L b w := by
  intro L
  induction L with
  | nil =>
    intro k a a1 h h1 e hr hnp ρ b w ar wr kk
    simp only [numbered, runL, Option.some.injEq, Prod.mk.injEq] at hr
    obtain ⟨rfl, rfl, rfl⟩ := hr
    exact kk ρ b w (Step.refl _ _) ar wr
  | cons o L ihL =>
    intro k a a1 h h1 e hr hnp ρ b w ar wr kk
    simp only [numbered, runL] at hr
    unfold wpList
    rw [← ar.wanted ops o]
    cases hw : bwanted ops a o with
    | false =>
      rw [hw] at hr
      simp only [Bool.false_eq_true, if_false]
      exact ihL _ _ _ _ _ _ hr hnp ρ _ w (ar.put o.dst (undef_rel ρ)) wr kk
    | true =>
      rw [hw] at hr
      simp only at hr
      rw [if_pos rfl]
      refine .inl ?_
      cases hs : stepOp E ih (Nat.add base k) o a h with
      | none => rw [hs] at hr; cases hr
      | some s =>
        rw [hs] at hr
        cases s with
        | stop ex a2 h2 =>
          simp only [Option.some.injEq, Prod.mk.injEq] at hr
          exact (hnp (hr.1 ▸ stepOp_stop hs)).elim
        | next a2 h2 =>
          simp only at hr
          exact oper_sim S hc hs ar wr fun ρ1 b1 w1 st ar1 wr1 => ihL _ _ _ _ _ _ hr hnp ρ1 b1 w1 ar1 wr1 fun ρ2 b2 w2 st2 ar2 wr2 => kk ρ2 b2 w2 (st.trans st2) ar2 wr2

theorem stepD_sim (S : Sound E) (hc : CallSim E ih) (ops : Array Oper) (al : List Nat) (base i : Nat) (s s1 : DS) (hs : stepD E ih ops al base i s = some s1) {ρ : Emb} {b : Act} {w : World} (ar : ARel ρ s.a b) (wr : WRel ρ s.h w)
    {K : Act → World → Prop} {Q : Exit → Act → World → Prop} (k : ∀ ρ1 b1 w1, Step ρ w ρ1 w1 → ARel ρ1 s1.a b1 → WRel ρ1 s1.h w1 → K b1 w1) : wpOp E.P ops Q i K b w := by
  obtain ⟨a, h, hist⟩ := s
  simp only at ar wr
  unfold wpOp
  cases ho : ops[i]? with
  | none => simp only [stepD, ho] at hs; cases hs
  | some o =>
    simp only [stepD, ho] at hs
    simp only
    rw [← ar.wanted ops o]
    cases hw : bwanted ops a o with
    | false =>
      rw [hw] at hs
      simp only [Option.some.injEq] at hs
      subst hs
      simp only [Bool.false_eq_true, if_false]
      exact k ρ _ w (Step.refl _ _) (ar.put o.dst (undef_rel ρ)) wr
    | true =>
      rw [hw] at hs
      simp only at hs
      rw [if_pos rfl]
      refine .inl ?_
      cases hf : floats o.op with
      | true =>
        rw [hf] at hs
        simp only at hs
        rw [stepFloat_iff] at hs
        obtain ⟨hop, v, reads, m, h1, hl, hr, hp, rfl⟩ := hs
        have hrun := AM.look_run (Nat.add base i) _ _ _ _ _ _ wr.ok hl hp
        have hst : stepOp E ih (Nat.add base i) o a h = some (.next (a.put o.dst v) h1) := by
          unfold stepOp
          rw [hop]
          simp only
          rw [hrun]
          rfl
        exact oper_sim S hc hst ar wr k
      | false =>
        rw [hf] at hs
        simp only [stepChain] at hs
        cases hst : stepOp E ih (Nat.add base i) o a ⟨h.t, h.next, []⟩ with
        | none => rw [hst] at hs; cases hs
        | some q =>
          rw [hst] at hs
          cases q with
          | stop _ _ _ => cases hs
          | next a1 h1 =>
            simp only [Option.some.injEq] at hs
            subst hs
            exact oper_sim S hc hst ar (wr.logged []) fun ρ1 b1 w1 st ar1 wr1 => k ρ1 b1 w1 st ar1 (wr1.logged [])

theorem region_sim (S : Sound E) (hg : Good ih) (hc : CallSim E ih) (id : Nat) (ops : Array Oper) (draw : Bool) (hpl : draw = true → planned ops = true) (a a1 : BAct) (h h1 : AH) (e : Exit) (hr : runRegion E ih ops draw a h = some (e, a1, h1)) (hnp : ¬ isPanic e)
    (ρ : Emb) (b : Act) (w : World) (Q : Exit → Act → World → Prop) (ar : ARel ρ a b) (wr : WRel ρ h w) (k : ∀ ρ1 b1 w1, Step ρ w ρ1 w1 → ARel ρ1 a1 b1 → WRel ρ1 h1 w1 → Q e b1 w1) : (Code.region id ops draw).wp E.P Q b w := by
  unfold runRegion at hr
  cases hb : Nat.ble (Nat.add h.next ops.size) most with
  | false => rw [hb] at hr; cases hr
  | true =>
    rw [hb] at hr
    have hroom : h.next + ops.size ≤ most := Nat.le_of_ble_eq_true hb
    have wrm := wr.more hroom
    cases draw with
    | false =>
      simp only at hr
      exact wp_region_list (runL_sim S hc ops h.next Q ops.toList 0 a a1 _ h1 e hr hnp ρ b w ar wrm k)
    | true =>
      simp only at hr
      have hp := hpl rfl
      cases hd : runD E ih ops (ancs ops) h.next (planOf ops (ancs ops)) ⟨a, ⟨h.t, Nat.add h.next ops.size, []⟩, []⟩ with
      | none => rw [hd] at hr; cases hr
      | some sf =>
          rw [hd] at hr
          simp only [endD, Option.some.injEq, Prod.mk.injEq] at hr
          obtain ⟨rfl, rfl, rfl⟩ := hr
          obtain ⟨hdown, hlen, inv⟩ := LInv.init hp
          refine wp_region_any S.mixed ?_
          refine wpAny_of_runD E hg h.next hdown (fun s b1 w1 => ∃ ρ1, Step ρ w ρ1 w1 ∧ ARel ρ1 s.a b1 ∧ WRel ρ1 s.h w1 ∧ h.next + ops.size ≤ s.h.next) ?_ ?_ sf ?_ ops.size _ _ _ b _ inv (Nat.le_of_eq hlen) ?_ hd
          · rintro s b1 w1 ⟨ρ1, _, ar1, wr1, hn⟩
            exact ⟨wr1.ok, ar1.wf, hn⟩
          · rintro i s s1 b1 w1 K ⟨ρ1, st1, ar1, wr1, hn⟩ hs kk
            obtain ⟨_, _, hn', _⟩ := stepD_inv E hg (ancs ops) h.next i s s1 hs wr1.ok ar1.wf
            exact stepD_sim S hc ops (ancs ops) h.next i s s1 hs ar1 wr1 fun ρ2 b2 w2 st2 ar2 wr2 => kk b2 w2 ⟨ρ2, st1.trans st2, ar2, wr2, Nat.le_trans hn hn'⟩
          · rintro b1 w1 ⟨ρ1, st1, ar1, wr1, _⟩
            exact k ρ1 b1 w1 st1 ar1 (wr1.logged _)
          · exact ⟨ρ, Step.drew ρ w _, ar, (wrm.logged []).drew _, Nat.le_refl _⟩
end
end Go.Ev

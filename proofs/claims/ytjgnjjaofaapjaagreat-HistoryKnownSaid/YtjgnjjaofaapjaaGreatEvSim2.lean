import Derived.Test.YtjgnjjaofaapjaaGreatEvSim
import Derived.LoopN
import Derived.Scope
namespace Go.Ev
section
variable {E : Env} {ih : CodeRun}

theorem seq_sim (hc : CodeSim E ih) {x y : Code} (px : plansIn x = true) {a a1 : BAct} {h h1 : AH} {e : Exit} (hr : runSeq ih y (ih x a h) = some (e, a1, h1)) (hnp : ¬ isPanic e) {ρ : Emb} {b : Act} {w : World} {K : Act → World → Prop} {Q : Exit → Act → World → Prop}
    (ar : ARel ρ a b) (wr : WRel ρ h w) (k1 : ∀ ρ1 b1 w1 a' h', Step ρ w ρ1 w1 → ih y a' h' = some (e, a1, h1) → ARel ρ1 a' b1 → WRel ρ1 h' w1 → K b1 w1)
    (k : ∀ ρ1 b1 w1, Step ρ w ρ1 w1 → ARel ρ1 a1 b1 → WRel ρ1 h1 w1 → Q e b1 w1) : x.wp E.P (Exit.then K Q) b w := by
  cases hx : ih x a h with
  | none => rw [hx] at hr; cases hr
  | some p =>
    obtain ⟨ex, a', h'⟩ := p
    rw [hx] at hr
    have other : ex ≠ .normal → (ex, a', h') = (e, a1, h1) := fun hne => by
      unfold runSeq at hr
      cases ex <;> simp only [Option.some.injEq] at hr <;> first
        | exact hr
        | exact absurd rfl hne
    by_cases hn : ex = .normal
    · subst hn
      exact hc x a h .normal a' h' px hx (fun h => h) ρ b w _ ar wr fun ρ1 b1 w1 st ar1 wr1 => k1 ρ1 b1 w1 a' h' st hr ar1 wr1
    · have := other hn
      simp only [Prod.mk.injEq] at this
      obtain ⟨rfl, rfl, rfl⟩ := this
      refine hc x a h ex a' h' px hx hnp ρ b w _ ar wr fun ρ1 b1 w1 st ar1 wr1 => ?_
      have := k ρ1 b1 w1 st ar1 wr1
      cases ex <;> first
        | exact this
        | exact absurd rfl hn

/-- A loop ends within so many rounds. -/
def LoopSim (E : Env) (ih : CodeRun) (n : Nat) : Prop :=
  ∀ x a h e a1 h1, plansIn x = true → ih (.loop x) a h = some (e, a1, h1) → ¬ isPanic e → ∀ ρ b w (Q : Exit → Act → World → Prop), ARel ρ a b → WRel ρ h w →
    (∀ ρ1 b1 w1, Step ρ w ρ1 w1 → ARel ρ1 a1 b1 → WRel ρ1 h1 w1 → Q e b1 w1) → Code.rounds E.P x Q n b w

theorem code_sim (S : Sound E) (hg : Good ih) (hc : CodeSim E ih) {n : Nat} (hl : LoopSim E ih n) : CodeSim E (codeStep E ih) ∧ LoopSim E (codeStep E ih) (n + 1) := by
  have loop : LoopSim E (codeStep E ih) (n + 1) := by
    intro x a h e a1 h1 hp hr hnp ρ b w Q ar wr k
    rw [rounds_succ]
    exact seq_sim hc hp hr hnp ar wr (fun ρ1 b1 w1 a' h' st hr' ar1 wr1 => hl x a' h' e a1 h1 hp hr' hnp ρ1 b1 w1 Q ar1 wr1 fun ρ2 b2 w2 st2 ar2 wr2 => k ρ2 b2 w2 (st.trans st2) ar2 wr2) k
  refine ⟨?_, loop⟩
  intro c a h e a1 h1 hp hr hnp ρ b w Q ar wr k
  have done : ∀ e', codeStep E ih c a h = some (e', a, h) → Q e' b w := fun e' he => by
    rw [he] at hr
    simp only [Option.some.injEq, Prod.mk.injEq] at hr
    obtain ⟨rfl, rfl, rfl⟩ := hr
    exact k ρ b w (Step.refl _ _) ar wr
  cases c with
  | skip => exact wp_skip (done _ rfl)
  | label l => exact wp_label (done _ rfl)
  | exit id => exact wp_exit (done _ rfl)
  | ret => exact wp_ret (done _ rfl)
  | seq x y =>
    simp only [plansIn, Bool.and_eq_true] at hp
    refine wp_seq (seq_sim hc (y := y) hp.1 hr hnp ar wr (fun ρ1 b1 w1 a' h' st hr' ar1 wr1 => ?_) k)
    exact hc y a' h' e a1 h1 hp.2 hr' hnp ρ1 b1 w1 Q ar1 wr1 fun ρ2 b2 w2 st2 ar2 wr2 => k ρ2 b2 w2 (st.trans st2) ar2 wr2
  | loop x => exact wp_loop_rounds (n + 1) (loop x a h e a1 h1 hp hr hnp ρ b w Q ar wr k)
  | cond o x y =>
    simp only [codeStep] at hr
    cases ho : operandOK o with
    | false => rw [ho] at hr; cases hr
    | true =>
      rw [ho] at hr
      simp only at hr
      have hv := ar.eval ho
      cases hav : a.eval o with
      | bool t =>
        rw [hav] at hr hv
        have hb : b.eval o = .bool t := by
          generalize b.eval o = z at hv
          cases hv
          rfl
        simp only [plansIn, Bool.and_eq_true] at hp
        cases t with
        | true => exact wp_cond_true hb (hc x a h e a1 h1 hp.1 hr hnp ρ b w Q ar wr k)
        | false => exact wp_cond_false hb (hc y a h e a1 h1 hp.2 hr hnp ρ b w Q ar wr k)
      | _ => rw [hav] at hr; cases hr
  | block id x =>
    refine wp_block ?_
    simp only [codeStep] at hr
    cases hx : ih x a h with
    | none => rw [hx] at hr; cases hr
    | some p =>
      obtain ⟨ex, a', h'⟩ := p
      rw [hx] at hr
      have hnp' : ¬ isPanic ex := fun hp => by
        cases ex <;> simp only [isPanic] at hp <;> (
          simp only [runBlock, Option.some.injEq, Prod.mk.injEq] at hr
          exact hnp (hr.1 ▸ trivial))
      refine hc x a h ex a' h' hp hx hnp' ρ b w _ ar wr fun ρ1 b1 w1 st ar1 wr1 => ?_
      have same : ∀ e', runBlock id (some (ex, a', h')) = some (e', a', h') → Q e' b1 w1 := fun e' he => by
        rw [he] at hr
        simp only [Option.some.injEq, Prod.mk.injEq] at hr
        obtain ⟨rfl, rfl, rfl⟩ := hr
        exact k ρ1 b1 w1 st ar1 wr1
      cases ex with
      | exit id' =>
        show (if id' = id then Q .normal b1 w1 else Q (.exit id') b1 w1)
        by_cases hid : id' = id
        · rw [if_pos hid]
          refine same .normal ?_
          simp [runBlock, hid]
        · rw [if_neg hid]
          refine same (.exit id') ?_
          have : Nat.beq id' id = false := by
            cases hbq : Nat.beq id' id with
            | false => rfl
            | true => exact absurd (Nat.eq_of_beq_eq_true hbq) hid
          simp [runBlock, this]
      | normal => exact same _ rfl
      | ret => exact same _ rfl
      | goto l => exact (hnp' trivial).elim
      | outgrown => exact same _ rfl
      | panic ch => exact (hnp' trivial).elim
  | scope x =>
    refine wp_scope_straight (hc x a h e a1 h1 hp hr hnp ρ b w _ ar wr fun ρ1 b1 w1 st ar1 wr1 => ?_)
    have := k ρ1 b1 w1 st ar1 wr1
    cases e with
    | goto l => exact (hnp trivial).elim
    | _ => exact this
  | region id ops draw => exact region_sim S hg (callSim_of S hc) id ops draw (fun hd => by simp only [plansIn, hd, Bool.not_true, Bool.false_or] at hp; exact hp) a a1 h h1 e hr hnp ρ b w Q ar wr k
  | _ => cases hr

theorem eval_sim (S : Sound E) : ∀ n, CodeSim E (evalC E n) ∧ LoopSim E (evalC E n) n
  | 0 => by
    constructor
    · intro c a h e a1 h1 _ hr
      cases hr
    · intro x a h e a1 h1 _ hr
      cases hr
  | n + 1 => code_sim S (good_eval E n) (eval_sim S n).1 (eval_sim S n).2

theorem evalCall_sound (S : Sound E) (n : Nat) {f : FuncId} {args : List Value} {h h1 : AH} {v : Value} (e : evalCall E n f args h = some (.returned v, h1)) {ρ : Emb} {w : World} {args' : Array Value} (wr : WRel ρ h w) (ra : VsRel ρ args args'.toList) :
    Calls E.P f args' w (CallEnd ρ w v h1) := callSim_of S (eval_sim S n).1 f args h v h1 e ρ w args' wr ra
end
end Go.Ev

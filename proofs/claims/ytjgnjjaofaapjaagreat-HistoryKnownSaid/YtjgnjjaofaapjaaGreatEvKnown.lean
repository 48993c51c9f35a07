import Derived.Test.YtjgnjjaofaapjaaGreatEvFactA
import Derived.Test.YtjgnjjaofaapjaaGreatEvFactB
import Derived.Test.YtjgnjjaofaapjaaGreatEvFactC
import Derived.Test.YtjgnjjaofaapjaaGreatEvFactD
namespace Go.Ev
open Go.RowKit Go.Proofs
/-- Are three told? -/
def three : Value → Bool
  | .slice _ n _ => Nat.beq n 3
  | _ => false
noncomputable def judgeA (args : List Value) : AM Value :=
  bif three (args.getD 1 undef) then atData (shownObjs ++ toldObjs) [shownV, toldV 3] 1000 (.tuple #[.int .i64 3, .int .i64 0]) args
  else atData (shownObjs ++ toldObjs) [shownV, toldV 4] 1000 (.tuple #[.int .i64 (-1), .int .i64 0]) args
def awakeA (args : List Value) : AM Value :=
  match args with
  | [] => .ret (.bool true)
  | _ :: _ => .fail
noncomputable def tab2 (f : FuncId) : Option (List Value → Nat → AM Value) :=
  bif Nat.beq f 232 then some (fun args _ => idsA args) else
  bif Nat.beq f 11 then some (fun args _ => awakeA args) else
  bif Nat.beq f 7 then some (fun args _ => atData shownObjs [shownV] 1000 countV args) else
  bif Nat.beq f 9 then some (fun args _ => judgeA args) else none
noncomputable def E2 : Env := { P := Tryz.prog, tab := tab2, quietD := fun f n => Nat.beq f 100 && Nat.beq n 1 }

theorem awake_true (w : World) : Calls Tryz.prog 11 #[] w fun e w' => e = .returned (.bool true) ∧ Below w.heap.size w w' := closed_bool sound1 100000 11 fact_awake w

theorem awake_tab {ρ : Emb} {h : AH} {w : World} {args : List Value} {args' : Array Value} {v : Value} {h1 : AH} (wr : WRel ρ h w) (ra : VsRel ρ args args'.toList) (e : tabF (fun args _ => awakeA args) args h = some (.returned v, h1)) :
    Calls Tryz.prog 11 args' w (CallEnd ρ w v h1) := by
  simp only [tabF] at e
  cases hb : Nat.blt h.next most with
  | false => rw [hb] at e; cases e
  | true =>
    rw [hb] at e
    have hn : h.next + 1 ≤ most := lt_of_blt hb
    obtain ⟨l⟩ := args'
    simp only at ra
    cases ra with
    | cons _ _ _ _ _ _ => simp [awakeA, AM.run] at e
    | nil =>
      simp only [awakeA, AM.run, cond_true, Option.some.injEq, Prod.mk.injEq, AEnd.returned.injEq] at e
      obtain ⟨rfl, rfl⟩ := e
      refine Calls.mono (awake_true w) ?_
      rintro e w' ⟨rfl, hbel⟩
      exact ⟨_, ρ, rfl, .bool true, (wr.more hn).below hbel, Step.of_below hbel⟩

theorem judge_tab {ρ : Emb} {h : AH} {w : World} {args : List Value} {args' : Array Value} {v : Value} {h1 : AH} (wr : WRel ρ h w) (ra : VsRel ρ args args'.toList) (e : tabF (fun args _ => judgeA args) args h = some (.returned v, h1)) :
    Calls Tryz.prog 9 args' w (CallEnd ρ w v h1) := by
  have split : tabF (fun args _ => judgeA args) args h = (bif three (args.getD 1 undef) then tabF (fun args _ => atData (shownObjs ++ toldObjs) [shownV, toldV 3] 1000 (.tuple #[.int .i64 3, .int .i64 0]) args) args h
      else tabF (fun args _ => atData (shownObjs ++ toldObjs) [shownV, toldV 4] 1000 (.tuple #[.int .i64 (-1), .int .i64 0]) args) args h) := by
    cases hq : three (args.getD 1 undef) <;> simp only [tabF, judgeA, hq, cond_true, cond_false]
  have e := split.symm.trans e
  cases h3 : three (args.getD 1 undef) with
  | true => rw [h3] at e; simp only [cond_true] at e; exact data_tab sound1 100000 9 _ _ 1000 (by decide) rfl fact_judge3 wr ra e
  | false => rw [h3] at e; simp only [cond_false] at e; exact data_tab sound1 100000 9 _ _ 1000 (by decide) rfl fact_judge4 wr ra e

theorem sound2 : Sound E2 := by
  refine ⟨fun f fn hf => (okFn_spec okAll hf).1, Tryz.checked.mixed, fun f fn c hf hb => (okFn_spec okAll hf).2 c hb, fun f r h ρ hh w args args' v h1 wr ra e => ?_, quiet100 rfl⟩
  have h : tab2 f = some r := h
  unfold tab2 at h
  cases hb1 : Nat.beq f 232 with
  | true =>
    rw [hb1] at h
    simp only [cond_true, Option.some.injEq] at h
    subst h
    obtain rfl := Nat.eq_of_beq_eq_true hb1
    exact ids_tab (P := Tryz.prog) (f := 232) ids_empty wr ra e
  | false =>
    rw [hb1] at h
    simp only [cond_false] at h
    cases hb2 : Nat.beq f 11 with
    | true =>
      rw [hb2] at h
      simp only [cond_true, Option.some.injEq] at h
      subst h
      obtain rfl := Nat.eq_of_beq_eq_true hb2
      exact awake_tab wr ra e
    | false =>
      rw [hb2] at h
      simp only [cond_false] at h
      cases hb3 : Nat.beq f 7 with
      | true =>
        rw [hb3] at h
        simp only [cond_true, Option.some.injEq] at h
        subst h
        obtain rfl := Nat.eq_of_beq_eq_true hb3
        exact data_tab sound1 100000 7 _ _ 1000 (by decide) rfl fact_count wr ra e
      | false =>
        rw [hb3] at h
        simp only [cond_false] at h
        cases hb4 : Nat.beq f 9 with
        | true =>
          rw [hb4] at h
          simp only [cond_true, Option.some.injEq] at h
          subst h
          obtain rfl := Nat.eq_of_beq_eq_true hb4
          exact judge_tab wr ra e
        | false => rw [hb4] at h; cases h
end Go.Ev

import Derived.Test.YtmjofgacpgcjmaaGreatIds
import Derived.Test.YtmjofgacpgcjmaaGreatChecked
namespace Go.Ev
open Go.RowKit Go.Proofs
theorem okF0 : ((Tryz.prog.funcs.toList.take 200).all okFn) = true := by kernel_rfl
theorem okF1 : (((Tryz.prog.funcs.toList.drop 200).take 200).all okFn) = true := by kernel_rfl
theorem okF2 : ((((Tryz.prog.funcs.toList.drop 200).drop 200).take 200).all okFn) = true := by kernel_rfl
theorem okF3 : (((((Tryz.prog.funcs.toList.drop 200).drop 200).drop 200)).all okFn) = true := by kernel_rfl
theorem okAll : Tryz.prog.funcs.toList.all okFn = true := all_of_parts _ _ 200 okF0 (all_of_parts _ _ 200 okF1 (all_of_parts _ _ 200 okF2 okF3))
theorem quiet128 {P : Program} (hP : P = Tryz.prog) (f : FuncId) (n : Nat) (h : (Nat.beq f 128 && Nat.beq n 1) = true) : (∃ fn, P.funcs[f]? = some fn ∧ fn.body.isSome = true) ∧ ∀ (ρ : Emb) (hh : AH) (w : World) (args : Array Value), args.size = n → WRel ρ hh w →
    CallsD P f args .returning w (fun e u' w' => (∃ v, e = .returned v) ∧ u' = .returning ∧ WRel ρ hh w' ∧ Step ρ w ρ w') := by
  subst hP
  simp only [Bool.and_eq_true] at h
  obtain rfl := Nat.eq_of_beq_eq_true h.1
  obtain rfl := Nat.eq_of_beq_eq_true h.2
  refine ⟨⟨_, Tryz.func128, rfl⟩, fun ρ hh w args ha wr => ?_⟩
  obtain ⟨l⟩ := args
  match l, ha with
  | [p], _ =>
    refine (caught_idle p w).mono ?_
    rintro e u' w' ⟨rfl, rfl, rfl⟩
    exact ⟨⟨_, rfl⟩, rfl, wr, Step.refl _ _⟩
noncomputable def E0 : Env := { P := Tryz.prog, tab := fun _ => none, quietD := fun f n => Nat.beq f 128 && Nat.beq n 1 }
theorem sound0 : Sound E0 := ⟨fun f fn hf => (okFn_spec okAll hf).1, Tryz.checked.mixed, fun f fn c hf hb => (okFn_spec okAll hf).2 c hb, fun f r h => (by cases h), quiet128 rfl, fun f r h => (by cases h), fun f r h => (by cases h)⟩
end Go.Ev

import Derived.Test.YtmjofgacpgcjmaaGreatEvB
import Derived.Test.YtmjofgacpgcjmaaGreatIdsB
namespace Go.Ev
open Go.RowKit Go.Proofs
noncomputable def E1 : Env := { P := Tryz.prog, tab := fun f => bif Nat.beq f 262 then some (fun args _ => idsA args) else none, quietD := fun f n => Nat.beq f 128 && Nat.beq n 1 }
theorem sound1 : Sound E1 := by
  refine ⟨fun f fn hf => (okFn_spec okAll hf).1, Tryz.checked.mixed, fun f fn c hf hb => (okFn_spec okAll hf).2 c hb, fun f r h ρ hh w args args' v h1 wr ra e => ?_, quiet128 rfl, fun f r h => (by cases h), fun f r h => (by cases h)⟩
  have h : (bif Nat.beq f 262 then some (fun (args : List Value) (_ : Nat) => idsA args) else none) = some r := h
  cases hb : Nat.beq f 262 with
  | false => rw [hb] at h; cases h
  | true =>
    rw [hb] at h
    simp only [cond_true, Option.some.injEq] at h
    subst h
    obtain rfl := Nat.eq_of_beq_eq_true hb
    exact ids_tab (P := Tryz.prog) (f := 262) ids_empty wr ra e
end Go.Ev

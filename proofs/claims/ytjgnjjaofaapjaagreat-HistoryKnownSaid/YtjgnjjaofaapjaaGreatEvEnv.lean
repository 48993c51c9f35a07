import Derived.Test.YtjgnjjaofaapjaaGreatEvDefs
import Derived.Test.YtjgnjjaofaapjaaGreatEvMatch
import Derived.Test.YtjgnjjaofaapjaaGreatEvIds2
namespace Go.Ev
open Go.RowKit Go.Proofs
noncomputable def E1 : Env := { P := Tryz.prog, tab := fun f => bif Nat.beq f 232 then some (fun args _ => idsA args) else none, quietD := fun f n => Nat.beq f 100 && Nat.beq n 1 }
theorem sound1 : Sound E1 := by
  refine ⟨fun f fn hf => (okFn_spec okAll hf).1, Tryz.checked.mixed, fun f fn c hf hb => (okFn_spec okAll hf).2 c hb, fun f r h ρ hh w args args' v h1 wr ra e => ?_, quiet100 rfl⟩
  have h : (bif Nat.beq f 232 then some (fun (args : List Value) (_ : Nat) => idsA args) else none) = some r := h
  cases hb : Nat.beq f 232 with
  | false => rw [hb] at h; cases h
  | true =>
    rw [hb] at h
    simp only [cond_true, Option.some.injEq] at h
    subst h
    obtain rfl := Nat.eq_of_beq_eq_true hb
    exact ids_tab (P := Tryz.prog) (f := 232) ids_empty wr ra e

/-! The script that is shown, and what it is told. -/
def shownObjs : List (List Value) := [[.int .i64 1, .int .i64 0, .string ⟨#[]⟩, .int .i64 0, .int .i64 3, .int .i64 1, .string ⟨#[0, 0, 0, 5, 10, 0, 0, 0, 7]⟩, .int .i64 0, .int .i64 5, .int .i64 0, .string ⟨#[]⟩, .int .i64 0, .int .i64 4, .int .i64 1, .string ⟨#[]⟩, .int .i64 99]]
def shownV : Value := .agg #[.int .i64 0, .bool false, .int .i64 0, .bool false, .int .i64 67108864, .bool false, .int .i64 4, .int .i64 2, .int .i64 2, .int .i64 2, .int .i64 64, .slice (some ⟨0, 0, none⟩) 4 4]
def toldObjs : List (List Value) := [[.int .i64 0, .int .i64 1, .string ⟨#[]⟩, .slice none 0 0, .int .i64 0, .int .i64 0, .string ⟨#[]⟩, .slice none 0 0, .int .i64 0, .int .i64 0, .string ⟨#[]⟩, .slice (some ⟨2, 0, none⟩) 1 88, .int .i64 0, .int .i64 0, .string ⟨#[0, 0, 0, 10, 10, 0, 0, 0, 7, 0, 0, 0, 0, 0]⟩, .slice none 0 0],
  [.int .i64 1, .int .i64 1, .int .i64 10, .int .i64 7, .int .i64 0, .int .i64 0, .int .i64 0, .int .i64 0, .int .i64 0, .int .i64 0, .int .i64 0, .slice none 0 0, .int .i64 0, .bool false, .int .i64 0, .bool false, .int .i64 0, .bool false, .int .i64 0, .bool false, .int .i64 0, .bool false, .int .i64 0, .bool false, .int .i64 0, .bool false, .int .i64 0, .bool false, .int .i64 0, .bool false, .int .i64 0, .bool false, .int .i64 0, .bool false, .int .i64 0, .bool false, .int .i64 0, .int .i64 0, .int .i64 0, .int .i64 0, .int .i64 0, .int .i64 0, .int .i64 0, .int .i64 0, .int .i64 0, .int .i64 10, .int .i64 7, .int .i64 0, .int .i64 0, .int .i64 0, .int .i64 0, .int .i64 0, .int .i64 0, .int .i64 0, .int .i64 0, .int .i64 0, .slice none 0 0, .int .i64 0, .bool false, .int .i64 0, .bool false, .int .i64 0, .bool false, .int .i64 0, .bool false, .int .i64 0, .bool false, .int .i64 0, .bool false, .int .i64 0, .bool false, .int .i64 0, .bool false, .int .i64 0, .bool false, .int .i64 0, .bool false, .bool false, .int .i64 0, .slice none 0 0, .bool false, .int .i64 0, .bool false, .int .i64 0, .bool false, .int .i64 0, .bool false, .int .i64 0]]
def toldV (n : Nat) : Value := .slice (some ⟨1, 0, none⟩) n 4
def countV : Value := .tuple #[.agg #[.int .i64 1, .int .i64 0, .int .i64 0, .int .i64 1, .int .i64 0, .int .i64 9, .int .i64 14, .int .i64 1, .int .i64 0, .int .i64 0, .int .i64 0, .int .i64 0, .int .i64 0, .int .i64 0, .int .i64 0, .int .i64 0, .int .i64 0, .int .i64 0, .int .i64 0, .int .i64 0, .int .i64 0, .int .i64 0], .int .i64 0]
end Go.Ev

import Derived.Test.YtjgnjjaofaapjaaGreatEvSim2
import Derived.Below
namespace Go.Ev
open Go.RowKit

abbrev freeEmb : Emb := fun _ => .free
theorem empty_rel (w : World) : WRel freeEmb AH.empty w := ⟨AH.ok_empty, fun i => by rw [AH.get_empty], fun i j gi gj _ h => by cases h⟩

theorem Step.below {ρ' : Emb} {w w' : World} (s : Step freeEmb w ρ' w') : Below w.heap.size w w' :=
  ⟨s.frame.os, s.frame.tape, s.frame.output, s.frame.size, fun k hk => s.frame.old k hk fun i g h => by cases h⟩

/-- A call at plain arguments, told by the evaluator. -/
theorem closed_call {E : Env} (S : Sound E) (n : Nat) (f : FuncId) (args : Array Value) {v : Value} {h1 : AH} (e : evalCall E n f args.toList AH.empty = some (.returned v, h1)) (ha : args.toList.all plainV = true) (hv : plainV v = true) (w : World) :
    Calls E.P f args w fun e w' => e = .returned v ∧ Below w.heap.size w w' := by
  have ra : ∀ (l : List Value), l.all plainV = true → VsRel freeEmb l l := by
    intro l
    induction l with
    | nil => intro _; exact .nil
    | cons x l ih =>
      intro h
      simp only [List.all_cons, Bool.and_eq_true] at h
      exact .cons _ _ _ _ (plainV_rel h.1) (ih h.2)
  refine Calls.mono (evalCall_sound S n e (empty_rel w) (ra _ ha)) ?_
  rintro e w' ⟨v', ρ1, rfl, rv, _, st⟩
  exact ⟨by rw [plainV_eq hv rv], st.below⟩

/-- The same, where the answer is looked at by a test. -/
def saysV (b : Bool) : Value → Bool
  | .bool c => b == c
  | _ => false
def says (b : Bool) : Option (AEnd × AH) → Bool
  | some (r, _) => match r with
    | .returned u => saysV b u
    | _ => false
  | none => false
theorem says_spec {b : Bool} {r : Option (AEnd × AH)} (h : says b r = true) : ∃ h1, r = some (.returned (.bool b), h1) := by
  cases r with
  | none => cases h
  | some p =>
    obtain ⟨r, h1⟩ := p
    cases r with
    | panicked ch => cases h
    | returned u =>
      cases u <;> first
        | cases h
        | (rename_i c; have h2 : (b == c) = true := h; simp at h2; subst h2; exact ⟨h1, rfl⟩)
theorem closed_bool {E : Env} (S : Sound E) (n : Nat) (f : FuncId) {b : Bool} (e : says b (evalCall E n f [] AH.empty) = true) (w : World) :
    Calls E.P f #[] w fun e w' => e = .returned (.bool b) ∧ Below w.heap.size w w' := by
  obtain ⟨h1, e⟩ := says_spec e
  exact closed_call S n f #[] (v := .bool b) e rfl rfl w

/-- A call without a result. -/
def isUnit : Option (AEnd × AH) → Bool
  | some (r, _) => match r with
    | .returned u => match u with
      | .tuple a => a.isEmpty
      | _ => false
    | _ => false
  | none => false
theorem isUnit_spec {r : Option (AEnd × AH)} (h : isUnit r = true) : ∃ h1, r = some (.returned (.tuple #[]), h1) := by
  cases r with
  | none => cases h
  | some p =>
    obtain ⟨r, h1⟩ := p
    cases r with
    | panicked ch => cases h
    | returned u =>
      cases u <;> first
        | cases h
        | (rename_i a; have h2 : a.isEmpty = true := h; have h3 : a = #[] := by simpa using h2
           subst h3; exact ⟨h1, rfl⟩)
theorem closed_unit {E : Env} (S : Sound E) (n : Nat) (f : FuncId) (args : Array Value) (e : isUnit (evalCall E n f args.toList AH.empty) = true) (ha : args.toList.all plainV = true) (w : World) :
    Calls E.P f args w fun e w' => e = .returned (.tuple #[]) ∧ Below w.heap.size w w' := by
  obtain ⟨h1, e⟩ := isUnit_spec e
  have ra : ∀ (l : List Value), l.all plainV = true → VsRel freeEmb l l := by
    intro l
    induction l with
    | nil => intro _; exact .nil
    | cons x l ih =>
      intro h
      simp only [List.all_cons, Bool.and_eq_true] at h
      exact .cons _ _ _ _ (plainV_rel h.1) (ih h.2)
  refine Calls.mono (evalCall_sound S n e (empty_rel w) (ra _ ha)) ?_
  rintro e w' ⟨v', ρ1, rfl, rv, _, st⟩
  cases rv with
  | tuple a a' t =>
    obtain ⟨l⟩ := a'
    cases t
    exact ⟨rfl, st.below⟩

/-! What a program must be. -/
def okFn (fn : Func) : Bool := !(fn.name == "runtime.NumGoroutine") && match fn.body with
  | some c => plansIn c
  | none => true
theorem all_of_parts {α : Type} (p : α → Bool) (l : List α) (n : Nat) (h1 : (l.take n).all p = true) (h2 : (l.drop n).all p = true) : l.all p = true := by
  rw [← List.take_append_drop n l, List.all_append, h1, h2]; rfl
theorem okFn_spec {P : Program} (h : P.funcs.toList.all okFn = true) {f : FuncId} {fn : Func} (hf : P.funcs[f]? = some fn) : (fn.name == "runtime.NumGoroutine") = false ∧ ∀ c, fn.body = some c → plansIn c = true := by
  rw [List.all_eq_true] at h
  have hm : fn ∈ P.funcs.toList := by
    have := Array.mem_of_getElem? hf
    simpa using this
  have := h fn hm
  simp only [okFn, Bool.and_eq_true, Bool.not_eq_true'] at this
  refine ⟨this.1, fun c hc => ?_⟩
  have h2 := this.2
  rw [hc] at h2
  exact h2
end Go.Ev

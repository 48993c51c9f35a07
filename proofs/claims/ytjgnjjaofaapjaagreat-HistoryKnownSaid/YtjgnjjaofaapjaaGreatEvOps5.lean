import Derived.Test.YtjgnjjaofaapjaaGreatEvOps4
namespace Go.Ev
section
variable {P : Program} {ρ : Emb} {h : AH} {w : World} {id : Nat}

theorem equal_step : ∃ d, Op.equal = Op.equalIn (d + 1) := ⟨9999, rfl⟩

theorem eqNil_run {t : TypeId} {x y x' y' : Value} {b : Bool} (e : eqNil P t x y = some b) (hx : VRel ρ x x') (hy : VRel ρ y y') (w : World) :
    (Op.equal t x' y').run P w = .ok b w ∧ (∀ c, y' ≠ .agg c) ∧ y' ≠ .nilIface ∧ (∀ k n, x' ≠ .int k n) ∧ (∀ s, x' ≠ .string s) := by
  unfold eqNil at e
  obtain ⟨dd, hdd⟩ := equal_step
  rw [hdd]
  cases hu : P.underlying t with
  | none => simp [hu] at e
  | some d =>
    cases d <;> simp only [hu] at e <;> try cases e
    all_goals
      simp only [Op.equalIn, Sem.run_bind, run_underlying hu, Result.andThen_ok]
    · unfold nilPtr at e
      cases hx <;> simp only at e <;> try cases e
      all_goals
        cases hy <;> simp only [Option.some.injEq] at e <;> try cases e
        simp
    · unfold nilSl at e
      cases hx <;> simp only at e <;> try cases e
      all_goals
        cases hy <;> simp only [Option.some.injEq] at e <;> try cases e
        simp
    · unfold nilMap at e
      cases hx <;> simp only at e <;> try cases e
      all_goals
        cases hy <;> simp only [Option.some.injEq] at e <;> try cases e
        simp
    · unfold nilFun at e
      cases hy <;> simp only at e <;> try cases e
      cases hx <;> simp only [Option.some.injEq] at e <;> try cases e
      all_goals simp

theorem run_eqGuard_agg {op : BinOp} {t : TypeId} {x y : Operand} {a b : Array Value} (hg : P.eqGuardType P.depth t = false) (w : World) : (eqGuard op t x y (.agg a) (.agg b)).run P w = .ok () w := by
  unfold eqGuard
  cases op <;> simp [hg]
theorem run_eqGuard_other {op : BinOp} {t : TypeId} {x y : Operand} {a b : Value} (h1 : ∀ c d, a = .agg c → b = .agg d → False) (h2 : a = .nilIface → b = .nilIface → False) (w : World) : (eqGuard op t x y a b).run P w = .ok () w := by
  unfold eqGuard
  cases op <;> simp <;> (cases a <;> cases b <;> first | rfl | exact (h1 _ _ rfl rfl).elim | exact (h2 rfl rfl).elim)

theorem binOp_eql {t : TypeId} {x y : Value} {b : Bool} (hx : ∀ k n, x ≠ .int k n) (hs : ∀ s, x ≠ .string s) (hr : (Op.equal t x y).run P w = .ok b w) (hf : ∀ k n, x ≠ .float k n) (hc : ∀ k a c, x ≠ .complex k a c) :
    (binOp .eql t x y).run P w = .ok (.bool b) w ∧ (binOp .neq t x y).run P w = .ok (.bool (!b)) w := by
  cases x <;> first
    | (exact absurd rfl (hx _ _))
    | (exact absurd rfl (hs _))
    | (exact absurd rfl (hf _ _))
    | (exact absurd rfl (hc _ _ _))
    | (simp [binOp, hr])

theorem aEq_run {t : TypeId} {x y x' y' : Value} {b : Bool} (e : aEq P t x y = some b) (hx : VRel ρ x x') (hy : VRel ρ y y') (p q : Operand) (w : World) :
    ((do eqGuard .eql t p q x' y'; binOp .eql t x' y' : Sem Value)).run P w = .ok (.bool b) w ∧ ((do eqGuard .neq t p q x' y'; binOp .neq t x' y' : Sem Value)).run P w = .ok (.bool (!b)) w := by
  unfold aEq at e
  cases x with
  | agg a =>
    cases y <;> simp only at e <;> try cases e
    rename_i c
    unfold eqAgg at e
    cases hg : P.eqGuardType P.depth t with
    | true => simp [hg] at e
    | false =>
      simp only [hg, cond_false] at e
      have hr := aEqual_run e hx hy w
      cases hx
      cases hy
      obtain ⟨h1, h2⟩ := binOp_eql (by simp) (by simp) hr (by simp) (by simp)
      simp [run_eqGuard_agg hg, h1, h2]
  | bool a =>
    cases y <;> simp only at e <;> try cases e
    rename_i c
    cases hu : P.underlying t with
    | none => simp [hu] at e
    | some d =>
      cases d <;> simp only [hu] at e <;> try cases e
      cases hx
      cases hy
      have hr : (Op.equal t (.bool a) (.bool c)).run P w = .ok (a == c) w := by
        obtain ⟨dd, hdd⟩ := equal_step
        rw [hdd]; simp [Op.equalIn, run_underlying hu]
      obtain ⟨h1, h2⟩ := binOp_eql (by simp) (by simp) hr (by simp) (by simp)
      simp [run_eqGuard_other, h1, h2]
  | string a =>
    cases y <;> simp only at e <;> try cases e
    rename_i c
    cases hx
    cases hy
    simp [run_eqGuard_other, binOp, Op.stringOp]
  | float k n => cases hx
  | complex k a c => cases hx
  | _ =>
    obtain ⟨hr, hna, hni, hxi, hxs⟩ := eqNil_run e hx hy w
    obtain ⟨h1, h2⟩ := binOp_eql hxi hxs hr (by cases hx <;> simp) (by cases hx <;> simp)
    have hg : ∀ op, (eqGuard op t p q x' y').run P w = .ok () w := fun op => run_eqGuard_other (fun c d _ e2 => hna d e2) (fun _ e2 => hni e2) w
    simp [hg, h1, h2]

theorem op_bin (wr : WRel ρ h w) (op : BinOp) (t : TypeId) (p q : Operand) {x x' y y' : Value} (hx : VRel ρ x x') (hy : VRel ρ y y') :
    Sim ρ h w id (retO (aBin P op t x y)) (valR ((do eqGuard op t p q x' y'; binOp op t x' y' : Sem Value).run P w)) := by
  refine sim_retO wr fun v e => ?_
  have other : ∀ (e : binOther P op t x y = some v), ∃ v', valR ((do eqGuard op t p q x' y'; binOp op t x' y' : Sem Value).run P w) = .ok (.value v') w ∧ VRel ρ v v' := by
    intro e
    cases op <;> simp only [binOther] at e <;> try cases e
    case add =>
      cases x with
      | string a => cases y with
        | string b =>
          simp only at e
          cases hx
          cases hy
          cases hb : Nat.ble (a.size + b.size) 9223372036854775807 with
          | false => simp [hb] at e
          | true =>
            simp only [hb, cond_true, Option.some.injEq] at e
            subst e
            have hle := ble_true hb
            have hmax : ¬ (9223372036854775807 < ((a.size : Int) + (b.size : Int))) := by omega
            exact ⟨.string (a ++ b), by simp [run_eqGuard_other, binOp, Op.stringOp, hmax], .string _⟩
        | _ => simp at e
      | _ => simp at e
    case eql =>
      cases hq : aEq P t x y with
      | none => simp [hq] at e
      | some b =>
        simp only [hq, Option.map_some, Option.some.injEq] at e
        subst e
        exact ⟨.bool b, by rw [(aEq_run hq hx hy p q w).1]; rfl, .bool _⟩
    case neq =>
      cases hq : aEq P t x y with
      | none => simp [hq] at e
      | some b =>
        simp only [hq, Option.map_some, Option.some.injEq] at e
        subst e
        exact ⟨.bool (!b), by rw [(aEq_run hq hx hy p q w).2]; rfl, .bool _⟩
  unfold aBin at e
  cases x with
  | int k a =>
    cases y <;> simp only at e <;> try cases e
    rename_i k' b
    cases hx
    cases hy
    obtain ⟨h1, h2⟩ := binInt_run (P := P) (w := w) op k k' a b e t
    exact ⟨v, by simp [run_eqGuard_other, h1], h2 ρ⟩
  | _ => exact other e

theorem op_un (wr : WRel ρ h w) (op : UnOp) {x x' : Value} (hx : VRel ρ x x') : Sim ρ h w id (retO (aUn op x)) (valR ((Op.unary op x').run P w)) := by
  refine sim_retO wr fun v e => ?_
  unfold aUn at e
  cases hx <;> simp only at e <;> try cases e
  case int k n =>
    cases op <;> simp only [iWrap, bvBin, Option.some.injEq] at e <;> try cases e
    · exact ⟨_, by simp only [Op.unary, Op.intArith, Sem.run_pure]; rfl, .int _ _⟩
    · exact ⟨_, by simp only [Op.unary, Op.intBits, Sem.run_pure]; rfl, .int _ _⟩
  case bool b =>
    cases op <;> simp only [Option.some.injEq] at e <;> try cases e
    exact ⟨_, by simp only [Op.unary, Sem.run_pure]; rfl, .bool _⟩
end
end Go.Ev

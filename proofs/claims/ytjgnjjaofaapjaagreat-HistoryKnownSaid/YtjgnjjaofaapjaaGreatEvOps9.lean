import Derived.Test.YtjgnjjaofaapjaaGreatEvOps8
namespace Go.Ev
section
variable {P : Program} {ρ : Emb} {h : AH} {w : World} {id : Nat}

/-! min, max, len -/
theorem min2_run {x x' y y' v : Value} (e : aMin2 x y = some v) (hx : VRel ρ x x') (hy : VRel ρ y y') : (Builtin.min2 x' y').run P w = .ok v w ∧ VRel ρ v v := by
  unfold aMin2 at e
  cases hx <;> simp only at e <;> try cases e
  cases hy <;> simp only [Option.some.injEq] at e <;> try cases e
  rename_i k a k' b
  refine ⟨?_, .int _ _⟩
  simp only [Builtin.min2, Sem.run_pure]
  by_cases hb : b < a <;> simp [hb]
theorem max2_run {x x' y y' v : Value} (e : aMax2 x y = some v) (hx : VRel ρ x x') (hy : VRel ρ y y') : (Builtin.max2 x' y').run P w = .ok v w ∧ VRel ρ v v := by
  unfold aMax2 at e
  cases hx <;> simp only at e <;> try cases e
  cases hy <;> simp only [Option.some.injEq] at e <;> try cases e
  rename_i k a k' b
  refine ⟨?_, .int _ _⟩
  simp only [Builtin.max2, Sem.run_pure]
  by_cases hb : a < b <;> simp [hb]
theorem foldl_run (f : Value → Value → Option Value) (g : Value → Value → Sem Value) (hfg : ∀ x x' y y' v, f x y = some v → VRel ρ x x' → VRel ρ y y' → (g x' y').run P w = .ok v w ∧ VRel ρ v v) :
    ∀ (l l' : List Value) (x x' v : Value), aFoldl f x l = some v → VRel ρ x x' → VsRel ρ l l' → ∃ v', (l'.foldlM g x').run P w = .ok v' w ∧ VRel ρ v v' := by
  intro l
  induction l with
  | nil =>
    intro l' x x' v e hx r
    cases r
    simp only [aFoldl, Option.some.injEq] at e
    subst e
    exact ⟨x', by simp, hx⟩
  | cons y l ih =>
    intro l' x x' v e hx r
    cases r with
    | cons y y' l l' hy t =>
      simp only [aFoldl] at e
      cases hf : f x y with
      | none => simp [hf] at e
      | some z =>
        simp only [hf] at e
        obtain ⟨h1, h2⟩ := hfg _ _ _ _ _ hf hx hy
        obtain ⟨v', h3, h4⟩ := ih _ _ _ _ e h2 t
        exact ⟨v', by simp only [List.foldlM_cons, Sem.run_bind, h1, Result.andThen_ok]; exact h3, h4⟩
theorem op_min (wr : WRel ρ h w) (ts : Array TypeId) (t : TypeId) {l : Array Value} {l' : Array Value} (hl : VsRel ρ l.toList l'.toList) :
    Sim ρ h w id (retO (aFold aMin2 l.toList)) (valR ((Builtin.min_ ts t l').run P w)) := by
  refine sim_retO wr fun v e => ?_
  unfold Builtin.min_
  revert hl e
  generalize l.toList = a
  generalize l'.toList = a'
  intro hl e
  cases hl with
  | nil => simp [aFold] at e
  | cons x x' r r' hx t =>
    obtain ⟨v', h1, h2⟩ := foldl_run (P := P) (w := w) aMin2 Builtin.min2 (fun _ _ _ _ _ a b c => min2_run a b c) _ _ _ _ _ e hx t
    exact ⟨v', by rw [h1]; rfl, h2⟩
theorem op_max (wr : WRel ρ h w) (ts : Array TypeId) (t : TypeId) {l : Array Value} {l' : Array Value} (hl : VsRel ρ l.toList l'.toList) :
    Sim ρ h w id (retO (aFold aMax2 l.toList)) (valR ((Builtin.max_ ts t l').run P w)) := by
  refine sim_retO wr fun v e => ?_
  unfold Builtin.max_
  revert hl e
  generalize l.toList = a
  generalize l'.toList = a'
  intro hl e
  cases hl with
  | nil => simp [aFold] at e
  | cons x x' r r' hx t =>
    obtain ⟨v', h1, h2⟩ := foldl_run (P := P) (w := w) aMax2 Builtin.max2 (fun _ _ _ _ _ a b c => max2_run a b c) _ _ _ _ _ e hx t
    exact ⟨v', by rw [h1]; rfl, h2⟩

theorem VsRel.getA {a a' : Array Value} (h : VsRel ρ a.toList a'.toList) (j : Nat) : (∀ v, a[j]? = some v → ∃ v', a'[j]? = some v' ∧ VRel ρ v v') := by
  intro v hv
  rw [← Array.getElem?_toList] at hv
  obtain ⟨v', h1, h2⟩ := h.get j v hv
  exact ⟨v', by rw [← Array.getElem?_toList]; exact h1, h2⟩

theorem EsRel.length : ∀ {l l' : List MapEntry}, EsRel ρ l l' → l'.length = l.length
  | _, _, .nil => rfl
  | _, _, .cons _ _ _ _ _ _ t => by simp [t.length]

theorem map_obj {r r' : Nat} {es : List MapEntry} (wr : WRel ρ h w) (hr : MapAt ρ r r') (hg : h.get r = some (.amap es)) :
    ∃ g es' clk, ρ r = .img g ∧ g.rw = true ∧ r' = g.b ∧ w.heap[r']? = some (.map es' clk) ∧ EsRel ρ es es'.toList := by
  obtain ⟨g, hi, h1, es', clk, h2, h3⟩ := wr.amap hg
  have := hr.2 g hi
  subst this
  exact ⟨g, es', clk, hi, h1, rfl, h2, h3⟩

theorem run_getMap {r : Nat} {es : Array MapEntry} {clk : Nat} (hb : w.heap[r]? = some (.map es clk)) : (getObj r).run P w = .ok (.map es clk) w := by
  simp only [getObj, Sem.run, hb]

theorem op_len (wr : WRel ρ h w) (ts : Array TypeId) (t : TypeId) {l l' : Array Value} (hl : VsRel ρ l.toList l'.toList) :
    Sim ρ h w id (oLen P ts l) (valR ((Builtin.len_ ts t l').run P w)) := by
  unfold oLen
  cases ht : ts[0]? with
  | none => exact sim_fail
  | some t0 =>
    cases hx0 : l[0]? with
    | none => exact sim_fail
    | some x =>
      obtain ⟨x', hx', hx⟩ := hl.getA 0 x hx0
      simp only
      cases hu : P.underlying t0 with
      | none => exact sim_fail
      | some d =>
        simp only
        unfold lenOf1
        cases d <;> simp only <;> try exact sim_fail
        case string =>
          cases hx <;> simp only <;> try exact sim_fail
          exact sim_val (v' := goInt _) wr (by simp [Builtin.len_, ht, hx', run_underlying hu]) (.int _ _)
        case array n el =>
          exact sim_val (v' := goInt _) wr (by simp [Builtin.len_, ht, hx', run_underlying hu]) (.int _ _)
        case slice el =>
          cases hx <;> simp only <;> try exact sim_fail
          all_goals exact sim_val (v' := goInt _) wr (by simp [Builtin.len_, ht, hx', run_underlying hu]) (.int _ _)
        case map k el =>
          cases hx <;> simp only <;> try exact sim_fail
          case mapNil => exact sim_val (v' := goInt _) wr (by simp [Builtin.len_, ht, hx', run_underlying hu]) (.int _ _)
          case map r r' hr =>
            refine sim_get fun o hg => ?_
            cases o with
            | amap es =>
              obtain ⟨g, es', clk, _, _, _, h2, h3⟩ := map_obj wr hr hg
              refine sim_val (v' := goInt es'.size) wr (by simp [Builtin.len_, ht, hx', run_underlying hu, run_getMap h2]) ?_
              have := h3.length
              simp only [Array.length_toList] at this
              rw [this]
              exact .int _ _
            | cells c rw => exact sim_fail
            | dead => exact sim_fail

/-! Interfaces, tuples, functions. -/
theorem op_iface (wr : WRel ρ h w) (t : TypeId) {x x' : Value} (hx : VRel ρ x x') : Sim ρ h w id (oIface P t x) (valR ((Instr.makeInterface t x').run P w)) := by
  unfold oIface
  cases hu : P.underlying t with
  | none => exact sim_fail
  | some d =>
    cases d <;> simp only <;> first
      | exact sim_fail
      | exact sim_val (v' := .iface t x') wr (by simp [Instr.makeInterface, run_underlying hu]) (.iface _ _ _ hx)

theorem op_extract (wr : WRel ρ h w) (i : Nat) {x x' : Value} (hx : VRel ρ x x') : Sim ρ h w id (oExtract x i) (valR ((Instr.extract x' i).run P w)) := by
  unfold oExtract
  cases hx <;> simp only <;> try exact sim_fail
  rename_i a a' ha
  refine sim_retO wr fun v e => ?_
  obtain ⟨v', h1, h2⟩ := ha.getA i v e
  exact ⟨v', by simp [Instr.extract, h1], h2⟩

theorem assertNo_rel {t : TypeId} {ok : Bool} {v : Value} (e : assertNo P t ok = some v) : ok = true ∧ ∃ z, v = .tuple #[z, .bool false] ∧ (∀ w, (zeroValue t).run P w = .ok z w) ∧ VRel ρ z z := by
  unfold assertNo at e
  cases ok with
  | false => simp at e
  | true =>
    cases hz : aZeroV P t with
    | none => simp [hz] at e
    | some z =>
      simp only [hz, Option.map_some, cond_true, Option.some.injEq] at e
      obtain ⟨h1, h2, _⟩ := aZeroV_some hz
      exact ⟨rfl, z, e.symm, h1, plainV_rel h2⟩

theorem op_assert (wr : WRel ρ h w) (xt t : TypeId) (ok : Bool) {x x' : Value} (hx : VRel ρ x x') : Sim ρ h w id (retO (aTypeAssert P x t ok)) (valR ((Instr.typeAssert x' xt t ok).run P w)) := by
  refine sim_retO wr fun v e => ?_
  unfold aTypeAssert at e
  cases hu : P.underlying t with
  | none => simp [hu] at e
  | some d =>
    have two : ∀ (a b : Value), VRel ρ a b → VRel ρ (.tuple #[a, .bool true]) (.tuple #[b, .bool true]) := fun a b hab => .tuple _ _ (.cons _ _ _ _ hab (.cons _ _ _ _ (.bool _) .nil))
    have two' : ∀ (a : Value), VRel ρ a a → VRel ρ (.tuple #[a, .bool false]) (.tuple #[a, .bool false]) := fun a hab => .tuple _ _ (.cons _ _ _ _ hab (.cons _ _ _ _ (.bool _) .nil))
    cases d <;> simp only [hu] at e <;> try cases e
    all_goals
      cases hx <;> simp only at e <;> try cases e
      case nilIface =>
        obtain ⟨rfl, z, rfl, hz, hr⟩ := assertNo_rel (ρ := ρ) e
        exact ⟨_, by simp [Instr.typeAssert, run_underlying hu, hz], two' z hr⟩
      case iface u a a' ha =>
        cases hb : Nat.beq u t with
        | true =>
          have : u = t := by rw [Nat.beq_eq] at hb; exact hb
          subst this
          simp only [hb, cond_true, Option.some.injEq] at e
          subst e
          cases ok
          · exact ⟨a', by simp [Instr.typeAssert, run_underlying hu], ha⟩
          · exact ⟨.tuple #[a', .bool true], by simp [Instr.typeAssert, run_underlying hu], two _ _ ha⟩
        | false =>
          have hne : ¬ u = t := fun h' => by subst h'; simp at hb
          simp only [hb, cond_false] at e
          obtain ⟨rfl, z, rfl, hz, hr⟩ := assertNo_rel (ρ := ρ) e
          exact ⟨_, by simp [Instr.typeAssert, run_underlying hu, hne, hz], two' z hr⟩
end
end Go.Ev

import Derived.Test.YtjgnjjaofaapjaaGreatEvOpsC
import Derived.Test.YtjgnjjaofaapjaaGreatEvGood3
import Derived.Laws.Sem
namespace Go.Ev

inductive DsRel (ρ : Emb) : List Deferred → List Deferred → Prop
  | nil : DsRel ρ [] []
  | cons (d d' : Deferred) (l l' : List Deferred) (h : DRel ρ d d') (t : DsRel ρ l l') : DsRel ρ (d :: l) (d' :: l')
theorem DsRel.mono {ρ ρ' : Emb} (x : Ext ρ ρ') : ∀ {l l' : List Deferred}, DsRel ρ l l' → DsRel ρ' l l'
  | _, _, .nil => .nil
  | _, _, .cons d d' l l' h t => .cons d d' l l' (h.mono x) (t.mono x)

theorem undef_rel (ρ : Emb) : VRel ρ undef undef := .tuple #[] #[] .nil

/-- Two frames that stand for the same. -/
structure ARel (ρ : Emb) (a : BAct) (b : Act) : Prop where
  wf : a.wf
  size : b.tmps.size = a.n
  slot : ∀ t, VRel ρ (a.slot t) (b.tmps.getD t undef)
  defers : DsRel ρ a.defers b.defers

theorem ARel.mono {ρ ρ' : Emb} (x : Ext ρ ρ') {a : BAct} {b : Act} (r : ARel ρ a b) : ARel ρ' a b := ⟨r.wf, r.size, fun t => (r.slot t).mono x, r.defers.mono x⟩

theorem ARel.put {ρ : Emb} {a : BAct} {b : Act} (r : ARel ρ a b) (d : Option Tmp) {v v' : Value} (h : VRel ρ v v') : ARel ρ (a.put d v) (b.put d v') := by
  cases d with
  | none => exact r
  | some d =>
    refine ⟨BAct.wf_set r.wf d v, by show (b.tmps.setIfInBounds d v').size = (a.set d v).n; rw [BAct.n_set, Array.size_setIfInBounds, r.size], fun t => ?_, by show DsRel ρ (a.set d v).defers b.defers; rw [BAct.defers_set]; exact r.defers⟩
    show VRel ρ ((a.set d v).slot t) ((b.tmps.setIfInBounds d v').getD t undef)
    by_cases hdt : d = t
    · subst hdt
      rcases Nat.lt_or_ge d a.n with hl | hl
      · rw [BAct.slot_set_same a hl]
        have : d < b.tmps.size := by rw [r.size]; exact hl
        simp [Array.getD_eq_getD_getElem?, this]
        exact h
      · rw [BAct.set_out a hl, Array.setIfInBounds_eq_of_size_le (by rw [r.size]; exact hl)]
        exact r.slot d
    · rw [BAct.slot_set_ne r.wf hdt]
      have : (b.tmps.setIfInBounds d v').getD t undef = b.tmps.getD t undef := by
        simp [Array.getD_eq_getD_getElem?, Array.getElem?_setIfInBounds_ne hdt]
      rw [this]
      exact r.slot t
theorem ARel.later {ρ : Emb} {a : BAct} {b : Act} (r : ARel ρ a b) {d d' : Deferred} (h : DRel ρ d d') : ARel ρ (a.later d) { b with defers := d' :: b.defers } :=
  ⟨BAct.wf_later r.wf d, r.size, fun t => by rw [BAct.slot_later]; exact r.slot t, .cons _ _ _ _ h r.defers⟩

theorem ARel.eval {ρ : Emb} {a : BAct} {b : Act} (r : ARel ρ a b) {x : Operand} (hx : operandOK x = true) : VRel ρ (a.eval x) (b.eval x) := by
  cases x with
  | tmp t => exact r.slot t
  | const v => exact plainV_rel hx
  | global g => cases hx
  | func f => exact .func _ _ _ _ _ .nil .nil
theorem ARel.evals {ρ : Emb} {a : BAct} {b : Act} (r : ARel ρ a b) {o : Op} (ho : opOK o = true) : ∀ x ∈ o.operands, VRel ρ (a.eval x) (b.eval x) := fun x hx => by
  unfold opOK at ho
  rw [List.all_eq_true] at ho
  exact r.eval (ho x (by simpa using hx))

theorem ARel.yielded {ρ : Emb} {a : BAct} {b : Act} (r : ARel ρ a b) (ops : Array Oper) (j : Nat) : byielded ops a j = yielded ops b.tmps j := by
  unfold byielded Go.yielded
  cases ops[j]? with
  | none => rfl
  | some o =>
    simp only [Option.bind_some]
    cases o.dst with
    | none => rfl
    | some d =>
      simp only [Option.bind_some]
      have h := r.slot d
      rcases Nat.lt_or_ge d a.n with hl | hl
      · have hs : d < b.tmps.size := by rw [r.size]; exact hl
        have e : b.tmps[d]? = some (b.tmps.getD d undef) := by simp [Array.getD_eq_getD_getElem?, hs]
        rw [e]
        generalize b.tmps.getD d undef = y at h
        generalize a.slot d = x at h
        cases h <;> rfl
      · rw [BAct.slot_out a hl, Array.getElem?_eq_none (by rw [r.size]; exact hl)]
        rfl
theorem ARel.wanted {ρ : Emb} {a : BAct} {b : Act} (r : ARel ρ a b) (ops : Array Oper) (o : Oper) : bwanted ops a o = Region.wanted o (Go.yielded ops b.tmps) := by
  unfold bwanted Region.wanted
  cases o.guard with
  | none => rfl
  | some p =>
    obtain ⟨j, want⟩ := p
    simp only [r.yielded ops j]
    cases Go.yielded ops b.tmps j with
    | none => rfl
    | some c => rfl

theorem ARel.start {ρ : Emb} {n : Nat} (hn : n ≤ 512) {args : List Value} {args' : Array Value} (h : VsRel ρ args args'.toList) (ha : args.length ≤ n) :
    ARel ρ (BAct.start n args) { tmps := args' ++ Array.replicate (n - args'.size) undef, defers := [] } := by
  have hl : args'.size = args.length := by simpa using h.length
  refine ⟨BAct.wf_start hn args, by rw [BAct.n_start]; simp; omega, fun t => ?_, by rw [BAct.defers_start]; exact .nil⟩
  rw [BAct.slot_start hn ha t]
  cases ht : args[t]? with
  | some v =>
    obtain ⟨v', e, r⟩ := h.get t v ht
    have e' : args'[t]? = some v' := by simpa using e
    have hlt : t < args'.size := (Array.getElem?_eq_some_iff.1 e').1
    have : (args' ++ Array.replicate (n - args'.size) undef).getD t undef = v' := by
      simp only [Array.getD_eq_getD_getElem?]
      rw [Array.getElem?_append_left hlt, e']; rfl
    rw [this]
    exact r
  | none =>
    have hge : args'.size ≤ t := by rw [hl]; simpa using ht
    have : (args' ++ Array.replicate (n - args'.size) undef).getD t undef = undef := by
      simp only [Array.getD_eq_getD_getElem?]
      rw [Array.getElem?_append_right hge, Array.getElem?_replicate]
      split <;> rfl
    rw [this]
    exact undef_rel ρ

/-! Results. -/
section
variable {P : Program} {ρ : Emb} {h : AH} {w : World}
theorem cell1_rel {agg : Bool} {l l' : List Value} {v : Value} {id : Nat} {h' : AH} (hv : VsRel ρ l l') (e : (cell1 agg l).run id h = some (v, h')) :
    h' = h ∧ ((agg = true ∧ VRel ρ v (.agg l'.toArray)) ∨ (agg = false ∧ ∃ v', l' = [v'] ∧ VRel ρ v v')) := by
  unfold cell1 at e
  cases agg with
  | true =>
    simp only [cond_true, AM.run, Option.some.injEq, Prod.mk.injEq] at e
    obtain ⟨rfl, rfl⟩ := e
    exact ⟨rfl, .inl ⟨rfl, .agg _ _ (by simpa using hv)⟩⟩
  | false =>
    simp only [cond_false] at e
    cases hv with
    | nil => simp [AM.run] at e
    | cons v v' l l' h1 h2 =>
      cases h2 with
      | nil =>
        simp only [AM.run, Option.some.injEq, Prod.mk.injEq] at e
        obtain ⟨rfl, rfl⟩ := e
        exact ⟨rfl, .inr ⟨rfl, v', rfl, h1⟩⟩
      | cons _ _ _ _ _ _ => simp [AM.run] at e

theorem loadV_rel' (wr : WRel ρ h w) (t : TypeId) {x x' v : Value} {id : Nat} {h' : AH} (hx : VRel ρ x x') (e : (aLoadV P t x).run id h = some (v, h')) :
    ∃ v', (do loadVar t (← asAddr x') : Sem Value).run P w = .ok v' w ∧ VRel ρ v v' := by
  unfold aLoadV at e
  cases ha : addrOf x with
  | none => rw [ha] at e; simp [AM.run] at e
  | some a =>
    rw [ha] at e
    obtain ⟨a', rfl, hr⟩ := addrOf_rel ha hx
    cases hs : shapeOf P t with
    | none => rw [hs] at e; simp [AM.run] at e
    | some p =>
      obtain ⟨agg, n⟩ := p
      rw [hs] at e
      obtain ⟨d, inf, hu, hi, rfl, rfl⟩ := shapeOf_some hs
      simp only [AM.run] at e
      cases hg : h.get a.block with
      | none => rw [hg] at e; cases e
      | some o =>
        rw [hg] at e
        cases o with
        | cells c rw =>
          simp only at e
          cases ht : takeCells c a.off inf.size with
          | none => rw [ht] at e; simp [AM.run] at e
          | some l =>
            rw [ht] at e
            simp only at e
            obtain ⟨l', hv, hl, hc⟩ := loadCells_rel (P := P) wr hr hg ht
            obtain ⟨_, h2⟩ := cell1_rel hv e
            rcases h2 with ⟨hagg, h2⟩ | ⟨hagg, v', hl', h2⟩
            · exact ⟨_, by simp [asAddr, loadVar, run_isAggD hu, hagg, run_sizeOfI hi, hl], h2⟩
            · have h0 := hc 0 v' (by rw [hl']; rfl)
              have h1 : a'.add 0 = a' := by unfold Addr.add; simp
              rw [h1] at h0
              exact ⟨v', by simp [asAddr, loadVar, run_isAggD hu, hagg, h0], h2⟩
        | amap es => simp [AM.run] at e
        | dead => simp [AM.run] at e

theorem AM.run_bind {α β : Type} (id : Nat) (f : α → AM β) : ∀ (m : AM α) (h : AH), (m.bind f).run id h = (match m.run id h with
    | some (a, h1) => (f a).run id h1
    | none => none) := by
  intro m
  induction m with
  | ret a => intro h; rfl
  | get i k ih =>
    intro h
    simp only [AM.bind, AM.run]
    cases h.get i with
    | none => rfl
    | some o => exact ih o h
  | set i o k ih =>
    intro h
    simp only [AM.bind, AM.run]
    cases h.get i with
    | none => rfl
    | some _ => exact ih _
  | kill i k ih =>
    intro h
    simp only [AM.bind, AM.run]
    cases h.get i with
    | none => rfl
    | some _ => exact ih _
  | new o k ih =>
    intro h
    simp only [AM.bind, AM.run]
    cases h.get id with
    | some _ => rfl
    | none =>
      simp only
      cases Nat.blt id h.next with
      | false => rfl
      | true => exact ih _
  | fail => intro h; rfl

noncomputable def oneA (P : Program) (a : BAct) (x : ResultVar) : AM Value :=
  match x with
  | .tmp t => AM.ret (a.slot t)
  | .cell x t => aLoadV P t (a.slot x)
def oneS (b : Act) (x : ResultVar) : Sem Value :=
  match x with
  | .tmp t => pure (b.tmps.getD t undef)
  | .cell x t => do loadVar t (← asAddr (b.tmps.getD x undef))
theorem aResults_cons (P : Program) (a : BAct) (x : ResultVar) (l : List ResultVar) : aResults P a (x :: l) = (oneA P a x).bind fun v => (aResults P a l).bind fun vs => .ret (v :: vs) := by
  cases x <;> rfl
theorem oneA_rel (wr : WRel ρ h w) {a : BAct} {b : Act} (r : ARel ρ a b) (x : ResultVar) (v : Value) (h1 : AH) (e : (oneA P a x).run 0 h = some (v, h1)) :
    h1 = h ∧ ∃ v', (oneS b x).run P w = .ok v' w ∧ VRel ρ v v' := by
  cases x with
  | tmp t =>
    simp only [oneA, AM.run, Option.some.injEq, Prod.mk.injEq] at e
    obtain ⟨rfl, rfl⟩ := e
    exact ⟨rfl, _, by simp [oneS], r.slot t⟩
  | cell x t =>
    simp only [oneA] at e
    exact ⟨((calm_loadV P t _).run 0 e).1, loadV_rel' wr t (r.slot x) e⟩

theorem results_list (wr : WRel ρ h w) {a : BAct} {b : Act} (r : ARel ρ a b) : ∀ (l : List ResultVar) (vs : List Value) (h' : AH), (aResults P a l).run 0 h = some (vs, h') →
    h' = h ∧ ∃ vs', (l.mapM (oneS b)).run P w = .ok vs' w ∧ VsRel ρ vs vs' := by
  intro l
  induction l with
  | nil =>
    intro vs h' e
    simp only [aResults, AM.run, Option.some.injEq, Prod.mk.injEq] at e
    obtain ⟨rfl, rfl⟩ := e
    exact ⟨rfl, [], by simp, .nil⟩
  | cons x l ihl =>
    intro vs h' e
    rw [aResults_cons, AM.run_bind] at e
    cases he : (oneA P a x).run 0 h with
    | none => rw [he] at e; cases e
    | some p =>
      obtain ⟨v, h1⟩ := p
      rw [he] at e
      obtain ⟨rfl, v', hv', rv⟩ := oneA_rel wr r x v h1 he
      simp only at e
      rw [AM.run_bind] at e
      cases hl : (aResults P a l).run 0 h1 with
      | none => rw [hl] at e; cases e
      | some q =>
        obtain ⟨us, h2⟩ := q
        rw [hl] at e
        obtain ⟨rfl, us', hus, rus⟩ := ihl us h2 hl
        simp only [AM.run, Option.some.injEq, Prod.mk.injEq] at e
        obtain ⟨rfl, rfl⟩ := e
        refine ⟨rfl, v' :: us', ?_, .cons _ _ _ _ rv rus⟩
        rw [List.mapM_cons]
        simp only [Sem.run_bind, hv', Result.andThen_ok, hus, Sem.run_pure]

theorem packed_rel {vs : List Value} {vs' : Array Value} (r : VsRel ρ vs vs'.toList) : VRel ρ (packed vs) (if h : vs'.size = 1 then vs'[0] else .tuple vs') := by
  obtain ⟨l⟩ := vs'
  simp only at r
  cases r with
  | nil => exact .tuple _ _ .nil
  | cons v v' l l' h t =>
    cases t with
    | nil => exact h
    | cons u u' k k' h2 t2 => exact .tuple _ _ (.cons _ _ _ _ h (.cons _ _ _ _ h2 t2))

theorem results_rel (wr : WRel ρ h w) {a : BAct} {b : Act} (r : ARel ρ a b) (fn : Func) {vs : List Value} {h' : AH} (e : (aResults P a fn.results.toList).run 0 h = some (vs, h')) :
    h' = h ∧ ∃ v', (results fn b.tmps).run P w = .ok v' w ∧ VRel ρ (packed vs) v' := by
  obtain ⟨h1, vs', h2, h3⟩ := results_list wr r fn.results.toList vs h' e
  refine ⟨h1, _, ?_, packed_rel (vs' := vs'.toArray) (by simpa using h3)⟩
  have key : results fn b.tmps = (do
      let vs ← fn.results.mapM (oneS b)
      pure (if h : vs.size = 1 then vs[0] else .tuple vs)) := by
    unfold results
    congr 2
  rw [key, Array.mapM_eq_mapM_toList]
  simp only [Sem.run_bind]
  rw [show ((List.toArray <$> List.mapM (oneS b) fn.results.toList : Sem (Array Value)).run P w) = .ok vs'.toArray w from by rw [map_eq_pure_bind, Sem.run_bind, h2]; simp]
  simp
end
end Go.Ev

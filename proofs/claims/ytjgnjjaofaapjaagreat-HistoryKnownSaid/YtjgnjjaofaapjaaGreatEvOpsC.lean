import Derived.Test.YtjgnjjaofaapjaaGreatEvOpsB
namespace Go.Ev
section
variable {P : Program} {ρ : Emb} {h : AH} {w : World} {id : Nat}

theorem run_v (s : Sem Value) : ((do pure (.value (← s))) : Sem Next).run P w = valR (s.run P w) := by
  simp only [Sem.run_bind, valR, Sem.run_pure]
theorem run_u (s : Sem Unit) : ((do s; pure .skip) : Sem Next).run P w = unitR (s.run P w) := by
  simp only [Sem.run_bind, unitR, Sem.run_pure]

theorem map_rel {ev ev' : Operand → Value} (l : Array Operand) (hl : ∀ x ∈ l, VRel ρ (ev x) (ev' x)) : VsRel ρ (l.map ev).toList (l.map ev').toList := by
  simp only [Array.toList_map]
  have : ∀ x ∈ l.toList, VRel ρ (ev x) (ev' x) := fun x hx => hl x (Array.mem_toList_iff.1 hx)
  revert this
  generalize l.toList = a
  intro ha
  induction a with
  | nil => exact .nil
  | cons x a ih => exact .cons _ _ _ _ (ha x (by simp)) (ih fun y hy => ha y (by simp [hy]))

theorem parts_rel {ev ev' : Operand → Value} (l : Array (Nat × Operand)) (hl : ∀ p ∈ l, VRel ρ (ev p.2) (ev' p.2)) : PsRel ρ (partsOf ev l) (l.map fun (i, x) => (i, ev' x)).toList := by
  unfold partsOf
  simp only [Array.toList_map]
  have : ∀ p ∈ l.toList, VRel ρ (ev p.2) (ev' p.2) := fun x hx => hl x (Array.mem_toList_iff.1 hx)
  revert this
  generalize l.toList = a
  intro ha
  induction a with
  | nil => exact .nil
  | cons x a ih => exact .cons _ _ _ _ _ (ha x (by simp)) (ih fun y hy => ha y (by simp [hy]))

theorem omap_rel {ev ev' : Operand → Value} (o : Option Operand) (hl : ∀ x, o = some x → VRel ρ (ev x) (ev' x)) : ORel ρ (o.map ev) (o.map ev') := by
  cases o with
  | none => trivial
  | some x => exact hl x rfl

/-- No function of the program is one that the model answers by itself. -/
def NoOwn (P : Program) : Prop := ∀ (f : FuncId) (fn : Func), P.funcs[f]? = some fn → (fn.name == "runtime.NumGoroutine") = false

theorem op_enter (wr : WRel ρ h w) (hN : NoOwn P) (f : FuncId) {a a' : Array Value} (ha : VsRel ρ a.toList a'.toList) : Sim ρ h w id (oEnter P f a) ((callFunc f a').run P w) := by
  unfold oEnter
  cases hf : P.funcs[f]? with
  | none => exact sim_fail
  | some fn =>
    simp only
    cases hb : fn.body.isSome with
    | false => exact sim_fail
    | true =>
      have hn := hN f fn hf
      have hnone : fn.body.isNone = false := by cases hbb : fn.body <;> simp_all
      refine sim_ret wr ⟨a', ?_, ha⟩
      simp only [callFunc, Sem.run_bind, run_program, Result.andThen_ok, hf, hn, hnone, Bool.false_eq_true, if_false, Sem.run_pure]

theorem op_panicV (wr : WRel ρ h w) {v v' : Value} (hv : VRel ρ v v') : Sim ρ h w id (panicV (some v)) (valR ((Instr.panic v').run P w)) := by
  unfold panicV
  cases hv <;> simp only <;> try exact sim_fail
  rename_i t a a' ha
  exact sim_ret wr ⟨.iface t a', by simp [Instr.panic, valR], .iface _ _ _ ha⟩

theorem op_call (wr : WRel ρ h w) (hN : NoOwn P) {ev ev' : Operand → Value} (c : Call) (type : TypeId) (hx : ∀ x ∈ c.operands, VRel ρ (ev x) (ev' x)) :
    Sim ρ h w id (oCall P id ev c) ((do let d ← resolve ev' c type; invoke d.target d.args : Sem Next).run P w) := by
  have hargs : VsRel ρ (c.args.map ev).toList (c.args.map ev').toList := map_rel _ fun x hxm => hx x (by simp [Call.operands, hxm])
  unfold oCall
  cases hc : c.callee with
  | invoke r m => exact sim_fail
  | value f =>
    have hf : VRel ρ (ev f) (ev' f) := hx f (by simp [Call.operands, hc])
    simp only
    unfold callValue
    revert hf
    generalize ev f = u
    intro hf
    generalize hu' : ev' f = u' at hf
    cases hf <;> simp only <;> try exact sim_fail
    rename_i fn a b a' b' h1 h2
    cases fn <;> simp only <;> try exact sim_fail
    rename_i g
    have hall : VsRel ρ (a ++ c.args.map ev ++ b).toList (a' ++ c.args.map ev' ++ b').toList := by
      simp only [Array.toList_append]
      exact (h1.append hargs).append h2
    have := op_enter (P := P) (id := id) wr hN g hall
    have hr : (do let d ← resolve ev' c type; invoke d.target d.args : Sem Next).run P w = (callFunc g (a' ++ c.args.map ev' ++ b')).run P w := by
      simp only [resolve, hc, hu', Deferred.ofValue, Sem.run_bind, Sem.run_pure, Result.andThen_ok, invoke]
    rw [hr]
    exact this
  | builtin b =>
    have hr : (do let d ← resolve ev' c type; invoke d.target d.args : Sem Next).run P w = (builtin b c.argTypes type (c.args.map fun | .const _ => true | _ => false) (c.args.map ev')).run P w := by
      simp only [resolve, hc, Sem.run_bind, Sem.run_pure, Result.andThen_ok, invoke]
      rfl
    rw [hr]
    simp only
    unfold callBuiltin
    cases b <;> simp only <;> try exact sim_fail
    case append => have := op_append (P := P) (id := id) wr c.argTypes type hargs; rw [← run_v] at this; exact this
    case len => have := op_len (P := P) (id := id) wr c.argTypes type hargs; rw [← run_v] at this; exact this
    case min => have := op_min (P := P) (id := id) wr c.argTypes type hargs; rw [← run_v] at this; exact this
    case max => have := op_max (P := P) (id := id) wr c.argTypes type hargs; rw [← run_v] at this; exact this
    case delete => have := op_delete (P := P) (id := id) wr c.argTypes type hargs; rw [← run_v] at this; exact this
    case panic =>
      cases h0 : (c.args.map ev)[0]? with
      | none => exact sim_fail
      | some v =>
        obtain ⟨v', hv', hr'⟩ := hargs.getA 0 v h0
        have := op_panicV (P := P) (id := id) wr hr'
        rw [← run_v] at this
        have hg : (c.args.map ev').getD 0 .nilIface = v' := by rw [Array.getD_eq_getD_getElem?, hv']; rfl
        unfold builtin
        simp only [hg]
        exact this

theorem op_defer (wr : WRel ρ h w) {ev ev' : Operand → Value} (c : Call) (type : TypeId) (hx : ∀ x ∈ c.operands, VRel ρ (ev x) (ev' x)) :
    Sim ρ h w id (oDefer ev c) ((do pure (.defer (← resolve ev' c type)) : Sem Next).run P w) := by
  have hargs : VsRel ρ (c.args.map ev).toList (c.args.map ev').toList := map_rel _ fun x hxm => hx x (by simp [Call.operands, hxm])
  unfold oDefer
  cases hc : c.callee with
  | invoke r m => exact sim_fail
  | builtin b => exact sim_fail
  | value f =>
    have hf : VRel ρ (ev f) (ev' f) := hx f (by simp [Call.operands, hc])
    simp only
    unfold deferV
    revert hf
    generalize ev f = u
    intro hf
    generalize hu' : ev' f = u' at hf
    cases hf <;> simp only <;> try exact sim_fail
    rename_i fn a b a' b' h1 h2
    cases fn <;> simp only <;> try exact sim_fail
    rename_i g
    refine sim_ret wr ⟨{ target := .fn (.func g) b', args := a' ++ c.args.map ev' }, ?_, g, b, b', rfl, rfl, h2, ?_⟩
    · simp only [resolve, hc, hu', Deferred.ofValue, Sem.run_bind, Sem.run_pure, Result.andThen_ok]
    · simp only [Array.toList_append]; exact h1.append hargs

theorem op_pick (wr : WRel ρ h w) {ev ev' : Operand → Value} (c a b : Operand) (hc : VRel ρ (ev c) (ev' c)) (ha : VRel ρ (ev a) (ev' a)) (hb : VRel ρ (ev b) (ev' b)) :
    Sim ρ h w id (oPick ev c a b) ((do pure (.value (if ← asBool (ev' c) then ev' a else ev' b)) : Sem Next).run P w) := by
  unfold oPick
  revert hc
  generalize ev c = u
  intro hc
  generalize ev' c = u' at hc ⊢
  cases hc <;> simp only <;> try exact sim_fail
  rename_i t
  cases t with
  | true => exact sim_val (v' := ev' a) wr (by simp [asBool]) ha
  | false => exact sim_val (v' := ev' b) wr (by simp [asBool]) hb

theorem op_nil (wr : WRel ρ h w) {x x' : Value} (hx : VRel ρ x x') {r : Result Next} (h1 : ∀ a, x' = .pointer (some a) → r = .ok (.value x') w) (h2 : ∀ f a b, x' = .func (.func f) a b → r = .ok (.value x') w) : Sim ρ h w id (oNil x) r := by
  unfold oNil
  cases hx <;> simp only <;> try exact sim_fail
  case ptr a a' h => exact sim_val wr (h1 _ rfl) (.ptr _ _ h)
  case func fn a b a' b' ha hb =>
    cases fn <;> simp only <;> try exact sim_fail
    exact sim_val wr (h2 _ _ _ rfl) (.func _ _ _ _ _ ha hb)

theorem op_map (wr : WRel ρ h w) (t : TypeId) (r : Option Operand) (ev' : Operand → Value) : Sim ρ h w id (oMap id r) (valR ((Instr.makeMap t (r.map ev')).run P w)) := by
  unfold oMap
  cases r with
  | some _ => exact sim_fail
  | none =>
    simp only
    unfold retV
    refine sim_new fun hg hlt => ?_
    let g : Img := ⟨w.heap.size, 0, 0, true⟩
    let w' : World := { w with heap := w.heap.push (.map #[] 0) }
    have gr : Grow1 w w' (.map #[] 0) := Grow1.push rfl rfl rfl rfl
    obtain ⟨g1, g2⟩ := wr.new (o := .amap []) (g := g) (by simp) hg hlt gr rfl ⟨rfl, #[], 0, gr.here, .nil⟩
    refine ⟨_, w', g2, g1, .map (some w.heap.size), by simp [Instr.makeMap]; rfl, .map _ _ ⟨by simp [put1], fun g' hg' => ?_⟩⟩
    simp only [put1_same] at hg'
    cases hg'
    rfl

theorem aOp_sim (wr : WRel ρ h w) (hN : NoOwn P) {ev ev' : Operand → Value} (o : Oper) (hx : ∀ x ∈ o.op.operands, VRel ρ (ev x) (ev' x)) :
    Sim ρ h w id (aOp P id ev o.op) ((execOp ev' o).run P w) := by
  obtain ⟨dst, op, type, pos, after, guard⟩ := o
  simp only at hx
  cases op <;> simp only [Op.operands] at hx <;> simp only [aOp, execOp] <;> try exact sim_fail
  case move x => exact sim_val wr rfl (hx x (by simp))
  case assign x => exact sim_val wr rfl (hx x (by simp))
  case pick c a b => exact op_pick wr c a b (hx c (by simp)) (hx a (by simp)) (hx b (by simp))
  case alloc t => have := op_alloc (P := P) (id := id) wr t; rw [← run_v] at this; exact this
  case box t x =>
    have := op_box (id := id) wr t (hx x (by simp)).cells
    simpa [Instr.box, newVar, newRow] using this
  case build t ps =>
    have := op_build (P := P) (id := id) wr t (parts_rel (ev := ev) (ev' := ev') ps fun p hp => hx p.2 (by
      simp only [List.mem_toArray, List.mem_map]; exact ⟨p, Array.mem_toList_iff.2 hp, rfl⟩))
    rw [← run_v] at this; exact this
  case buildSlice t n ps =>
    have := op_buildSlice (P := P) (id := id) wr t n (parts_rel (ev := ev) (ev' := ev') ps fun p hp => hx p.2 (by
      simp only [List.mem_toArray, List.mem_map]; exact ⟨p, Array.mem_toList_iff.2 hp, rfl⟩))
    rw [← run_v] at this; exact this
  case insert t m k x => have := op_mapUpdate (P := P) (id := id) wr t (hx m (by simp)) (hx k (by simp)) (hx x (by simp)); rw [← run_u] at this; exact this
  case load t a => have := op_load (P := P) (id := id) wr t (hx a (by simp)); rw [← run_v] at this; exact this
  case store t a x => have := op_store (P := P) (id := id) wr t (hx a (by simp)) (hx x (by simp)); rw [← run_u] at this; exact this
  case nilCheck x => exact op_nil wr (hx x (by simp)) (fun a ha => by rw [ha]; rfl) (fun f a b ha => by rw [ha]; rfl)
  case binOp op t x y yt => have := op_bin (P := P) (id := id) wr op t x y (hx x (by simp)) (hx y (by simp)); rw [← run_v] at this; exact this
  case unOp op t x => have := op_un (P := P) (id := id) wr op (hx x (by simp)); rw [← run_v] at this; exact this
  case convert s d x => have := op_convert (P := P) (id := id) wr s d (hx x (by simp)); rw [← run_v] at this; exact this
  case makeInterface t x => have := op_iface (P := P) (id := id) wr t (hx x (by simp)); rw [← run_v] at this; exact this
  case makeFunc fn first cap =>
    cases fn <;> simp only [oFunc] <;> try exact sim_fail
    rename_i f
    refine sim_val (v' := .func (.func f) (first.map ev') (cap.map ev')) wr (by simp [Instr.makeFunc]) (.func _ _ _ _ _ (map_rel _ fun x hxm => hx x (by simp [hxm])) (map_rel _ fun x hxm => hx x (by simp [hxm])))
  case makeMap t r => have := op_map (P := P) (id := id) wr t r ev'; rw [← run_v] at this; exact this
  case makeSlice t l c => have := op_makeSlice (P := P) (id := id) wr t (hx l (by simp)) (hx c (by simp)); rw [← run_v] at this; exact this
  case slice t x lo hi mx =>
    have := op_slice (P := P) (id := id) wr t (hx x (by simp)) (omap_rel (ev := ev) (ev' := ev') lo fun y hy => hx y (by simp [hy])) (omap_rel (ev := ev) (ev' := ev') hi fun y hy => hx y (by simp [hy])) (omap_rel (ev := ev) (ev' := ev') mx fun y hy => hx y (by simp [hy]))
    rw [← run_v] at this; exact this
  case fieldAddr s x f => have := op_fieldAddr (P := P) (id := id) (wr := wr) s f (hx x (by simp)); rw [← run_v] at this; exact this
  case field t x f => have := op_field (P := P) (id := id) (wr := wr) t f (hx x (by simp)); rw [← run_v] at this; exact this
  case indexAddr t x i => have := op_indexAddr (P := P) (id := id) (wr := wr) t (hx x (by simp)) (hx i (by simp)); rw [← run_v] at this; exact this
  case index t x i => have := op_index (P := P) (id := id) (wr := wr) t (hx x (by simp)) (hx i (by simp)); rw [← run_v] at this; exact this
  case lookup t x i ok => have := op_lookup (P := P) (id := id) wr t ok (hx x (by simp)) (hx i (by simp)); rw [← run_v] at this; exact this
  case mapUpdate t m k x => have := op_mapUpdate (P := P) (id := id) wr t (hx m (by simp)) (hx k (by simp)) (hx x (by simp)); rw [← run_u] at this; exact this
  case typeAssert x xt t ok => have := op_assert (P := P) (id := id) wr xt t ok (hx x (by simp)); rw [← run_v] at this; exact this
  case extract t i => have := op_extract (P := P) (id := id) wr i (hx t (by simp)); rw [← run_v] at this; exact this
  case call c => exact op_call wr hN c type hx
  case defer c => exact op_defer wr c type hx
  case panic x => have := op_panicV (P := P) (id := id) wr (hx x (by simp)); rw [← run_v] at this; exact this
end
end Go.Ev

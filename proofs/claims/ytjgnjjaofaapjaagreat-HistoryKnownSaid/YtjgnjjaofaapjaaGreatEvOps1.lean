import Derived.Test.YtjgnjjaofaapjaaGreatEvMem
import Derived.Laws.Entries
namespace Go.Ev

def DRel (ρ : Emb) (d d' : Deferred) : Prop :=
  ∃ f cap cap', d.target = .fn (.func f) cap ∧ d'.target = .fn (.func f) cap' ∧ VsRel ρ cap.toList cap'.toList ∧ VsRel ρ d.args.toList d'.args.toList

theorem DRel.mono {ρ ρ' : Emb} (x : Ext ρ ρ') {d d' : Deferred} (h : DRel ρ d d') : DRel ρ' d d' := by
  obtain ⟨f, cap, cap', h1, h2, h3, h4⟩ := h
  exact ⟨f, cap, cap', h1, h2, h3.mono x, h4.mono x⟩

/-- What comes of an operation, in the world. -/
def Out (ρ : Emb) (w : World) (x : ANext) (r : Result Next) : Prop :=
  match x with
  | .value v => ∃ v', r = .ok (.value v') w ∧ VRel ρ v v'
  | .skip => r = .ok .skip w
  | .enter f args => ∃ args', r = .ok (.enter f args') w ∧ VsRel ρ args.toList args'.toList
  | .defer d => ∃ d', r = .ok (.defer d') w ∧ DRel ρ d d'
  | .panic v => ∃ v', r = .halt (.panic v') w ∧ VRel ρ v v'

def Sim (ρ : Emb) (h : AH) (w : World) (id : Nat) (m : AM ANext) (r : Result Next) : Prop :=
  ∀ x h', m.run id h = some (x, h') → ∃ ρ' w', Step ρ w ρ' w' ∧ WRel ρ' h' w' ∧ Out ρ' w' x r

section
variable {P : Program} {ρ : Emb} {h : AH} {w : World} {id : Nat}

theorem sim_fail {r : Result Next} : Sim ρ h w id .fail r := by intro x h' e; simp [AM.run] at e
theorem sim_ret {x : ANext} {r : Result Next} (wr : WRel ρ h w) (o : Out ρ w x r) : Sim ρ h w id (.ret x) r := by
  intro y h' e
  simp only [AM.run, Option.some.injEq, Prod.mk.injEq] at e
  obtain ⟨rfl, rfl⟩ := e
  exact ⟨ρ, w, Step.refl ρ w, wr, o⟩
theorem sim_val {v v' : Value} {r : Result Next} (wr : WRel ρ h w) (hr : r = .ok (.value v') w) (hv : VRel ρ v v') : Sim ρ h w id (retV v) r := sim_ret wr ⟨v', hr, hv⟩
theorem sim_get {i : Nat} {k : AObj → AM ANext} {r : Result Next} (f : ∀ o, h.get i = some o → Sim ρ h w id (k o) r) : Sim ρ h w id (.get i k) r := by
  intro x h' e
  simp only [AM.run] at e
  cases hg : h.get i with
  | none => rw [hg] at e; simp at e
  | some o => rw [hg] at e; exact f o hg x h' e
theorem sim_retO {o : Option Value} {r : Result Next} (wr : WRel ρ h w) (f : ∀ v, o = some v → ∃ v', r = .ok (.value v') w ∧ VRel ρ v v') : Sim ρ h w id (retO o) r := by
  cases o with
  | none => exact sim_fail
  | some v => obtain ⟨v', h1, h2⟩ := f v rfl; exact sim_val wr h1 h2

/-- The result of an operation that gives a value; one that gives none. -/
def valR (r : Result Value) : Result Next := r.andThen fun a w => .ok (.value a) w
def unitR (r : Result Unit) : Result Next := r.andThen fun _ w => .ok .skip w
@[simp] theorem valR_ok (v : Value) (w : World) : valR (.ok v w) = .ok (.value v) w := rfl
@[simp] theorem unitR_ok (w : World) : unitR (.ok () w) = .ok .skip w := rfl

theorem addrOf_rel {x x' : Value} {a : Addr} (e : addrOf x = some a) (r : VRel ρ x x') : ∃ a', x' = .pointer (some a') ∧ AddrRel ρ a a' := by
  cases r <;> simp [addrOf] at e
  rename_i a0 a0' h0
  cases hb : okAt a0 with
  | false => rw [hb] at e; simp at e
  | true =>
    rw [hb] at e
    simp at e
    subst e
    exact ⟨_, rfl, h0⟩

theorem shapeOf_some {t : TypeId} {agg : Bool} {n : Nat} (e : shapeOf P t = some (agg, n)) :
    ∃ d inf, P.underlying t = some d ∧ P.info? t = some inf ∧ agg = isAggD d ∧ n = inf.size := by
  unfold shapeOf at e
  split at e
  · rename_i d inf h1 h2
    simp at e
    exact ⟨d, inf, h1, h2, e.1.symm, e.2.symm⟩
  · cases e

theorem run_isAggD {t : TypeId} {d : TypeDesc} (h : P.underlying t = some d) (w : World) : (isAgg t).run P w = .ok (isAggD d) w := by
  unfold isAgg
  simp only [Sem.run_bind, run_underlying h, Result.andThen_ok]
  cases d <;> rfl
theorem run_sizeOfI {t : TypeId} {inf : TypeInfo} (h : P.info? t = some inf) (w : World) : (sizeOf t).run P w = .ok inf.size w := by
  unfold sizeOf typeInfo
  simp [h]
theorem run_typeInfoI {t : TypeId} {inf : TypeInfo} (h : P.info? t = some inf) (w : World) : (typeInfo t).run P w = .ok inf w := by
  unfold typeInfo
  simp [h]
theorem run_zeroValueI {t : TypeId} {inf : TypeInfo} {z : Value} (h : P.info? t = some inf) (hz : inf.zero = some z) (w : World) : (zeroValue t).run P w = .ok z w := by
  unfold zeroValue
  simp [run_typeInfoI h, hz]

theorem aZeroV_some {t : TypeId} {z : Value} (e : aZeroV P t = some z) : (∀ w, (zeroValue t).run P w = .ok z w) ∧ plainV z = true ∧ ∃ inf, P.info? t = some inf ∧ inf.zero = some z := by
  unfold aZeroV at e
  cases hi : P.info? t with
  | none => rw [hi] at e; cases e
  | some inf =>
    rw [hi] at e
    cases hz : inf.zero with
    | none => simp [hz] at e
    | some z0 =>
      simp only [hz] at e
      cases hp : plainV z0 with
      | false => rw [hp] at e; simp at e
      | true =>
        rw [hp] at e
        simp at e
        subst e
        exact ⟨fun w => run_zeroValueI hi hz w, hp, inf, rfl, hz⟩
theorem aZero_some {t : TypeId} {cs : Array Value} (e : aZero P t = some cs) : ∃ z, aZeroV P t = some z ∧ cs = z.cells := by
  unfold aZero at e
  unfold aZeroV
  cases hi : P.info? t with
  | none => rw [hi] at e; cases e
  | some inf =>
    rw [hi] at e
    cases hz : inf.zero with
    | none => simp [hz] at e
    | some z0 =>
      simp only [hz] at e ⊢
      cases hp : plainV z0 with
      | false => rw [hp] at e; simp at e
      | true =>
        rw [hp] at e
        simp at e
        exact ⟨z0, by simp, e.symm⟩
theorem plainV_cells {z : Value} (h : plainV z = true) : z.cells.toList.all plain1 = true := by
  cases z <;> simp_all [plainV, Value.cells]

/-! load -/
theorem loadV_rel {wr : WRel ρ h w} {agg : Bool} {l l' : List Value} {r : Result Next} (hv : VsRel ρ l l')
    (ha : agg = true → r = .ok (.value (.agg l'.toArray)) w) (hb : agg = false → ∀ v', l' = [v'] → r = .ok (.value v') w) : Sim ρ h w id (loadV agg l) r := by
  unfold loadV
  cases agg with
  | true => exact sim_ret wr ⟨_, ha rfl, .agg _ _ (by simpa using hv)⟩
  | false =>
    simp only [cond_false]
    cases hv with
    | nil => exact sim_fail
    | cons v v' l l' h1 h2 =>
      cases h2 with
      | nil => exact sim_ret wr ⟨_, hb rfl v' rfl, h1⟩
      | cons _ _ _ _ _ _ => exact sim_fail

theorem op_load (wr : WRel ρ h w) (t : TypeId) {x x' : Value} (hx : VRel ρ x x') : Sim ρ h w id (oLoad P t x) (valR ((Instr.loadAt t x').run P w)) := by
  unfold oLoad
  cases ha : addrOf x with
  | none => exact sim_fail
  | some a =>
    obtain ⟨a', rfl, hr⟩ := addrOf_rel ha hx
    cases hs : shapeOf P t with
    | none => exact sim_fail
    | some p =>
      obtain ⟨agg, n⟩ := p
      obtain ⟨d, inf, hu, hi, rfl, rfl⟩ := shapeOf_some hs
      simp only
      unfold aCells
      refine sim_get fun o hg => ?_
      cases o with
      | cells c rw =>
        simp only
        cases ht : takeCells c a.off inf.size with
        | none => exact sim_fail
        | some l =>
          simp only
          obtain ⟨l', hv, hl, hc⟩ := loadCells_rel (P := P) wr hr hg ht
          refine loadV_rel (wr := wr) hv (fun hagg => ?_) (fun hagg v' hl' => ?_)
          · simp [Instr.loadAt, Instr.sureAddr, loadVar, run_isAggD hu, hagg, run_sizeOfI hi, hl]
          · have h0 := hc 0 v' (by rw [hl']; rfl)
            have h1 : a'.add 0 = a' := by unfold Addr.add; simp
            rw [h1] at h0
            simp [Instr.loadAt, Instr.sureAddr, loadVar, run_isAggD hu, hagg, h0]
      | amap es => exact sim_fail
      | dead => exact sim_fail

/-! store -/
theorem sim_set {i : Nat} {o : AObj} {k : AM ANext} {r : Result Next} (f : ∀ x, h.get i = some x → Sim ρ h w id (.set i o k) r) : Sim ρ h w id (.set i o k) r := by
  intro x h' e
  cases hg : h.get i with
  | none => simp only [AM.run, hg] at e; cases e
  | some o' => exact f o' hg x h' e

theorem op_store (wr : WRel ρ h w) (t : TypeId) {x x' v v' : Value} (hx : VRel ρ x x') (hv : VRel ρ v v') : Sim ρ h w id (oStore P t x v) (unitR ((Instr.storeAt t x' v').run P w)) := by
  unfold oStore
  cases ha : addrOf x with
  | none => exact sim_fail
  | some a =>
    obtain ⟨a', rfl, hr⟩ := addrOf_rel ha hx
    simp only
    cases hi : P.info? t with
    | none => exact sim_fail
    | some inf =>
      simp only
      cases hb : (Nat.beq v.cells.size inf.size && v.cells.toList.all notAgg) with
      | false => exact sim_fail
      | true =>
        simp only [cond_true]
        rw [Bool.and_eq_true, Nat.beq_eq] at hb
        obtain ⟨hsz, hna⟩ := hb
        unfold aStoreCells
        refine sim_get fun o hg => ?_
        cases o with
        | cells c rw =>
          simp only
          cases hc : (rw && Nat.ble (Nat.add a.off v.cells.toList.length) c.length) with
          | false => exact sim_fail
          | true =>
            simp only [cond_true]
            rw [Bool.and_eq_true] at hc
            obtain ⟨rfl, hle⟩ := hc
            intro y h' e
            simp only [AM.run, hg, Option.some.injEq, Prod.mk.injEq] at e
            obtain ⟨rfl, rfl⟩ := e
            obtain ⟨w', hrun, hw, hst⟩ := store_rel (P := P) wr hr hg hv.cells hna (ble_true hle)
            refine ⟨ρ, w', hst, hw, ?_⟩
            have hsz' : v'.cells.size = inf.size := by
              have := hv.cells.length
              simp only [Array.length_toList] at this
              omega
            simp [Out, Instr.storeAt, Instr.sureAddr, storeVar, run_sizeOfI hi, hsz', hrun]
        | amap es => exact sim_fail
        | dead => exact sim_fail

/-! new variables -/
theorem sim_new {o : AObj} {k : ANext} {r : Result Next} (f : h.get id = none → id < h.next → ∃ ρ' w', Step ρ w ρ' w' ∧ WRel ρ' (h.put id o) w' ∧ Out ρ' w' k r) :
    Sim ρ h w id (.new o (.ret k)) r := by
  intro x h' e
  simp only [AM.run] at e
  cases hg : h.get id with
  | some _ => rw [hg] at e; simp at e
  | none =>
    rw [hg] at e
    cases hb : Nat.blt id h.next with
    | false => rw [hb] at e; simp at e
    | true =>
      rw [hb] at e
      simp only [cond_true, Option.some.injEq, Prod.mk.injEq] at e
      obtain ⟨rfl, rfl⟩ := e
      exact f hg (lt_of_blt hb)

theorem op_box (wr : WRel ρ h w) (t : TypeId) {cs cs' : Array Value} (hv : VsRel ρ cs.toList cs'.toList) :
    Sim ρ h w id (oBox id cs) (.ok (.value (.pointer (some ⟨w.heap.size, 0, none⟩))) { w with heap := w.heap.push (.cells cs' t) }) := by
  unfold oBox retV
  refine sim_new fun hg hlt => ?_
  obtain ⟨ρ', hρ, h1, h2⟩ := wr.newCells (w' := { w with heap := w.heap.push (.cells cs' t) }) hg hlt t [] (by simp) hv (.inl rfl) (Grow1.push rfl rfl rfl rfl)
  refine ⟨ρ', _, h2, h1, _, rfl, ?_⟩
  subst hρ
  exact .ptr _ _ (addr_new rfl)

theorem op_alloc (wr : WRel ρ h w) (t : TypeId) : Sim ρ h w id (oAlloc P id t) (valR ((Instr.alloc t true (.tuple #[])).run P w)) := by
  unfold oAlloc
  cases hz : aZero P t with
  | none => exact sim_fail
  | some z =>
    obtain ⟨z0, h0, rfl⟩ := aZero_some hz
    obtain ⟨hrun, hp, _⟩ := aZeroV_some h0
    have := op_box (id := id) wr t (cs := z0.cells) (cs' := z0.cells) (plains_rel (plainV_cells hp))
    simpa [Instr.alloc, hrun, newVar, newRow] using this
end
end Go.Ev

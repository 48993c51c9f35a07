import Derived.Test.YtjgnjjaofaapjaaGreatEvOps9
namespace Go.Ev
section
variable {P : Program} {ρ : Emb} {h : AH} {w : World} {id : Nat}

/-! Maps. -/
theorem keyOK_plain {d : TypeDesc} {k : Value} (hk : keyOK d k = true) : plain1 k = true := by
  cases d <;> cases k <;> simp_all [keyOK, plain1]
theorem checkKey_run {e : Bool} {kt : TypeId} {d : TypeDesc} {k : Value} (hu : P.underlying kt = some d) (hk : keyOK d k = true) : (Instr.checkKey e 10000 kt k).run P w = .ok () w := by
  have : ∃ n, Instr.checkKey e 10000 = Instr.checkKey e (n + 1) := ⟨9999, rfl⟩
  obtain ⟨n, hn⟩ := this
  rw [hn]
  cases d <;> cases k <;> simp [keyOK] at hk <;> simp [Instr.checkKey, run_underlying hu]

theorem sameNow_rel {d : TypeDesc} {k e e' : Value} {b : Bool} (hs : Instr.sameNow d k e = some b) (hk : keyOK d k = true) (hr : VRel ρ e e') : Instr.sameNow d k e' = some b := by
  cases d <;> cases k <;> simp [keyOK] at hk <;> cases hr <;> simp_all [Instr.sameNow]

theorem findNow_rel {d : TypeDesc} {k : Value} (hk : keyOK d k = true) : ∀ (l l' : List MapEntry) (i : Nat) (r : Option (Nat × Value)), EsRel ρ l l' → Instr.findNow d k l i = some r →
    match r with
    | none => Instr.findNow d k l' i = some none
    | some (j, v) => ∃ v', Instr.findNow d k l' i = some (some (j, v')) ∧ VRel ρ v v' := by
  intro l
  induction l with
  | nil =>
    intro l' i r hr e
    cases hr
    simp only [Instr.findNow, Option.some.injEq] at e
    subst e
    rfl
  | cons x l ih =>
    intro l' i r hr e
    cases hr with
    | cons x x' l l' hkk hv t =>
      simp only [Instr.findNow] at e
      cases hs : Instr.sameNow d k x.key with
      | none => simp [hs] at e
      | some b =>
        have hs' := sameNow_rel hs hk hkk
        cases b with
        | true =>
          simp only [hs, Option.some.injEq] at e
          subst e
          exact ⟨x'.val, by simp only [Instr.findNow, hs'], hv⟩
        | false =>
          simp only [hs] at e
          have := ih l' (i + 1) r t e
          cases r with
          | none => simpa only [Instr.findNow, hs'] using this
          | some p => simpa only [Instr.findNow, hs'] using this

theorem aFind_rel {kt : TypeId} {k : Value} {es : List MapEntry} {es' : List MapEntry} {r : Option (Nat × Value)} (e : aFind P kt k es = some r) (hr : EsRel ρ es es') :
    ∃ d, P.underlying kt = some d ∧ keyOK d k = true ∧ match r with
      | none => (Instr.findKey kt k es').run P w = .ok none w
      | some (j, v) => ∃ v', (Instr.findKey kt k es').run P w = .ok (some (j, v')) w ∧ VRel ρ v v' := by
  unfold aFind at e
  cases hu : P.underlying kt with
  | none => simp [hu] at e
  | some d =>
    simp only [hu] at e
    cases hk : keyOK d k with
    | false => simp [hk] at e
    | true =>
      simp only [hk, cond_true] at e
      have := findNow_rel hk _ _ _ _ hr e
      refine ⟨d, rfl, hk, ?_⟩
      cases r with
      | none =>
        simp only at this
        simp only [Instr.findKey, Sem.run_bind, run_underlying hu, Result.andThen_ok, this, Sem.run_pure]
      | some p =>
        obtain ⟨v', h1, h2⟩ := this
        exact ⟨v', by simp only [Instr.findKey, Sem.run_bind, run_underlying hu, Result.andThen_ok, h1, Sem.run_pure], h2⟩

theorem lookFin_rel (wr : WRel ρ h w) {kt el : TypeId} {k : Value} {ok : Bool} {es : List MapEntry} {es' : Array MapEntry} (hr : EsRel ρ es es'.toList) {r : Result Next}
    (hrun : ∀ v' : Value, (∃ d, P.underlying kt = some d ∧ keyOK d k = true) → (do
        Instr.checkKey es'.isEmpty 10000 kt k
        let (v, ok') ← match ← Instr.findKey kt k es'.toList with
          | some (_, v) => pure (v, true)
          | none => pure (← zeroValue el, false)
        pure (if ok then .tuple #[v, .bool ok'] else v) : Sem Value).run P w = .ok v' w → r = .ok (.value v') w) :
    Sim ρ h w id (lookFin P kt el k ok es) r := by
  unfold lookFin
  cases hf : aFind P kt k es with
  | none => exact sim_fail
  | some q =>
    obtain ⟨d, hu, hk, hfk⟩ := aFind_rel (w := w) hf hr
    have hc := fun e => checkKey_run (P := P) (w := w) (e := e) hu hk
    cases q with
    | some p =>
      obtain ⟨j, v⟩ := p
      obtain ⟨v', h1, h2⟩ := hfk
      cases ok with
      | true => exact sim_val wr (hrun (.tuple #[v', .bool true]) ⟨d, hu, hk⟩ (by simp [hc, h1])) (.tuple _ _ (.cons _ _ _ _ h2 (.cons _ _ _ _ (.bool _) .nil)))
      | false => exact sim_val wr (hrun v' ⟨d, hu, hk⟩ (by simp [hc, h1])) h2
    | none =>
      simp only at hfk ⊢
      cases hz : aZeroV P el with
      | none => exact sim_fail
      | some z =>
        obtain ⟨hz1, hz2, _⟩ := aZeroV_some hz
        cases ok with
        | true => exact sim_val wr (hrun (.tuple #[z, .bool false]) ⟨d, hu, hk⟩ (by simp [hc, hfk, hz1])) (.tuple _ _ (.cons _ _ _ _ (plainV_rel hz2) (.cons _ _ _ _ (.bool _) .nil)))
        | false => exact sim_val wr (hrun z ⟨d, hu, hk⟩ (by simp [hc, hfk, hz1])) (plainV_rel hz2)

theorem op_lookup (wr : WRel ρ h w) (t : TypeId) (ok : Bool) {x x' k k' : Value} (hx : VRel ρ x x') (hk : VRel ρ k k') : Sim ρ h w id (oLookup P t x k ok) (valR ((Instr.lookup t x' k' ok).run P w)) := by
  unfold oLookup
  cases hu : P.underlying t with
  | none => exact sim_fail
  | some d =>
    cases d <;> simp only <;> try exact sim_fail
    rename_i kt el
    cases hx <;> simp only <;> try exact sim_fail
    case mapNil =>
      refine lookFin_rel (P := P) wr (es' := #[]) .nil fun v' ⟨d, hd, hko⟩ hrun => ?_
      have hkk := plain1_eq (keyOK_plain hko) hk
      subst hkk
      simp only [Instr.lookup, Sem.run_bind, run_underlying hu, Result.andThen_ok, Sem.run_pure] at hrun ⊢
      exact congrArg valR hrun
    case map r r' hr =>
      refine sim_get fun o hg => ?_
      cases o with
      | amap es =>
        obtain ⟨g, es', clk, _, _, _, h2, h3⟩ := map_obj wr hr hg
        refine lookFin_rel (P := P) wr h3 fun v' ⟨d, hd, hko⟩ hrun => ?_
        have hkk := plain1_eq (keyOK_plain hko) hk
        subst hkk
        simp only [Instr.lookup, Sem.run_bind, run_underlying hu, Result.andThen_ok, Sem.run_pure, run_getMap h2] at hrun ⊢
        exact congrArg valR hrun
      | cells c rw => exact sim_fail
      | dead => exact sim_fail

/-- A map's object, written. -/
theorem map_set {r r' : Nat} {es es2 : List MapEntry} {es2' : Array MapEntry} {clk2 : Nat} (wr : WRel ρ h w) (hr : MapAt ρ r r') (hg : h.get r = some (.amap es)) (hrel : EsRel ρ es2 es2'.toList) :
    ∃ w', (setObj r' (.map es2' clk2)).run P w = .ok () w' ∧ WRel ρ (h.set r (.amap es2)) w' ∧ Step ρ w ρ w' := by
  obtain ⟨g, es', clk, hi, hrw, rfl, h2, h3⟩ := map_obj wr hr hg
  have hlt := AH.get_lt hg
  have hb := wr.block hi
  let w' : World := { w with heap := w.heap.setIfInBounds g.b (.map es2' clk2) }
  have hrun : (setObj g.b (.map es2' clk2)).run P w = .ok () w' := by simp only [setObj, Sem.run, h2]; rfl
  have hother : ∀ b, b ≠ g.b → w'.heap[b]? = w.heap[b]? := fun b hne => by simp only [w']; rw [Array.getElem?_setIfInBounds_ne (Ne.symm hne)]
  refine ⟨w', hrun, ⟨AH.ok_set wr.ok hlt _, fun i => ?_, wr.inj⟩, ⟨Ext.refl ρ, rfl, rfl, rfl, by simp [w'], fun b _ hno => hother b (fun e' => hno r g hi hrw e'.symm), fun i g' hi' hr' => .inr ⟨i, g', hi', hr', rfl⟩⟩⟩
  by_cases ei : i = r
  · subst ei
    rw [AH.get_set_same h _ _ hlt]
    exact ⟨g, hi, hrw, es2', clk2, by simp [w', hb], hrel⟩
  · rw [AH.get_set_ne h wr.ok _ i _ hlt (Ne.symm ei)]
    have := wr.obj i
    cases hgi : h.get i with
    | none => rw [hgi] at this; exact this
    | some x =>
      rw [hgi] at this
      have key : ∀ g', ρ i = .img g' → w'.heap[g'.b]? = w.heap[g'.b]? := fun g' h1 => hother _ (fun e' => wr.inj r i g g' (Ne.symm ei) hi h1 hrw e'.symm)
      cases x with
      | dead => exact this
      | cells c3 rw3 => obtain ⟨g', h1, h2⟩ := this; exact ⟨g', h1, h2.world (key g' h1)⟩
      | amap es => obtain ⟨g', h1, h2⟩ := this; exact ⟨g', h1, h2.world (key g' h1)⟩

theorem EsRel.append : ∀ {a a' b b' : List MapEntry}, EsRel ρ a a' → EsRel ρ b b' → EsRel ρ (a ++ b) (a' ++ b')
  | _, _, _, _, .nil, k => k
  | _, _, _, _, .cons e e' _ _ h1 h2 t, k => .cons e e' _ _ h1 h2 (t.append k)
theorem EsRel.modify (f f' : MapEntry → MapEntry) (hf : ∀ e e', VRel ρ e.key e'.key → VRel ρ e.val e'.val → VRel ρ (f e).key (f' e').key ∧ VRel ρ (f e).val (f' e').val) :
    ∀ (i : Nat) {a a' : List MapEntry}, EsRel ρ a a' → EsRel ρ (a.modify i f) (a'.modify i f')
  | _, _, _, .nil => by simpa using EsRel.nil
  | 0, _, _, .cons e e' _ _ h1 h2 t => by simpa using EsRel.cons _ _ _ _ (hf _ _ h1 h2).1 (hf _ _ h1 h2).2 t
  | i + 1, _, _, .cons e e' _ _ h1 h2 t => by simpa using EsRel.cons e e' _ _ h1 h2 (EsRel.modify f f' hf i t)
theorem EsRel.erase : ∀ (i : Nat) {a a' : List MapEntry}, EsRel ρ a a' → EsRel ρ (a.eraseIdx i) (a'.eraseIdx i)
  | _, _, _, .nil => by simpa using EsRel.nil
  | 0, _, _, .cons e e' _ _ h1 h2 t => by simpa using t
  | i + 1, _, _, .cons e e' _ _ h1 h2 t => by simpa using EsRel.cons e e' _ _ h1 h2 (EsRel.erase i t)

theorem sameBits_refl {k : Value} {d : TypeDesc} (hk : keyOK d k = true) (old : Value) (ho : Instr.sameNow d k old = some true) : Instr.sameBits 10000 old k = true := by
  cases d <;> cases k <;> simp [keyOK] at hk <;> cases old <;> simp_all [Instr.sameNow, Instr.sameBits]

theorem findNow_at {d : TypeDesc} {k : Value} : ∀ (l : List MapEntry) (i j : Nat) (v : Value), Instr.findNow d k l i = some (some (j, v)) → i ≤ j ∧ ∃ e, l[j - i]? = some e ∧ Instr.sameNow d k e.key = some true := by
  intro l
  induction l with
  | nil => intro i j v e; simp [Instr.findNow] at e
  | cons x l ih =>
    intro i j v e
    simp only [Instr.findNow] at e
    cases hs : Instr.sameNow d k x.key with
    | none => simp [hs] at e
    | some b =>
      cases b with
      | true =>
        simp only [hs, Option.some.injEq, Prod.mk.injEq] at e
        obtain ⟨rfl, _⟩ := e
        exact ⟨Nat.le_refl _, x, by simp, hs⟩
      | false =>
        simp only [hs] at e
        obtain ⟨h1, e', h2, h3⟩ := ih _ _ _ e
        refine ⟨by omega, e', ?_, h3⟩
        rw [show j - i = (j - (i + 1)) + 1 by omega]
        simpa using h2

theorem op_mapUpdate (wr : WRel ρ h w) (t : TypeId) {x x' k k' v v' : Value} (hx : VRel ρ x x') (hk : VRel ρ k k') (hv : VRel ρ v v') : Sim ρ h w id (oMapUpdate P t x k v) (unitR ((Instr.mapUpdate t x' k' v').run P w)) := by
  unfold oMapUpdate
  cases hu : P.underlying t with
  | none => exact sim_fail
  | some d =>
    cases d <;> simp only <;> try exact sim_fail
    rename_i kt el
    cases hx <;> simp only <;> try exact sim_fail
    rename_i r r' hr
    refine sim_get fun o hg => ?_
    cases o with
    | cells c rw => exact sim_fail
    | dead => exact sim_fail
    | amap es =>
      obtain ⟨g, es', clk, _, _, _, h2, h3⟩ := map_obj wr hr hg
      simp only
      unfold mapPut
      cases hf : aFind P kt k es with
      | none => exact sim_fail
      | some q =>
        obtain ⟨kd, hkd, hko, hfk⟩ := aFind_rel (w := w) hf h3
        have hkk := plain1_eq (keyOK_plain hko) hk
        subst hkk
        have hc := checkKey_run (P := P) (w := w) (e := false) hkd hko
        cases q with
        | some p =>
          obtain ⟨j, u⟩ := p
          obtain ⟨u', h4, h5⟩ := hfk
          have hstay : (Instr.keyThatStays (((es'[j]?).map (·.key)).getD k') k').run P w = .ok k' w := by
            have hfn : Instr.findNow kd k' es'.toList 0 = some (some (j, u')) := by
              have : Instr.findKey kt k' es'.toList = Instr.findKey kt k' es'.toList := rfl
              unfold aFind at hf
              simp only [hkd, hko, cond_true] at hf
              have := findNow_rel hko _ _ _ _ h3 hf
              obtain ⟨v2, h6, _⟩ := this
              have h7 : (Instr.findKey kt k' es'.toList).run P w = .ok (some (j, v2)) w := by
                simp only [Instr.findKey, Sem.run_bind, run_underlying hkd, Result.andThen_ok, h6, Sem.run_pure]
              rw [h7] at h4
              simp only [Result.ok.injEq, Option.some.injEq, Prod.mk.injEq] at h4
              rw [h6, h4.1.2]
            obtain ⟨_, e', h8, h9⟩ := findNow_at _ _ _ _ hfn
            have hget : es'[j]? = some e' := by rw [← Array.getElem?_toList]; simpa using h8
            simp only [hget, Option.map_some, Option.getD_some, Instr.keyThatStays, sameBits_refl hko _ h9, if_true, Sem.run_pure]
          refine sim_set fun _ _ => ?_
          intro y h' e
          simp only [AM.run, hg, Option.some.injEq, Prod.mk.injEq] at e
          obtain ⟨rfl, rfl⟩ := e
          obtain ⟨w', h6, h7, h8⟩ := map_set (P := P) (clk2 := clk) (es2 := es.modify j fun e => { e with key := k', val := v }) (es2' := es'.modify j fun e => { e with key := k', val := v' }) wr hr hg (by
            rw [Array.toList_modify]
            exact EsRel.modify _ _ (fun _ _ _ _ => ⟨hk, hv⟩) j h3)
          refine ⟨ρ, w', h8, h7, ?_⟩
          simp only [Out, Instr.mapUpdate, Sem.run_bind, run_underlying hu, Result.andThen_ok, run_getMap h2, hc, h4, hstay, h6]
          rfl
        | none =>
          simp only at hfk
          intro y h' e
          simp only [AM.run, hg, Option.some.injEq, Prod.mk.injEq] at e
          obtain ⟨rfl, rfl⟩ := e
          obtain ⟨w', h6, h7, h8⟩ := map_set (P := P) (clk2 := clk + 1) (es2 := es ++ [{ key := k', val := v, born := 0 }]) (es2' := es'.push { key := k', val := v', born := clk }) wr hr hg (by
            rw [Array.toList_push]
            exact h3.append (.cons _ _ _ _ hk hv .nil))
          refine ⟨ρ, w', h8, h7, ?_⟩
          simp only [Out, Instr.mapUpdate, Sem.run_bind, run_underlying hu, Result.andThen_ok, run_getMap h2, hc, hfk, h6]
          rfl

theorem op_delete (wr : WRel ρ h w) (ts : Array TypeId) (t : TypeId) {l l' : Array Value} (hl : VsRel ρ l.toList l'.toList) : Sim ρ h w id (oDelete P ts l) (valR ((Builtin.delete_ ts t l').run P w)) := by
  unfold oDelete
  cases ht : ts[0]? with
  | none => exact sim_fail
  | some t0 =>
    cases hx0 : l[0]? with
    | none => exact sim_fail
    | some x =>
      cases hk0 : l[1]? with
      | none => exact sim_fail
      | some k =>
        obtain ⟨x', hx', hx⟩ := hl.getA 0 x hx0
        obtain ⟨k', hk', hk⟩ := hl.getA 1 k hk0
        simp only
        cases hu : P.underlying t0 with
        | none => exact sim_fail
        | some d =>
          cases d <;> simp only <;> try exact sim_fail
          rename_i kt el
          cases hx <;> simp only <;> try exact sim_fail
          rename_i r r' hr
          refine sim_get fun o hg => ?_
          cases o with
          | cells c rw => exact sim_fail
          | dead => exact sim_fail
          | amap es =>
            obtain ⟨g, es', clk, _, _, _, h2, h3⟩ := map_obj wr hr hg
            simp only
            cases hf : aFind P kt k es with
            | none => exact sim_fail
            | some q =>
              obtain ⟨kd, hkd, hko, hfk⟩ := aFind_rel (w := w) hf h3
              have hkk := plain1_eq (keyOK_plain hko) hk
              subst hkk
              have hc := checkKey_run (P := P) (w := w) (e := es'.isEmpty) hkd hko
              cases q with
              | some p =>
                obtain ⟨j, u⟩ := p
                obtain ⟨u', h4, h5⟩ := hfk
                intro y h' e
                simp only [AM.run, retV, hg, Option.some.injEq, Prod.mk.injEq] at e
                obtain ⟨rfl, rfl⟩ := e
                obtain ⟨w', h6, h7, h8⟩ := map_set (P := P) (clk2 := clk) (es2 := es.eraseIdx j) (es2' := es'.eraseIdxIfInBounds j) wr hr hg (by
                  rw [Array.toList_eraseIdxIfInBounds]
                  exact h3.erase j)
                refine ⟨ρ, w', h8, h7, .tuple #[], ?_, .tuple _ _ .nil⟩
                simp only [Builtin.delete_, ht, hx', hk', Sem.run_bind, run_underlying hu, Result.andThen_ok, run_getMap h2, hc, h4, h6, Sem.run_pure]
                rfl
              | none =>
                simp only at hfk
                intro y h' e
                simp only [AM.run, retV, hg, Option.some.injEq, Prod.mk.injEq] at e
                obtain ⟨rfl, rfl⟩ := e
                obtain ⟨w', h6, h7, h8⟩ := map_set (P := P) (clk2 := clk) (es2 := es) (es2' := es') wr hr hg h3
                refine ⟨ρ, w', h8, h7, .tuple #[], ?_, .tuple _ _ .nil⟩
                simp only [Builtin.delete_, ht, hx', hk', Sem.run_bind, run_underlying hu, Result.andThen_ok, run_getMap h2, hc, hfk, h6, Sem.run_pure]
                rfl
end
end Go.Ev

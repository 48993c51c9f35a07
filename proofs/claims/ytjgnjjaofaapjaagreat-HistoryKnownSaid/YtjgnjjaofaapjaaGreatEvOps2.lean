import Derived.Test.YtjgnjjaofaapjaaGreatEvOps1
namespace Go.Ev
section
variable {P : Program} {ρ : Emb} {h : AH} {w : World} {id : Nat}

/-! Small words. -/
theorem intOfV_rel {v v' : Value} {i : Int} (e : intOfV v = some i) (r : VRel ρ v v') : ∃ k, v' = .int k i := by
  cases r <;> simp [intOfV] at e
  rename_i k n
  exact ⟨k, by rw [e]⟩
theorem aIdx_some {i : Int} {n k : Nat} (e : aIdx i n = some k) : i = (k : Int) ∧ k < n := by
  cases i with
  | ofNat m =>
    simp only [aIdx] at e
    cases hb : Nat.blt m n with
    | false => rw [hb] at e; simp at e
    | true => rw [hb] at e; simp at e; subst e; exact ⟨rfl, lt_of_blt hb⟩
  | negSucc m => simp [aIdx] at e
theorem aIdxLe_some {i : Int} {n k : Nat} (e : aIdxLe i n = some k) : i = (k : Int) ∧ k ≤ n := by
  cases i with
  | ofNat m =>
    simp only [aIdxLe] at e
    cases hb : Nat.ble m n with
    | false => rw [hb] at e; simp at e
    | true => rw [hb] at e; simp at e; subst e; exact ⟨rfl, ble_true hb⟩
  | negSucc m => simp [aIdxLe] at e
theorem run_asIntOf (k : IntKind) (n : Int) (w : World) : (asIntOf (.int k n)).run P w = .ok (k, n) w := rfl

/-! A part of a struct or an array. -/
theorem aPart_rel {t : TypeId} {cs cs' : Array Value} {off : Nat} {v : Value} (e : aPart P t cs off = some v) (hr : VsRel ρ cs.toList cs'.toList) :
    ∃ v', (part t cs' off).run P w = .ok v' w ∧ VRel ρ v v' := by
  unfold aPart at e
  cases hs : shapeOf P t with
  | none => simp [hs] at e
  | some p =>
    obtain ⟨agg, n⟩ := p
    obtain ⟨d, inf, hu, hi, rfl, rfl⟩ := shapeOf_some hs
    simp only [hs] at e
    cases ha : isAggD d with
    | true =>
      simp only [ha, cond_true, Option.some.injEq] at e
      subst e
      refine ⟨.agg (cs'.extract off (off + inf.size)), by simp [part, run_isAggD hu, ha, run_sizeOfI hi], .agg _ _ ?_⟩
      simp only [Array.toList_extract, List.extract_eq_take_drop]
      exact (hr.drop _).take _
    | false =>
      simp only [ha, cond_false] at e
      rw [← Array.getElem?_toList] at e
      obtain ⟨v', h1, h2⟩ := hr.get off v e
      rw [Array.getElem?_toList] at h1
      exact ⟨v', by simp [part, run_isAggD hu, ha, h1], h2⟩

theorem op_field {wr : WRel ρ h w} (t : TypeId) (f : Nat) {x x' : Value} (hx : VRel ρ x x') : Sim ρ h w id (retO (aField P t x f)) (valR ((Instr.field t x' f).run P w)) := by
  refine sim_retO wr fun v e => ?_
  cases hx <;> simp only [aField] at e <;> try cases e
  rename_i a a' hr
  cases hu : P.underlying t with
  | none => simp [hu] at e
  | some d =>
    cases d <;> simp only [hu] at e <;> try cases e
    rename_i fs
    cases hf : fs[f]? with
    | none => simp [hf] at e
    | some fd =>
      simp only [hf] at e
      obtain ⟨v', h1, h2⟩ := aPart_rel (w := w) e hr
      exact ⟨v', by simp [Instr.field, run_underlying hu, hf, asAgg, h1], h2⟩

/-! Addresses. -/
theorem op_fieldAddr {wr : WRel ρ h w} (s : TypeId) (f : Nat) {x x' : Value} (hx : VRel ρ x x') : Sim ρ h w id (retO (aFieldAddr P s x f)) (valR ((Instr.fieldAt s x' f).run P w)) := by
  refine sim_retO wr fun v e => ?_
  unfold aFieldAddr at e
  cases ha : addrOf x with
  | none => simp [ha] at e
  | some a =>
    obtain ⟨a', rfl, hr⟩ := addrOf_rel ha hx
    simp only [ha] at e
    cases hu : P.underlying s with
    | none => simp [hu] at e
    | some d =>
      cases d <;> simp only [hu] at e <;> try cases e
      rename_i fs
      cases hf : fs[f]? with
      | none => simp [hf] at e
      | some fd =>
        simp only [hf] at e
        cases hi : P.info? fd.type with
        | none => simp [hi] at e
        | some inf =>
          simp only [hi] at e
          cases hz : Nat.beq inf.size 0 with
          | true => simp [hz] at e
          | false =>
            simp only [hz, cond_false, Option.some.injEq] at e
            subst e
            have hz' : ¬ inf.size = 0 := fun e' => by rw [e'] at hz; simp at hz
            refine ⟨.pointer (some (a'.add fd.offset)), by simp [Instr.fieldAt, run_underlying hu, hf, Instr.sureAddr, fieldPlace, run_sizeOfI hi, hz'], .ptr _ _ ?_⟩
            exact hr.add fd.offset

theorem elemAddr_some {a : Addr} {s : Nat} {k : Option Nat} {v : Value} (e : elemAddr a s k = some v) : ∃ k', k = some k' ∧ a.spot = none ∧ v = .pointer (some ⟨a.block, a.off + k' * s, none⟩) := by
  cases k with
  | none => simp [elemAddr] at e
  | some k =>
    simp only [elemAddr] at e
    cases hb : okAt a with
    | false => simp [hb] at e
    | true =>
      simp only [hb, cond_true, Option.some.injEq] at e
      exact ⟨k, rfl, by simpa [okAt] using hb, e.symm⟩

theorem op_indexAddr {wr : WRel ρ h w} (t : TypeId) {x x' i i' : Value} (hx : VRel ρ x x') (hi : VRel ρ i i') : Sim ρ h w id (retO (aIndexAddr P t x i)) (valR ((Instr.indexAt t x' i').run P w)) := by
  refine sim_retO wr fun v e => ?_
  unfold aIndexAddr at e
  cases hn : intOfV i with
  | none => simp [hn] at e
  | some n =>
    obtain ⟨k, rfl⟩ := intOfV_rel hn hi
    simp only [hn] at e
    cases hu : P.underlying t with
    | none => simp [hu] at e
    | some d =>
      cases d <;> simp only [hu] at e <;> try cases e
      case slice el =>
        cases hi' : P.info? el with
        | none => simp [hi'] at e
        | some inf =>
          simp only [hi'] at e
          cases hx <;> simp only at e <;> try cases e
          rename_i a a' len c cap' hr
          obtain ⟨q, hq, hsp, rfl⟩ := elemAddr_some e
          obtain ⟨rfl, hlt⟩ := aIdx_some hq
          obtain ⟨h1, h2, h3, h4⟩ := hr
          refine ⟨.pointer (some (a'.add (q * inf.size))), by simp [Instr.indexAt, run_asIntOf, run_underlying hu, run_sizeOfI hi', hlt], ?_⟩
          refine .ptr _ _ (AddrRel.add ⟨h1, h2, fun g hg => ?_⟩ (q * inf.size))
          rcases h4 g hg with ⟨h5, _⟩ | ⟨h5, h6, h7, _⟩
          · omega
          · exact ⟨h5, h6, h7⟩
      case array nn el =>
        cases hi' : P.info? el with
        | none => simp [hi'] at e
        | some inf =>
          simp only [hi'] at e
          cases ha : addrOf x with
          | none => simp [ha] at e
          | some a =>
            obtain ⟨a', rfl, hr⟩ := addrOf_rel ha hx
            simp only [ha] at e
            obtain ⟨q, hq, hsp, rfl⟩ := elemAddr_some e
            obtain ⟨rfl, hlt⟩ := aIdx_some hq
            refine ⟨.pointer (some (a'.add (q * inf.size))), by simp [Instr.indexAt, run_asIntOf, run_underlying hu, run_sizeOfI hi', hlt, Instr.sureAddr], ?_⟩
            exact .ptr _ _ (hr.add (q * inf.size))
end
end Go.Ev

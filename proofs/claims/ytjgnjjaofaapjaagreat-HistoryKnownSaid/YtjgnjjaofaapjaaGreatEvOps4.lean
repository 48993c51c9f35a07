import Derived.Test.YtjgnjjaofaapjaaGreatEvOps3
namespace Go.Ev
section
variable {P : Program} {ρ : Emb} {h : AH} {w : World} {id : Nat}

theorem op_slice (wr : WRel ρ h w) (t : TypeId) {x x' : Value} {lo lo' hi hi' mx mx' : Option Value} (hx : VRel ρ x x') (hl : ORel ρ lo lo') (hh : ORel ρ hi hi') (hm : ORel ρ mx mx') :
    Sim ρ h w id (retO (aSlice P t x lo hi mx)) (valR ((Instr.sliceAt t x' lo' hi' mx').run P w)) := by
  refine sim_retO wr fun v e => ?_
  unfold aSlice at e
  cases hu : P.underlying t with
  | none => simp [hu] at e
  | some d =>
    cases d <;> simp only [hu] at e <;> try cases e
    case string =>
      cases hx <;> simp only at e <;> try cases e
      obtain ⟨v', h1, h2⟩ := sliceStr_rel (w := w) hu hl hh hm e
      exact ⟨v', by rw [h1]; rfl, h2⟩
    case slice el =>
      cases x <;> simp only at e <;> try cases e
      rename_i a len c
      cases hi0 : P.info? el with
      | none => simp [hi0] at e
      | some inf =>
        simp only [hi0] at e
        cases x' with
        | slice a' len' cap' =>
          have hlen : len' = len := by cases hx <;> rfl
          subst hlen
          obtain ⟨v', h1, h2⟩ := sliceSl_rel (w := w) hu hi0 hx hl hh hm e
          exact ⟨v', by rw [h1]; rfl, h2⟩
        | _ => cases hx

/-! Arithmetic. -/
theorem aIntBin_run (op : BinOp) (k : IntKind) (a b : Int) {v : Value} (e : aIntBin op k a b = some v) (t : TypeId) :
    (binOp op t (.int k a) (.int k b)).run P w = .ok v w ∧ ∀ ρ, VRel ρ v v := by
  cases op <;> simp only [aIntBin, iWrap, iQuo, iRem, bvBin, oBool, Option.some.injEq] at e <;> try cases e
  case quo =>
    by_cases hb : b = 0
    · simp [hb] at e
    · simp [hb] at e
      subst e
      exact ⟨by simp [binOp, Op.intDiv, hb], fun _ => .int _ _⟩
  case rem =>
    by_cases hb : b = 0
    · simp [hb] at e
    · simp [hb] at e
      subst e
      exact ⟨by simp [binOp, Op.intDiv, hb], fun _ => .int _ _⟩
  all_goals
    refine ⟨by simp [binOp, Op.intArith, Op.intBits, Op.intCmp], fun _ => ?_⟩
    first | exact .int _ _ | exact .bool _

theorem binInt_run (op : BinOp) (k k' : IntKind) (a b : Int) {v : Value} (e : binInt op k a k' b = some v) (t : TypeId) :
    (binOp op t (.int k a) (.int k' b)).run P w = .ok v w ∧ ∀ ρ, VRel ρ v v := by
  by_cases hs : op = .shl
  · subst hs
    simp only [binInt, iShl] at e
    by_cases hb : b < 0
    · simp [hb] at e
    · simp [hb] at e
      subst e
      exact ⟨by simp [binOp, Op.shift, hb], fun _ => .int _ _⟩
  · by_cases hs' : op = .shr
    · subst hs'
      simp only [binInt, iShr] at e
      by_cases hb : b < 0
      · simp [hb] at e
      · simp [hb] at e
        subst e
        exact ⟨by simp [binOp, Op.shift, hb], fun _ => .int _ _⟩
    · have e' : (bif decide (k = k') then aIntBin op k a b else none) = some v := by
        cases op <;> first | exact e | (exact absurd rfl hs) | (exact absurd rfl hs')
      by_cases hk : k = k'
      · subst hk
        simp at e'
        exact aIntBin_run op k a b e' t
      · simp [hk] at e'

/-! Equality. -/
/-- The run of what asks nothing of the world; of what it gives, Q holds. -/
def Still (P : Program) {α : Type} (Q : α → Prop) (m : Sem α) : Prop := ∀ w0 a w1, m.run P w0 = .ok a w1 → Q a ∧ w1 = w0 ∧ ∀ w, m.run P w = .ok a w

theorem still_pure {α : Type} {Q : α → Prop} (a : α) (hq : Q a) : Still P Q (pure a : Sem α) := by
  intro w0 b w1 e
  simp only [Sem.run_pure, Result.ok.injEq] at e
  obtain ⟨rfl, rfl⟩ := e
  exact ⟨hq, rfl, fun _ => rfl⟩
theorem still_bind {α β : Type} {Q : α → Prop} {R : β → Prop} {m : Sem α} {f : α → Sem β} (hm : Still P Q m) (hf : ∀ a, Q a → Still P R (f a)) : Still P R (m >>= f) := by
  intro w0 b w1 e
  rw [Sem.run_bind] at e
  cases hr : m.run P w0 with
  | halt x w2 => rw [hr] at e; cases e
  | ok a w2 =>
    rw [hr] at e
    simp only [Result.andThen_ok] at e
    obtain ⟨hq, rfl, h1⟩ := hm _ _ _ hr
    obtain ⟨hr', rfl, h2⟩ := hf a hq _ _ _ e
    exact ⟨hr', rfl, fun w => by rw [Sem.run_bind, h1]; exact h2 w⟩
theorem still_halt {α : Type} {Q : α → Prop} (x : Halt) : Still P Q (Sem.halt x : Sem α) := by intro w0 b w1 e; cases e
theorem still_stuck {α : Type} {Q : α → Prop} (x : String) : Still P Q (stuck x : Sem α) := still_halt _
theorem still_unsupported {α : Type} {Q : α → Prop} (x : Unsupported) : Still P Q (unsupported x : Sem α) := still_halt _
abbrev Any {α : Type} : α → Prop := fun _ => True
theorem still_program : Still P Any program := by
  intro w0 b w1 e
  simp only [run_program, Result.ok.injEq] at e
  obtain ⟨rfl, rfl⟩ := e
  exact ⟨trivial, rfl, fun _ => rfl⟩
theorem still_typeInfo (t : TypeId) : Still P Any (typeInfo t) := by
  unfold typeInfo
  refine still_bind still_program fun p _ => ?_
  split
  · exact still_pure _ trivial
  · exact still_stuck _
theorem still_underlying (t : TypeId) : Still P Any (underlying t) := by
  unfold underlying
  refine still_bind still_program fun p _ => ?_
  split
  · exact still_pure _ trivial
  · exact still_stuck _
theorem still_sizeOf (t : TypeId) : Still P Any (sizeOf t) := by
  unfold sizeOf
  exact still_bind (still_typeInfo t) fun _ _ => still_pure _ trivial
theorem still_isAgg (t : TypeId) : Still P Any (isAgg t) := by
  unfold isAgg
  refine still_bind (still_underlying t) fun d _ => ?_
  split <;> exact still_pure _ trivial

def PlainV (v : Value) : Prop := plainV v = true
theorem plain_extract {cs : Array Value} (h : cs.toList.all plain1 = true) (i j : Nat) : (cs.extract i j).toList.all plain1 = true := by
  rw [List.all_eq_true] at h ⊢
  intro x hx
  simp only [Array.toList_extract, List.extract_eq_take_drop] at hx
  exact h x (List.mem_of_mem_drop (List.mem_of_mem_take hx))
theorem plain1_plainV {v : Value} (h : plain1 v = true) : plainV v = true := by cases v <;> simp_all [plainV, plain1]
theorem still_part (t : TypeId) {cs : Array Value} (h : cs.toList.all plain1 = true) (off : Nat) : Still P PlainV (part t cs off) := by
  unfold part
  refine still_bind (still_isAgg t) fun b _ => ?_
  split
  · exact still_bind (still_sizeOf t) fun n _ => still_pure _ (plain_extract h _ _)
  · cases hc : cs[off]? with
    | none => exact still_stuck _
    | some v =>
      refine still_pure _ (plain1_plainV ?_)
      rw [List.all_eq_true] at h
      rw [← Array.getElem?_toList] at hc
      exact h v (List.mem_of_getElem? hc)

theorem still_forIn {β γ : Type} (f : γ → β → Sem (ForInStep β)) : ∀ (l : List γ) (b : β), (∀ x ∈ l, ∀ b, Still P Any (f x b)) → Still P Any (forIn l b f)
  | [], b, _ => by simp only [List.forIn_nil]; exact still_pure _ trivial
  | x :: l, b, h => by
    rw [List.forIn_cons]
    refine still_bind (h x (by simp) b) fun r _ => ?_
    cases r with
    | done b => exact still_pure _ trivial
    | yield b => exact still_forIn f l b fun y hy => h y (by simp [hy])

theorem still_equalIn : ∀ (d : Nat) (t : TypeId) (x y : Value), plainV x = true → plainV y = true → Still P Any (Op.equalIn d t x y)
  | 0, _, _, _, _, _ => still_unsupported _
  | d + 1, t, x, y, hx, hy => by
    unfold Op.equalIn
    refine still_bind (still_underlying t) fun de _ => ?_
    split
    all_goals first
      | exact still_pure _ trivial
      | exact still_stuck _
      | exact still_unsupported _
      | (split <;> first | exact still_pure _ trivial | exact still_stuck _)
      | (exfalso; simp [plainV, plain1] at hx; done)
      | (exfalso; simp [plainV, plain1] at hy; done)
      | skip
    · rename_i a b _
      simp only [plainV, plain1, Option.isNone_iff_eq_none] at hx hy
      subst hx hy
      exact still_pure _ trivial
    · rename_i fields xs ys _
      refine still_bind still_program fun p _ => ?_
      dsimp only
      split
      · exact still_bind (Q := Any) (still_unsupported _) fun _ _ => by
          rw [← Array.forIn_toList]
          refine still_bind (still_forIn _ _ _ fun f _ b => ?_) fun r _ => ?_
          · split
            · exact still_bind (still_part _ hx _) fun u hu => still_bind (still_part _ hy _) fun v hv => still_bind (still_equalIn d _ u v hu hv) fun b _ => by split <;> exact still_pure _ trivial
            · exact still_pure _ trivial
          · split <;> exact still_pure _ trivial
      · rw [← Array.forIn_toList]
        refine still_bind (still_forIn _ _ _ fun f _ b => ?_) fun r _ => ?_
        · split
          · exact still_bind (still_part _ hx _) fun u hu => still_bind (still_part _ hy _) fun v hv => still_bind (still_equalIn d _ u v hu hv) fun b _ => by split <;> exact still_pure _ trivial
          · exact still_pure _ trivial
        · split <;> exact still_pure _ trivial
    · rename_i len elem xs ys _
      refine still_bind (still_sizeOf elem) fun n _ => ?_
      rw [Std.Legacy.Range.forIn_eq_forIn_range']
      refine still_bind (still_forIn _ _ _ fun i _ b => ?_) fun r _ => ?_
      · exact still_bind (still_part _ hx _) fun u hu => still_bind (still_part _ hy _) fun v hv => still_bind (still_equalIn d _ u v hu hv) fun b _ => by split <;> exact still_pure _ trivial
      · obtain ⟨r1, r2⟩ := r; cases r1 <;> exact still_pure _ trivial

theorem aEqual_run {t : TypeId} {x y x' y' : Value} {b : Bool} (e : aEqual P t x y = some b) (hx : VRel ρ x x') (hy : VRel ρ y y') (w : World) : (Op.equal t x' y').run P w = .ok b w := by
  unfold aEqual at e
  cases hp : (plainV x && plainV y) with
  | false => simp [hp] at e
  | true =>
    simp only [hp, cond_true] at e
    rw [Bool.and_eq_true] at hp
    rw [plainV_eq hp.1 hx, plainV_eq hp.2 hy]
    cases hr : (Op.equal t x y).run P default with
    | halt _ _ => rw [hr] at e; cases e
    | ok b' w' =>
      rw [hr] at e
      simp only [Option.some.injEq] at e
      subst e
      exact (still_equalIn _ _ _ _ hp.1 hp.2 _ _ _ hr).2.2 w
end
end Go.Ev

import Derived.Test.YtmjofgacpgcjmaaGreatSeA
import Derived.Test.YtmjofgacpgcjmaaGreatEvA
namespace Go.Ev
section
variable {P : Program}

theorem kindOf_den {v : SV} {k : KD} (h : kindOf v = some k) : plain1 v.den = true := by
  cases v <;> simp only [kindOf, reduceCtorEq] at h <;> rfl
theorem fitsK_plain : ∀ {ks : List KD} {l : List SV}, fitsK ks l = true → (dens l).all plain1 = true
  | [], [], _ => rfl
  | [], _ :: _, h => by simp [fitsK] at h
  | _ :: _, [], h => by simp [fitsK] at h
  | k :: ks, v :: l, h => by
    simp only [fitsK, Bool.and_eq_true] at h
    simp only [dens, List.all_cons, Bool.and_eq_true]
    refine ⟨?_, fitsK_plain h.2⟩
    cases hv : kindOf v with
    | none => rw [hv] at h; cases h.1
    | some k' => exact kindOf_den hv
theorem fitsK_length : ∀ {ks : List KD} {l : List SV}, fitsK ks l = true → l.length = ks.length
  | [], [], _ => rfl
  | [], _ :: _, h => by simp [fitsK] at h
  | _ :: _, [], h => by simp [fitsK] at h
  | k :: ks, v :: l, h => by
    simp only [fitsK, Bool.and_eq_true] at h
    simp [fitsK_length h.2]
theorem fitsK_split : ∀ {m r : List KD} {l : List SV}, fitsK (m ++ r) l = true → ∃ a b, l = a ++ b ∧ fitsK m a = true ∧ fitsK r b = true
  | [], r, l, h => ⟨[], l, rfl, rfl, h⟩
  | k :: m, r, [], h => by simp [fitsK] at h
  | k :: m, r, v :: l, h => by
    simp only [List.cons_append, fitsK, Bool.and_eq_true] at h
    obtain ⟨a, b, e, h1, h2⟩ := fitsK_split h.2
    exact ⟨v :: a, b, by rw [e]; rfl, by simp only [fitsK, Bool.and_eq_true]; exact ⟨h.1, h1⟩, h2⟩
theorem eqSL_split : ∀ {a b c d : List SV} {l x : Bool}, a.length = c.length → eqSL (a ++ b) (c ++ d) = some (l, x) → ∃ l1 x1 l2 x2, eqSL a c = some (l1, x1) ∧ eqSL b d = some (l2, x2) ∧ x = (x1 && x2)
  | [], b, [], d, l, x, _, h => ⟨true, true, l, x, rfl, h, by simp⟩
  | [], _, _ :: _, _, _, _, hl, _ => by simp at hl
  | _ :: _, _, [], _, _, _, hl, _ => by simp at hl
  | u :: a, b, v :: c, d, l, x, hl, h => by
    simp only [List.cons_append, eqSL] at h
    cases h1 : eqS1 u v with
    | none => rw [h1] at h; cases h
    | some p =>
      obtain ⟨p1, p2⟩ := p
      rw [h1] at h
      simp only at h
      cases h2 : eqSL (a ++ b) (c ++ d) with
      | none => rw [h2] at h; cases h
      | some q =>
        obtain ⟨q1, q2⟩ := q
        rw [h2] at h
        simp only [Option.some.injEq, Prod.mk.injEq] at h
        obtain ⟨rfl, rfl⟩ := h
        obtain ⟨l1, x1, l2, x2, e1, e2, rfl⟩ := eqSL_split (by simpa using hl) h2
        exact ⟨p1 && l1, p2 && x1, l2, x2, by simp only [eqSL, h1, e1], e2, by rw [Bool.and_assoc]⟩

/-- The value that these cells are. -/
def PackV (P : Program) (t : TypeId) (xs : List SV) (v : Value) : Prop :=
  match P.underlying t with
  | some (.struct _) => v = .agg (dens xs).toArray
  | _ => ∃ x, xs = [x] ∧ v = x.den

theorem eqS1_den {u v : SV} {l b : Bool} (h : eqS1 u v = some (l, b)) : (∃ k x y, u.den = .int k x ∧ v.den = .int k y ∧ b = (x == y)) ∨ (∃ x y, u.den = .bool x ∧ v.den = .bool y ∧ b = (x == y)) ∨ (∃ x y, u.den = .string x ∧ v.den = .string y ∧ b = (x == y)) := by
  unfold eqS1 at h
  split at h
  · split at h
    · rename_i k la a _ k' lb c
      by_cases hk : k = k'
      · subst hk
        simp only [decide_true, cond_true, Option.some.injEq, Prod.mk.injEq] at h
        exact .inl ⟨_, _, _, rfl, rfl, h.2.symm⟩
      · simp [hk] at h
    · cases h
  · split at h
    · simp only [Option.some.injEq, Prod.mk.injEq] at h
      exact .inr (.inl ⟨_, _, rfl, rfl, h.2.symm⟩)
    · cases h
  · split at h
    · rename_i hx hy
      simp only [Option.some.injEq, Prod.mk.injEq] at h
      exact .inr (.inr ⟨_, _, strOf_den hx, strOf_den hy, h.2.symm⟩)
    · cases h

theorem part_run {t : TypeId} {inf : TypeInfo} (hi : P.info? t = some inf) {ks : List KD} {n : Nat} (hf : flatK P n t = some ks) (hl : ks.length = inf.size) (pre x1 x2 : List SV) (h1 : x1.length = ks.length) (w : World) :
    ∃ v, (part t (dens (pre ++ (x1 ++ x2))).toArray pre.length).run P w = .ok v w ∧ PackV P t x1 v := by
  unfold PackV
  cases n with
  | zero => cases hf
  | succ n =>
    simp only [flatK] at hf
    have hd : (dens (pre ++ (x1 ++ x2))) = dens pre ++ (dens x1 ++ dens x2) := by simp [dens_append]
    have scalar : ∀ d, P.underlying t = some d → isAggD d = false → ks.length = 1 → ∃ v, (part t (dens (pre ++ (x1 ++ x2))).toArray pre.length).run P w = .ok v w ∧ ∃ x, x1 = [x] ∧ v = x.den := by
      intro d hu ha hk
      match x1, h1.trans hk with
      | [x], _ =>
        refine ⟨x.den, ?_, x, rfl, rfl⟩
        have hg : (dens (pre ++ x :: x2))[pre.length]? = some x.den := by
          rw [dens_get]
          simp
        simp [part, run_isAggD hu, ha, hg]
    cases hu : P.underlying t with
    | none => rw [hu] at hf; cases hf
    | some d =>
      rw [hu] at hf
      cases d <;> simp only [reduceCtorEq] at hf
      case int k => simp only [Option.some.injEq] at hf; subst hf; exact scalar _ hu rfl rfl
      case bool => simp only [Option.some.injEq] at hf; subst hf; exact scalar _ hu rfl rfl
      case string => simp only [Option.some.injEq] at hf; subst hf; exact scalar _ hu rfl rfl
      case struct fs =>
        refine ⟨.agg ((dens (pre ++ (x1 ++ x2))).toArray.extract pre.length (pre.length + inf.size)), by simp [part, run_isAggD hu, isAggD, run_sizeOfI hi], ?_⟩
        simp only [Value.agg.injEq]
        rw [hd]
        apply Array.toList_inj.1
        have hx : inf.size = (dens x1).length := by rw [dens_length, h1, hl]
        have hp : pre.length = (dens pre).length := (dens_length pre).symm
        simp only [Array.toList_extract, List.extract_eq_take_drop]
        rw [hp, List.drop_left, Nat.add_sub_cancel_left, hx, List.take_left]

theorem eq_flat : ∀ (n : Nat) (t : TypeId) (ks : List KD), flatK P n t = some ks → offsOK P n t = true → ∀ d, n ≤ d → ∀ (xs ys : List SV) (u v : Value), fitsK ks xs = true → fitsK ks ys = true → PackV P t xs u → PackV P t ys v →
    ∀ l b, eqSL xs ys = some (l, b) → ∀ w, (Op.equalIn d t u v).run P w = .ok b w
  | 0, _, _, h, _, _, _, _, _, _, _, _, _, _, _, _, _, _, _ => by cases h
  | n + 1, t, ks, hf, ho, 0, hd, _, _, _, _, _, _, _, _, _, _, _, _ => by omega
  | n + 1, t, ks, hf, ho, d + 1, hd, xs, ys, u, v, fx, fy, px, py, l, b, he, w => by
    have ih := eq_flat n
    simp only [flatK] at hf
    simp only [offsOK] at ho
    unfold PackV at px py
    have scalar : ∀ x y : SV, ∀ l b, eqSL [x] [y] = some (l, b) → ∃ l1, eqS1 x y = some (l1, b) := by
      intro x y l b h
      simp only [eqSL] at h
      cases h1 : eqS1 x y with
      | none => rw [h1] at h; cases h
      | some p =>
        obtain ⟨p1, p2⟩ := p
        rw [h1] at h
        simp only [Bool.and_true, Option.some.injEq, Prod.mk.injEq] at h
        exact ⟨p1, by rw [h.2]⟩
    cases hu : P.underlying t with
    | none => rw [hu] at hf; cases hf
    | some de =>
      rw [hu] at hf ho px py
      cases de <;> simp only [reduceCtorEq] at hf
      case int k =>
        simp only [Option.some.injEq] at hf
        subst hf
        obtain ⟨x, rfl, rfl⟩ := px
        obtain ⟨y, rfl, rfl⟩ := py
        obtain ⟨l1, h1⟩ := scalar x y l b he
        have kx : kindOf x = some (.int k) := by
          simp only [fitsK, Bool.and_true] at fx
          cases hk : kindOf x with
          | none => rw [hk] at fx; cases fx
          | some k' => rw [hk] at fx; simp only [decide_eq_true_eq] at fx; rw [← fx]
        rcases eqS1_den h1 with ⟨k1, p, q, e1, e2, rfl⟩ | ⟨p, q, e1, e2, rfl⟩ | ⟨p, q, e1, e2, rfl⟩
        · rw [e1, e2]
          simp [Op.equalIn, run_underlying hu]
        · cases x <;> simp [kindOf] at kx <;> simp [SV.den] at e1
        · cases x <;> simp [kindOf] at kx <;> simp [SV.den] at e1
      case bool =>
        simp only [Option.some.injEq] at hf
        subst hf
        obtain ⟨x, rfl, rfl⟩ := px
        obtain ⟨y, rfl, rfl⟩ := py
        obtain ⟨l1, h1⟩ := scalar x y l b he
        have kx : kindOf x = some .bool := by
          simp only [fitsK, Bool.and_true] at fx
          cases hk : kindOf x with
          | none => rw [hk] at fx; cases fx
          | some k' => rw [hk] at fx; simp only [decide_eq_true_eq] at fx; rw [← fx]
        rcases eqS1_den h1 with ⟨k1, p, q, e1, e2, rfl⟩ | ⟨p, q, e1, e2, rfl⟩ | ⟨p, q, e1, e2, rfl⟩
        · cases x <;> simp [kindOf] at kx <;> simp [SV.den] at e1
        · rw [e1, e2]
          simp [Op.equalIn, run_underlying hu]
        · cases x <;> simp [kindOf] at kx <;> simp [SV.den] at e1
      case string =>
        simp only [Option.some.injEq] at hf
        subst hf
        obtain ⟨x, rfl, rfl⟩ := px
        obtain ⟨y, rfl, rfl⟩ := py
        obtain ⟨l1, h1⟩ := scalar x y l b he
        have kx : kindOf x = some .str := by
          simp only [fitsK, Bool.and_true] at fx
          cases hk : kindOf x with
          | none => rw [hk] at fx; cases fx
          | some k' => rw [hk] at fx; simp only [decide_eq_true_eq] at fx; rw [← fx]
        rcases eqS1_den h1 with ⟨k1, p, q, e1, e2, rfl⟩ | ⟨p, q, e1, e2, rfl⟩ | ⟨p, q, e1, e2, rfl⟩
        · cases x <;> simp [kindOf] at kx <;> simp [SV.den] at e1
        · cases x <;> simp [kindOf] at kx <;> simp [SV.den] at e1
        · rw [e1, e2]
          simp [Op.equalIn, run_underlying hu]
      case struct fs =>
        cases hst : P.stoodInHeld t with
        | true => rw [hst] at hf; cases hf
        | false =>
          rw [hst] at hf
          simp only [cond_false] at hf
          simp only [Bool.and_eq_true, List.all_eq_true] at ho
          subst px py
          unfold Op.equalIn
          rw [Sem.run_bind, run_underlying hu]
          simp only [Result.andThen_ok]
          rw [Sem.run_bind, run_program]
          simp only [Result.andThen_ok, hst]
          rw [← Array.forIn_toList]
          have loop : ∀ (fl : List Field) (o : Nat) (ks : List KD) (pre pre' x y : List SV) (l b : Bool), flatFs P (flatK P n) fl = some ks → offGo P fl o = true → (∀ f ∈ fl, offsOK P n f.type = true) → fitsK ks x = true → fitsK ks y = true →
              pre.length = o → pre'.length = o → eqSL x y = some (l, b) → ∀ w, Sem.run P (forIn fl (none, ()) fun f (__s : Option Bool × Unit) =>
              if f.name ≠ "_" then do
                let __do_lift ← part f.type (dens (pre ++ x)).toArray f.offset
                let __do_lift_1 ← part f.type (dens (pre' ++ y)).toArray f.offset
                let __do_lift ← Op.equalIn d f.type __do_lift __do_lift_1
                if (!__do_lift) = true then pure (ForInStep.done (some false, ()))
                  else pure (ForInStep.yield (none, ()))
              else pure (ForInStep.yield (none, ()))) w = .ok (bif b then none else some false, ()) w := by
            intro fl
            induction fl with
            | nil =>
              intro o ks pre pre' x y l b h1 _ _ h3 h4 _ _ h5 w
              simp only [flatFs, Option.some.injEq] at h1
              subst h1
              have ex : x = [] := by have := fitsK_length h3; simpa using this
              have ey : y = [] := by have := fitsK_length h4; simpa using this
              subst ex ey
              simp only [eqSL, Option.some.injEq, Prod.mk.injEq] at h5
              obtain ⟨_, rfl⟩ := h5
              rfl
            | cons f fl ihl =>
              intro o ks pre pre' x y l b h1 h2 hall h3 h4 hp hp' h5 w
              simp only [flatFs] at h1
              cases hr : flatFs P (flatK P n) fl with
              | none => rw [hr] at h1; cases h1
              | some r =>
                rw [hr] at h1
                simp only at h1
                cases hm : flatK P n f.type with
                | none => rw [hm] at h1; cases h1
                | some m =>
                  cases hi : P.info? f.type with
                  | none => rw [hm, hi] at h1; cases h1
                  | some inf =>
                    rw [hm, hi] at h1
                    simp only at h1
                    cases hc : (f.name != "_" && Nat.beq m.length inf.size) with
                    | false => rw [hc] at h1; cases h1
                    | true =>
                      rw [hc] at h1
                      simp only [cond_true, Option.some.injEq] at h1
                      subst h1
                      simp only [Bool.and_eq_true, bne_iff_ne, ne_eq] at hc
                      have hml : m.length = inf.size := Nat.eq_of_beq_eq_true hc.2
                      obtain ⟨x1, x2, rfl, fx1, fx2⟩ := fitsK_split h3
                      obtain ⟨y1, y2, rfl, fy1, fy2⟩ := fitsK_split h4
                      have lx := fitsK_length fx1
                      have ly := fitsK_length fy1
                      obtain ⟨l1, b1, l2, b2, e1, e2, rfl⟩ := eqSL_split (lx.trans ly.symm) h5
                      simp only [offGo, hi, Bool.and_eq_true] at h2
                      have hoff : f.offset = o := Nat.eq_of_beq_eq_true h2.1
                      obtain ⟨v1, r1, p1⟩ := part_run hi hm hml pre x1 x2 lx w
                      obtain ⟨v2, r2, p2⟩ := part_run hi hm hml pre' y1 y2 ly w
                      rw [hp] at r1
                      rw [hp'] at r2
                      have r3 := ih f.type m hm (hall f (by simp)) d (by omega) x1 y1 v1 v2 fx1 fy1 p1 p2 l1 b1 e1 w
                      rw [List.forIn_cons, if_pos hc.1]
                      simp only [Sem.run_bind, hoff, r1, r2, r3, Result.andThen_ok]
                      cases b1 with
                      | false => rfl
                      | true =>
                        have := ihl (o + inf.size) r (pre ++ x1) (pre' ++ y1) x2 y2 l2 b2 hr h2.2 (fun g hg => hall g (by simp [hg])) fx2 fy2 (by simp [hp, lx, hml]) (by simp [hp', ly, hml]) e2 w
                        simp only [List.append_assoc] at this
                        simp only [Bool.true_and]
                        exact this
          have := loop fs.toList 0 ks [] [] xs ys l b hf ho.2 ho.1 fx fy rfl rfl he w
          simp only [List.nil_append] at this
          simp only [Bool.false_eq_true, if_false]
          rw [Sem.run_bind, this]
          cases b <;> rfl

theorem eqAggS_den {t : TypeId} {l m : List SV} {p b : Bool} (h : eqAggS P t l m = some (p, b)) : eqAgg P t (.agg (dens l).toArray) (.agg (dens m).toArray) = some b := by
  unfold eqAggS at h
  cases hk : flatK P 12 t with
  | none => rw [hk] at h; cases h
  | some ks =>
    rw [hk] at h
    simp only at h
    cases hc : (isStructT P t && offsOK P 12 t && !(P.eqGuardType P.depth t) && fitsK ks l && fitsK ks m) with
    | false => rw [hc] at h; cases h
    | true =>
      rw [hc] at h
      simp only [cond_true] at h
      simp only [Bool.and_eq_true, Bool.not_eq_true'] at hc
      obtain ⟨⟨⟨⟨h0, h1⟩, h2⟩, h3⟩, h4⟩ := hc
      unfold eqAgg aEqual
      rw [h2]
      have pl : plainV (.agg (dens l).toArray) = true := fitsK_plain h3
      have pm : plainV (.agg (dens m).toArray) = true := fitsK_plain h4
      rw [pl, pm]
      simp only [cond_false, Bool.and_true, cond_true]
      have pk : ∀ x : List SV, PackV P t x (.agg (dens x).toArray) := fun x => by
        unfold PackV
        unfold isStructT at h0
        split at h0
        · rename_i fs hu
          rw [hu]
        · cases h0
      have := eq_flat 12 t ks hk h1 Op.maxDepth (by decide) l m _ _ h3 h4 (pk l) (pk m) p b h default
      have e : Op.equal t (.agg (dens l).toArray) (.agg (dens m).toArray) = Op.equalIn Op.maxDepth t (.agg (dens l).toArray) (.agg (dens m).toArray) := rfl
      rw [e, this]
end
end Go.Ev

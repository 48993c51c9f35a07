import Derived.Test.YtjgnjjaofaapjaaGreatEvPlan
namespace Go.Ev
section
variable {ops : Array Oper}

def logs (hist : List Hist) : List Nat := histLog hist []
theorem histLog_eq : ∀ (hist : List Hist) (log : List Nat), histLog hist log = logs hist ++ log
  | [], _ => rfl
  | y :: l, log => by
    show y.log ++ histLog l log = y.log ++ histLog l [] ++ log
    rw [histLog_eq l log, List.append_assoc]; rfl
theorem logs_cons (y : Hist) (l : List Hist) : logs (y :: l) = y.log ++ logs l := rfl

structure Along (base n : Nat) (s s1 : DS) : Prop where
  ok : s1.h.ok
  next : s.h.next ≤ s1.h.next
  log : s.h.log = [] → s1.h.log = []
  keep : ∀ r x, s.h.get r = some x → ∃ y, s1.h.get r = some y
  frame : ∃ l, logs s1.hist = l ++ logs s.hist ∧ ∀ r, r < s.h.next → (r < base ∨ base + n ≤ r) → r ∉ l → s1.h.get r = s.h.get r

theorem Along.refl {base n : Nat} {s : DS} (ok : s.h.ok) : Along base n s s := ⟨ok, Nat.le_refl _, fun h => h, fun _ x e => ⟨x, e⟩, ⟨[], rfl, fun _ _ _ _ => rfl⟩⟩
theorem Along.trans {base n : Nat} {a b c : DS} (h : Along base n a b) (k : Along base n b c) : Along base n a c := by
  obtain ⟨l1, e1, f1⟩ := h.frame
  obtain ⟨l2, e2, f2⟩ := k.frame
  refine ⟨k.ok, Nat.le_trans h.next k.next, fun x => k.log (h.log x), fun r x e => ?_, ⟨l2 ++ l1, by rw [e2, e1, List.append_assoc], fun r hr hb hl => ?_⟩⟩
  · obtain ⟨y, hy⟩ := h.keep r x e
    exact k.keep r y hy
  · rw [f2 r (Nat.lt_of_lt_of_le hr h.next) hb (fun hm => hl (by simp [hm])), f1 r hr hb (fun hm => hl (by simp [hm]))]

theorem stepD_along (E : Env) {ih : CodeRun} (hg : Good ih) (al : List Nat) (base i : Nat) (s s1 : DS) (e : stepD E ih ops al base i s = some s1) (ok : s.h.ok) :
    Along base ops.size s s1 ∧ ∀ x ox, s.h.get x = none → x < s.h.next → x < base → stepD E ih ops al base i ⟨s.a, s.h.put x ox, s.hist⟩ = some ⟨s1.a, s1.h.put x ox, s1.hist⟩ ∧ s1.h.get x = none := by
  obtain ⟨a, h, hist⟩ := s
  simp only at ok
  cases ho : ops[i]? with
  | none => simp only [stepD, ho] at e; cases e
  | some o =>
    have hi : i < ops.size := (Array.getElem?_eq_some_iff.1 ho).1
    simp only [stepD, ho] at e
    cases hw : bwanted ops a o with
    | false =>
      rw [hw] at e
      simp only [Option.some.injEq] at e
      subst e
      refine ⟨⟨ok, Nat.le_refl _, fun h => h, fun _ x e => ⟨x, e⟩, ⟨[], rfl, fun _ _ _ _ => rfl⟩⟩, fun x ox hx hlx hb => ⟨?_, hx⟩⟩
      simp only [stepD, ho, hw]
    | true =>
      rw [hw] at e
      simp only at e
      cases hf : floats o.op with
      | true =>
        rw [hf] at e
        simp only at e
        have e0 := e
        rw [stepFloat_iff] at e
        obtain ⟨hop, v, reads, m, h1, hl, hr, hp, rfl⟩ := e
        obtain ⟨p1, p2, p3, p4, p5⟩ := putNew_spec ok hp
        refine ⟨⟨p1, by simp only; omega, fun h => by simp only at h ⊢; rw [p3]; exact h, fun r x e => ⟨x, p5 r x e⟩, ⟨[], rfl, fun r hr hb _ => p4 r (fun e => ?_)⟩⟩, fun x ox hx hlx hne => ?_⟩
        · have : r = base + i := e
          omega
        · have k := (good_stepFloat E base ops.size (al.getD i 0) i o a hist h (a.put o.dst v, hist) h1 (by show dsH (stepFloat E base ops.size (al.getD i 0) i o ⟨a, h, hist⟩) = _; rw [e0]; rfl) ok).2 x ox hx hlx (by omega)
          refine ⟨?_, k.2⟩
          simp only [stepD, ho, hw, hf]
          have k1 : dsH (stepFloat E base ops.size (al.getD i 0) i o ⟨a, h.put x ox, hist⟩) = some ((a.put o.dst v, hist), h1.put x ox) := k.1
          cases hs : stepFloat E base ops.size (al.getD i 0) i o ⟨a, h.put x ox, hist⟩ with
          | none => rw [hs] at k1; cases k1
          | some s2 =>
            obtain ⟨a2, h2, hist2⟩ := s2
            rw [hs] at k1
            simp only [dsH, Option.some.injEq, Prod.mk.injEq] at k1
            obtain ⟨⟨rfl, rfl⟩, rfl⟩ := k1
            rfl
      | false =>
        rw [hf] at e
        simp only at e
        obtain ⟨c1, c2, c3, ⟨l, c4, c5⟩, c6, c7⟩ := good_stepChain E hg base i o _ s1 e ok
        refine ⟨⟨c1, c2, fun _ => c3, c6, ⟨l, by rw [c4]; exact logs_cons _ _, fun r hr hb hl => c5 r hr (by omega) hl⟩⟩, fun x ox hx hlx hne => ?_⟩
        obtain ⟨k1, k2⟩ := c7 x ox hx hlx (by omega)
        refine ⟨?_, k2⟩
        simp only [stepD, ho, hw, hf]
        exact k1

theorem runD_along (E : Env) {ih : CodeRun} (hg : Good ih) (al : List Nat) (base : Nat) : ∀ (l : List Nat) (s s1 : DS), runD E ih ops al base l s = some s1 → s.h.ok →
    Along base ops.size s s1 ∧ ∀ x ox, s.h.get x = none → x < s.h.next → x < base → runD E ih ops al base l ⟨s.a, s.h.put x ox, s.hist⟩ = some ⟨s1.a, s1.h.put x ox, s1.hist⟩ ∧ s1.h.get x = none := by
  intro l
  induction l with
  | nil =>
    intro s s1 e ok
    simp only [runD, Option.some.injEq] at e
    subst e
    exact ⟨Along.refl ok, fun x ox hx _ _ => ⟨rfl, hx⟩⟩
  | cons i l ihl =>
    intro s s1 e ok
    rw [runD_cons] at e
    obtain ⟨s2, e1, e2⟩ := e
    obtain ⟨a1, p1⟩ := stepD_along E hg al base i s s2 e1 ok
    obtain ⟨a2, p2⟩ := ihl s2 s1 e2 a1.ok
    refine ⟨a1.trans a2, fun x ox hx hlx hb => ?_⟩
    obtain ⟨k1, k2⟩ := p1 x ox hx hlx hb
    obtain ⟨k3, k4⟩ := p2 x ox k2 (Nat.lt_of_lt_of_le hlx a1.next) hb
    exact ⟨by rw [runD_cons]; exact ⟨_, k1, k3⟩, k4⟩
end

/-- The three parts of a walk through code, as one pair with the heap apart. -/
def asP : Option (Exit × BAct × AH) → Option ((Exit × BAct) × AH)
  | some (e, a, h) => some ((e, a), h)
  | none => none
theorem asP_some {x : Option (Exit × BAct × AH)} {e : Exit} {a : BAct} {h : AH} : asP x = some ((e, a), h) ↔ x = some (e, a, h) := by
  cases x with
  | none => simp [asP]
  | some p => obtain ⟨x, y, z⟩ := p; simp [asP, and_assoc]
theorem asP_none {x : Option (Exit × BAct × AH)} : asP x = none ↔ x = none := by
  cases x with
  | none => simp [asP]
  | some p => obtain ⟨x, y, z⟩ := p; simp [asP]

theorem good_region (E : Env) {ih : CodeRun} (hg : Good ih) (ops : Array Oper) (draw : Bool) (a : BAct) : GoodC (fun h => asP (runRegion E ih ops draw a h)) := by
  intro h r h' e ok
  obtain ⟨ex, a'⟩ := r
  rw [asP_some] at e
  simp only [asP_some]
  unfold runRegion at e ⊢
  cases hb : Nat.ble (Nat.add h.next ops.size) most with
  | false => rw [hb] at e; cases e
  | true =>
    rw [hb] at e
    have hroom : h.next + ops.size ≤ most := Nat.le_of_ble_eq_true hb
    have okm := AH.ok_more ok hroom
    have hput : ∀ x ox, Nat.ble (Nat.add (h.put x ox).next ops.size) most = true := fun _ _ => hb
    cases draw with
    | false =>
      simp only at e
      obtain ⟨ev, pt⟩ := good_runL E hg ops h.next (numbered 0 ops.toList) a (h.more ops.size) (ex, a') h' (by
        show (match runL E ih ops h.next (numbered 0 ops.toList) a (h.more ops.size) with
          | some (e, a, h) => some ((e, a), h)
          | none => none) = _
        rw [show runL E ih ops h.next (numbered 0 ops.toList) a (h.more ops.size) = some (ex, a', h') from e]) okm
      refine ⟨((evo_more ok hroom (h.next ≤ ·)).trans ev).mono fun r hr hs => ?_, fun x ox hx hlx => ?_⟩
      · have : h.next ≤ r := hs
        omega
      · obtain ⟨k1, k2⟩ := pt x ox (by rw [AH.get_more ok hroom]; exact hx) (by rw [AH.more_next]; omega) (by omega)
        refine ⟨?_, k2⟩
        rw [hput]
        have k1 : asP (runL E ih ops h.next (numbered 0 ops.toList) a ((h.more ops.size).put x ox)) = some ((ex, a'), h'.put x ox) := by
          rw [← k1]
          show asP _ = (match runL E ih ops h.next (numbered 0 ops.toList) a ((h.more ops.size).put x ox) with
            | some (e, a, h) => some ((e, a), h)
            | none => none)
          cases runL E ih ops h.next (numbered 0 ops.toList) a ((h.more ops.size).put x ox) <;> rfl
        rw [asP_some] at k1
        exact k1
    | true =>
      simp only at e
      have main : ∀ (al : List Nat) (l : List Nat), endD h.log (runD E ih ops al h.next l ⟨a, ⟨h.t, Nat.add h.next ops.size, []⟩, []⟩) = some (ex, a', h') →
          Evo Nobody h h' ∧ ∀ x ox, h.get x = none → x < h.next → (match Nat.ble (Nat.add (h.put x ox).next ops.size) most with
            | false => none
            | true => endD (h.put x ox).log (runD E ih ops al (h.put x ox).next l ⟨a, ⟨(h.put x ox).t, Nat.add (h.put x ox).next ops.size, []⟩, []⟩)) = some (ex, a', h'.put x ox) ∧ h'.get x = none := by
        intro al l e
        have okl : (⟨h.t, Nat.add h.next ops.size, []⟩ : AH).ok := AH.ok_log okm []
        cases hr : runD E ih ops al h.next l ⟨a, ⟨h.t, Nat.add h.next ops.size, []⟩, []⟩ with
        | none => rw [hr] at e; cases e
        | some s1 =>
          rw [hr] at e
          simp only [endD, Option.some.injEq, Prod.mk.injEq] at e
          obtain ⟨rfl, rfl, rfl⟩ := e
          obtain ⟨al1, pt⟩ := runD_along E hg al h.next l _ s1 hr okl
          obtain ⟨lg, f1, f2⟩ := al1.frame
          have gm : ∀ r, (⟨h.t, Nat.add h.next ops.size, []⟩ : AH).get r = h.get r := fun r => AH.get_more ok hroom r
          have nm : h.next ≤ s1.h.next := Nat.le_trans (Nat.le_add_right _ _) al1.next
          refine ⟨⟨AH.ok_log al1.ok _, nm, ⟨lg, ?_, fun r hr _ hl => ?_⟩, fun r x hx => ?_⟩, fun x ox hx hlx => ?_⟩
          · rw [histLog_eq, f1]
            show (lg ++ logs []) ++ h.log = lg ++ h.log
            rw [show logs [] = [] from rfl, List.append_nil]
          · rw [AH.get_log]
            exact (f2 r (Nat.lt_of_lt_of_le hr (Nat.le_add_right _ _)) (.inl hr) hl).trans (gm r)
          · exact al1.keep r x ((gm r).trans hx)
          · obtain ⟨k1, k2⟩ := pt x ox ((gm x).trans hx) (Nat.lt_of_lt_of_le hlx (Nat.le_add_right _ _)) hlx
            refine ⟨?_, k2⟩
            rw [hput]
            have k1' : runD E ih ops al h.next l ⟨a, ⟨(h.put x ox).t, Nat.add (h.put x ox).next ops.size, []⟩, []⟩ = some ⟨s1.a, s1.h.put x ox, s1.hist⟩ := k1
            simp only
            rw [show (h.put x ox).next = h.next from rfl] at k1' ⊢
            rw [k1']
            rfl
      exact main _ _ e

theorem asF_asP (ih : CodeRun) (c : Code) (a : BAct) (h : AH) : asF ih c a h = asP (ih c a h) := by unfold asF; cases ih c a h <;> rfl

theorem good_codeStep (E : Env) {ih : CodeRun} (hg : Good ih) : Good (codeStep E ih) := by
  intro c a
  have key : ∀ (f : AH → Option ((Exit × BAct) × AH)), (∀ h, asF (codeStep E ih) c a h = f h) → GoodC f → GoodC (asF (codeStep E ih) c a) := fun f h1 h2 => by rw [show asF (codeStep E ih) c a = f from funext h1]; exact h2
  have as : ∀ c a h, asF ih c a h = asP (ih c a h) := fun c a h => by unfold asF; cases ih c a h <;> rfl
  have seq : ∀ (x y : Code), GoodC (fun h => asP (runSeq ih y (ih x a h))) := fun x y => by
    refine good_bind (f := asF ih x a) (g := fun p h1 => match p.1 with
      | .normal => asF ih y p.2 h1
      | _ => some (p, h1)) (hg x a) (fun p => ?_) (fun h e => ?_) (fun h p h1 e => ?_)
    · obtain ⟨ex, a1⟩ := p
      cases ex <;> first
        | exact hg y a1
        | exact good_ret _
    · rw [as, asP_none] at e
      rw [e]; rfl
    · obtain ⟨ex, a1⟩ := p
      rw [asF_some] at e
      rw [e]
      cases ex <;> first
        | rfl
        | (simp only [runSeq]; rw [as])
  cases c with
  | skip => exact key _ (fun h => rfl) (good_ret (Exit.normal, a))
  | label l => exact key _ (fun h => rfl) (good_ret (Exit.normal, a))
  | exit id => exact key _ (fun h => rfl) (good_ret (Exit.exit id, a))
  | ret => exact key _ (fun h => rfl) (good_ret (Exit.ret, a))
  | seq x y => exact key _ (fun h => asF_asP (codeStep E ih) (.seq x y) a h) (seq x y)
  | loop x => exact key _ (fun h => asF_asP (codeStep E ih) (.loop x) a h) (seq x (.loop x))
  | scope x => exact key _ (fun h => by unfold asF codeStep; rfl) (hg x a)
  | cond o x y =>
    cases ho : operandOK o with
    | false => exact key _ (fun h => by unfold asF codeStep; simp only [ho]) good_none
    | true =>
      cases hv : a.eval o with
      | bool t =>
        cases t with
        | true => exact key _ (fun h => by unfold asF codeStep; simp only [ho, hv, runCond, cond_true]) (hg x a)
        | false => exact key _ (fun h => by unfold asF codeStep; simp only [ho, hv, runCond, cond_false]) (hg y a)
      | _ => exact key _ (fun h => by unfold asF codeStep; simp only [ho, hv, runCond]) good_none
  | block id x =>
    refine key (fun h => asP (runBlock id (ih x a h))) (fun h => asF_asP (codeStep E ih) (.block id x) a h) ?_
    refine good_bind (f := asF ih x a) (g := fun p h1 => match p.1 with
      | .exit id' => bif Nat.beq id' id then some ((Exit.normal, p.2), h1) else some (p, h1)
      | _ => some (p, h1)) (hg x a) (fun p => ?_) (fun h e => ?_) (fun h p h1 e => ?_)
    · obtain ⟨ex, a1⟩ := p
      cases ex <;> simp only <;> first
        | exact good_ret _
        | (rename_i id'; cases Nat.beq id' id <;> exact good_ret _)
    · rw [as, asP_none] at e
      rw [e]; rfl
    · obtain ⟨ex, a1⟩ := p
      rw [asF_some] at e
      rw [e]
      cases ex <;> first
        | rfl
        | (simp only [runBlock]; rename_i id'; cases Nat.beq id' id <;> rfl)
  | region id ops draw => exact key _ (fun h => asF_asP (codeStep E ih) (.region id ops draw) a h) (good_region E hg ops draw a)
  | _ => exact key _ (fun h => by unfold asF codeStep; rfl) good_none

theorem good_eval (E : Env) : ∀ n, Good (evalC E n)
  | 0 => fun c a => by
    have : asF (evalC E 0) c a = fun _ => none := rfl
    rw [this]
    exact good_none
  | n + 1 => good_codeStep E (good_eval E n)
end Go.Ev

import Derived.Test.YtmjofgacpgcjmaaGreatSeB
import Derived.Test.YtmjofgacpgcjmaaGreatSpA
import Derived.Recover
section
/-! A call that gives a new object. -/
namespace Go.Ev
open Go.RowKit
theorem WRel.extend {ρ : Emb} {h : AH} {w : World} (r : WRel ρ h w) {id : Nat} {o : AObj} {g : Img} (hid : h.get id = none) (hlt : id < h.next) (hd : o ≠ .dead) (hfar : ∀ i g0, ρ i = .img g0 → g0.b ≠ g.b) (ho : ObjRel (put1 ρ id (.img g)) w o g) :
    WRel (put1 ρ id (.img g)) (h.put id o) w := by
  have ext := ext_put1 (r.free hid) (.img g)
  refine ⟨AH.ok_put r.ok hlt _, fun i => ?_, fun i j gi gj hne hi hj hrw => ?_⟩
  · by_cases e : i = id
    · subst e
      rw [AH.get_put_same h i o hlt, put1_same]
      cases o with
      | dead => exact absurd rfl hd
      | cells c rw => exact .inl ⟨g, rfl, ho⟩
      | amap es => exact .inl ⟨g, rfl, ho⟩
    · rw [AH.get_put_ne h r.ok id i o hlt (Ne.symm e), put1_ne ρ _ e]
      have := r.obj i
      cases hgi : h.get i with
      | none => rw [hgi] at this; exact this
      | some x =>
        rw [hgi] at this
        cases x with
        | dead => exact this
        | cells c rw => exact this.elim (fun ⟨g', h1, h2⟩ => .inl ⟨g', h1, h2.mono ext⟩) .inr
        | amap es => exact this.elim (fun ⟨g', h1, h2⟩ => .inl ⟨g', h1, h2.mono ext⟩) .inr
  · by_cases ei : i = id
    · subst ei
      rw [put1_same] at hi
      rw [put1_ne ρ _ (Ne.symm hne)] at hj
      cases hi
      exact (hfar j gj hj).symm
    · rw [put1_ne ρ _ ei] at hi
      by_cases ej : j = id
      · subst ej
        rw [put1_same] at hj
        cases hj
        exact hfar i gi hi
      · rw [put1_ne ρ _ ej] at hj
        exact r.inj i j gi gj hne hi hj hrw
/-- The callee's object, as a new one of the caller's: it lies where nothing lay. -/
theorem CallEnd.newObj {ρ ρc ρf : Emb} {h : AH} {w w1 : World} (wr : WRel ρ h w) (hn : h.next + 1 ≤ most) (hro : ∀ i g, ρc i = .img g → g.rw = false) (fr : Frame1 ρc w ρf w1) {g : Img} {k : Nat} (hk : ρf k = .img g) (hrw : g.rw = true) {cs : List Value} (hp : cs.all plain1 = true) (ho : ObjRel ρf w1 (.cells cs true) g)
    {v v' : Value} (rv : ∀ ρ1 : Emb, ρ1 h.next = .img g → VRel ρ1 v v') : CallEnd ρ w v ((h.more 1).put h.next (.cells cs true)) (.returned v') w1 := by
  have hb := below_of_ro hro fr
  have wr1 : WRel ρ (h.more 1) w1 := (wr.more hn).below hb
  have hid : (h.more 1).get h.next = none := by
    rw [AH.get_more wr.ok hn]
    cases hg : h.get h.next with
    | none => rfl
    | some o => exact absurd (AH.get_lt hg) (Nat.lt_irrefl _)
  have hlt : h.next < (h.more 1).next := Nat.lt_succ_self _
  have hfresh : w.heap.size ≤ g.b := by
    rcases fr.img k g hk hrw with h1 | ⟨j, g0, h1, h2, _⟩
    · exact h1
    · rw [hro j g0 h1] at h2; cases h2
  have hfree := wr1.free hid
  have hfar : ∀ i g0, ρ i = .img g0 → g0.b ≠ g.b := fun i g0 hi he => by
    have := wr.block hi
    omega
  have ho2 : ObjRel (put1 ρ h.next (.img g)) w1 (.cells cs true) g := by
    obtain ⟨h1, c', e, fz, h2, h3, h4, h5, h6⟩ := ho
    refine ⟨h1, c', e, fz, h2, h3, h4, fun j u hj => ?_, h6⟩
    obtain ⟨u', e1, e2⟩ := h5 j u hj
    have hu := List.all_eq_true.1 hp u (List.mem_of_getElem? hj)
    exact ⟨u', e1, by rw [plain1_eq hu e2]; exact plain1_rel hu⟩
  refine ⟨v', put1 ρ h.next (.img g), rfl, rv _ (put1_same _ _ _), wr1.extend hid hlt (by simp) hfar ho2, ext_put1 hfree _, hb.os, hb.tape, hb.output, hb.size, fun b hb' _ => hb.block b hb', fun i g' hi hr => ?_⟩
  by_cases e : i = h.next
  · subst e
    rw [put1_same] at hi
    cases hi
    exact .inl hfresh
  · rw [put1_ne ρ _ e] at hi
    exact .inr ⟨i, g', hi, hr, rfl⟩
end Go.Ev
end
section
/-! Slices of integers of open length. -/
namespace Go.Ev
open Go.RowKit
section defs
noncomputable section
abbrev intL (n : Nat) (f : Nat → Int) : List Int := (List.range n).map f
abbrev intsO (n : Nat) (f : Nat → Int) : SObj := .arr ⟨false, n⟩ [.int .i64 f] false
abbrev slI (i len : Nat) : SV := .sl i (.c 0) ⟨false, len⟩ 1
def decInts : Nat → List Value → Option (List Int)
  | 0, [] => some []
  | n + 1, .int .i64 k :: l => match decInts n l with
    | some r => some (k :: r)
    | none => none
  | _, _ => none
def intsA (o : Value) (k : List Int → AM Value) : AM Value :=
  match o with
  | .slice none _ _ => k []
  | .slice (some a) n c => bif okAt a && Nat.beq c 1 then .get a.block fun o => bif Nat.ble n 70368744177664 then readA o a.off (Nat.mul n 1) (fun l => match decInts n l with
      | some ops => k ops
      | none => .fail) else .fail
    else .fail
  | _ => .fail
def intsSym (o : SV) (k : List Int → SM SV) : SM SV :=
  match o with
  | .raw (.slice none _ _) => k []
  | .sl b off n c => bif Nat.beq c 1 then .get b fun o => rowS o off n 1 fun r => match r with
      | .lits [] => bif Nat.beq n.n 0 then k [] else .fail
      | .arr m [.int .i64 f] => .node (Nat.ble m.n 70368744177664) (k (intL m.n f)) .fail
      | _ => .fail
    else .fail
  | _ => .fail
def fi (l : List Int) (i : Nat) : Int := l.getD i 0
end
end defs
theorem intL_length (n : Nat) (f : Nat → Int) : (intL n f).length = n := by simp
theorem intL_get (l : List Int) : intL l.length (fi l) = l := by
  apply List.ext_getElem?
  intro i
  rw [List.getElem?_map]
  by_cases h : i < l.length
  · rw [List.getElem?_range h, List.getElem?_eq_getElem h]
    simp [fi, List.getD_eq_getElem?_getD, List.getElem?_eq_getElem h]
  · rw [List.getElem?_eq_none (by simp; omega), List.getElem?_eq_none (by omega)]
    rfl
theorem intL_drop {n : Nat} {f : Nat → Int} {i : Nat} (h : i < n) : (intL n f).drop i = f i :: (intL n f).drop (i + 1) := by
  have hl : i < (intL n f).length := by rw [intL_length]; exact h
  rw [List.drop_eq_getElem_cons hl]
  congr 1
  simp
def cellsOfInt (k : Int) : List Value := [.int .i64 k]
theorem decInts_spec : ∀ (n : Nat) (l : List Value) (ops : List Int), decInts n l = some ops → ops.length = n ∧ l = ops.flatMap cellsOfInt
  | 0, [], ops, h => by simp only [decInts, Option.some.injEq] at h; subst h; exact ⟨rfl, rfl⟩
  | 0, _ :: _, ops, h => by simp [decInts] at h
  | n + 1, l, ops, h => by
    unfold decInts at h
    split at h
    · rename_i hh
      cases hh
    · rename_i k l' heq
      cases heq
      cases hr : decInts n l' with
      | none => rw [hr] at h; cases h
      | some r =>
        rw [hr] at h
        simp only [Option.some.injEq] at h
        subst h
        obtain ⟨h1, h2⟩ := decInts_spec n l' r hr
        exact ⟨by simp [h1], by rw [h2]; rfl⟩
    · cases h
theorem arr_ints (n : Nat) (f : Nat → Int) : arrCells n [.int .i64 f] = (intL n f).flatMap cellsOfInt := by
  unfold arrCells
  rw [List.flatMap_map]
  rfl
theorem decInts_flat : ∀ l : List Int, decInts l.length (l.flatMap cellsOfInt) = some l
  | [] => rfl
  | k :: l => by
    show decInts (l.length + 1) (.int .i64 k :: l.flatMap cellsOfInt) = _
    simp only [decInts, decInts_flat l]
theorem decInts_arr (n : Nat) (f : Nat → Int) : decInts n (arrCells n [.int .i64 f]) = some (intL n f) := by
  have := decInts_flat (intL n f)
  rw [intL_length, ← arr_ints] at this
  exact this
theorem cellsOfInt_plain (l : List Int) : (l.flatMap cellsOfInt).all plain1 = true := by
  induction l with
  | nil => rfl
  | cons o l ih => simp only [List.flatMap_cons, List.all_append, ih, Bool.and_true]; rfl
theorem cellsOfInt_length (l : List Int) : (l.flatMap cellsOfInt).length = l.length * 1 := by
  induction l with
  | nil => rfl
  | cons o r ih => rw [List.flatMap_cons, List.length_append, ih, List.length_cons]; simp [cellsOfInt]; omega
theorem intsO_of (l : List Int) : (intsO l.length (fi l)).den = .cells (l.flatMap cellsOfInt) false := by
  simp only [SObj.den]
  rw [arr_ints, intL_get]
theorem intsSym_hom {k : List Int → SM SV} {k' : List Int → AM Value} (hk : ∀ ops, Hom HV (k ops) (k' ops)) (o : SV) : Hom HV (intsSym o k) (intsA o.den k') := by
  unfold intsSym
  split
  · exact hk []
  · rename_i b off n c
    simp only [SV.den, intsA, okAt, Option.isNone_none, Bool.true_and]
    cases Nat.beq c 1 with
    | false => exact .fail _
    | true =>
      simp only [cond_true]
      refine .get _ _ _ fun o => ?_
      cases hb : Nat.ble n.n 70368744177664 with
      | true =>
        simp only [cond_true]
        refine rowS_hom (fun r hr => ?_) o off
        split
        · refine .bifL fun hz => ?_
          have hz : n.n = 0 := Nat.eq_of_beq_eq_true hz
          rw [hz]
          exact hk []
        · rename_i m a1
          obtain ⟨rfl, _, _⟩ := hr
          simp only [rowDen]
          rw [decInts_arr m.n a1]
          exact .node _ _ _ _ (fun _ => hk _) fun _ => .fail _
        · exact .fail _
      | false =>
        simp only [cond_false]
        have := rowS_hom (R := HV) (k := fun r => match r with
          | .lits [] => bif Nat.beq n.n 0 then k [] else .fail
          | .arr m [.int .i64 f] => .node (Nat.ble m.n 70368744177664) (k (intL m.n f)) .fail
          | _ => .fail) (K' := fun _ => (.fail : AM Value)) (n := n) (size := 1) (fun r hr => by
            split
            · refine .bifL fun hz => ?_
              have hz : n.n = 0 := Nat.eq_of_beq_eq_true hz
              rw [hz] at hb
              cases hb
            · obtain ⟨rfl, _, _⟩ := hr
              exact .node _ _ _ _ (fun h => by rw [hb] at h; cases h) fun _ => .fail _
            · exact .fail _) o off
        rw [readA_fail] at this
        exact this
  · exact .fail _
theorem intsA_run {o : Value} {k : List Int → AM Value} {id : Nat} {h h1 : AH} {v : Value} (e : (intsA o k).run id h = some (v, h1)) :
    (∃ n c, o = .slice none n c ∧ (k []).run id h = some (v, h1)) ∨
    ∃ (r off n : Nat) (d : List Value) (rw0 : Bool) (ops : List Int), o = .slice (some ⟨r, off, none⟩) n 1 ∧ n ≤ 70368744177664 ∧ h.get r = some (.cells d rw0) ∧ ops.length = n ∧ takeCells d off (ops.flatMap cellsOfInt).length = some (ops.flatMap cellsOfInt) ∧ (k ops).run id h = some (v, h1) := by
  unfold intsA at e
  split at e
  · exact .inl ⟨_, _, rfl, e⟩
  · rename_i x n c
    refine .inr ?_
    cases hok : (okAt x && Nat.beq c 1) with
    | false => rw [hok] at e; cases e
    | true =>
      rw [hok] at e
      simp only [cond_true, AM.run] at e
      simp only [Bool.and_eq_true] at hok
      have hc : c = 1 := Nat.eq_of_beq_eq_true hok.2
      subst hc
      obtain ⟨ab, ao, asp⟩ := x
      have hsp : asp = none := by have := hok.1; simpa [okAt] using this
      subst hsp
      cases hg : h.get ab with
      | none => simp only [hg] at e; cases e
      | some oo =>
        simp only [hg] at e
        cases hbn : Nat.ble n 70368744177664 with
        | false => rw [hbn] at e; cases e
        | true =>
          rw [hbn] at e
          simp only [cond_true] at e
          cases oo with
          | amap _ => cases e
          | dead => cases e
          | cells d rw0 =>
            simp only [readA] at e
            cases ht : takeCells d ao (Nat.mul n 1) with
            | none => rw [ht] at e; cases e
            | some l =>
              rw [ht] at e
              simp only at e
              cases hd : decInts n l with
              | none => rw [hd] at e; cases e
              | some ops =>
                rw [hd] at e
                obtain ⟨hl1, hl2⟩ := decInts_spec n l ops hd
                refine ⟨ab, ao, n, d, rw0, ops, rfl, nat_ble hbn, hg, hl1, ?_, e⟩
                rw [← hl2]
                have : l.length = Nat.mul n 1 := by rw [hl2, cellsOfInt_length, hl1]; rfl
                rw [this]
                exact ht
  · cases e
end Go.Ev
end
section
/-! Functions of slices of integers. -/
namespace Go.Ev
open Go.RowKit
noncomputable section
/-- A function of a slice of integers, and of a function. -/
def inA (u : FuncId) (F : List Int → Value) (args : List Value) (_ : Nat) : AM Value :=
  match args with
  | [o, fv] => bif isFn u fv then intsA o fun l => .ret (F l) else .fail
  | _ => .fail
def inSym (u : FuncId) (F : List Int → SV) (args : List SV) (_ : Nat) : SM SV :=
  match args with
  | [o, fv] => bif isFn u fv.den then intsSym o fun l => .ret (F l) else .fail
  | _ => .fail
/-- A function of two slices of integers. -/
def in2A (F : List Int → List Int → Value) (args : List Value) (_ : Nat) : AM Value :=
  match args with
  | [o, o2] => intsA o fun l => intsA o2 fun l2 => .ret (F l l2)
  | _ => .fail
def in2Sym (F : List Int → List Int → SV) (args : List SV) (_ : Nat) : SM SV :=
  match args with
  | [o, o2] => intsSym o fun l => intsSym o2 fun l2 => .ret (F l l2)
  | _ => .fail
end
theorem in_hom {u : FuncId} {F : List Int → SV} {F' : List Int → Value} (h : ∀ l, (F l).den = F' l) : ∀ args id, Hom HV (inSym u F args id) (inA u F' (dens args) id) := by
  intro args id
  unfold inSym inA
  match args with
  | [] => exact .fail _
  | [_] => exact .fail _
  | _ :: _ :: _ :: _ => exact .fail _
  | [o, fv] =>
    simp only [dens]
    cases isFn u fv.den with
    | false => exact .fail _
    | true => exact intsSym_hom (fun l => .ret _ _ (h l).symm) o
theorem in2_hom {F : List Int → List Int → SV} {F' : List Int → List Int → Value} (h : ∀ l l2, (F l l2).den = F' l l2) : ∀ args id, Hom HV (in2Sym F args id) (in2A F' (dens args) id) := by
  intro args id
  unfold in2Sym in2A
  match args with
  | [] => exact .fail _
  | [_] => exact .fail _
  | _ :: _ :: _ :: _ => exact .fail _
  | [o, o2] =>
    simp only [dens]
    exact intsSym_hom (fun l => intsSym_hom (fun l2 => .ret _ _ (h l l2).symm) o2) o
theorem fn_rel {u : FuncId} {ρ ρ2 : Emb} {z' : Value} (hz : VRel ρ (.func (.func u) #[] #[]) z') : VRel ρ2 (SV.den (.func u [] [])) z' := by
  cases hz with
  | func fn a b a' b' q1 q2 =>
    obtain ⟨la'⟩ := a'
    obtain ⟨lb'⟩ := b'
    cases q1
    cases q2
    exact .func _ _ _ _ _ .nil .nil
theorem in_tab {P : Program} {f : FuncId} {u : FuncId} {F : List Int → Value} (hF : ∀ l, plainR (F l) = true)
    (h0 : ∀ ρ w args', (∀ i g, ρ i = .img g → g.rw = false) → WRel ρ (mkH []).den w → VsRel ρ (dens [nilO, .func u [] []]) (Array.toList args') → Calls P f args' w fun e w' => e = .returned (F []) ∧ Below w.heap.size w w')
    (h1 : ∀ n fv ρ w args', n ≤ 70368744177664 → (∀ i g, ρ i = .img g → g.rw = false) → WRel ρ (mkH [intsO n fv]).den w → VsRel ρ (dens [slI 0 n, .func u [] []]) (Array.toList args') →
      Calls P f args' w fun e w' => e = .returned (F (intL n fv)) ∧ Below w.heap.size w w') : TabOK P f (inA u F) := by
  intro ρ hh w args args' v h2 wr ra e
  obtain ⟨hn, e⟩ := tabF_some e
  obtain ⟨la⟩ := args'
  simp only at ra
  have wrm := wr.more hn
  unfold inA at e
  match args, ra, e with
  | [], _, e => cases e
  | [_], _, e => cases e
  | _ :: _ :: _ :: _, _, e => cases e
  | [o, fv], ra, e =>
    simp only at e
    cases hfv : isFn u fv with
    | false => rw [hfv] at e; cases e
    | true =>
      rw [hfv] at e
      simp only [cond_true] at e
      have hfe := isFn_eq hfv
      subst hfe
      cases ra with
      | cons x x' l l' hx ht =>
      cases ht with
      | cons z z' l l' hz ht =>
      cases ht
      rcases intsA_run e with ⟨n, c, rfl, e1⟩ | ⟨r, off, n, d, rw0, ops, rfl, hn1, hg, hl, htk, e1⟩
      · simp only [AM.run, Option.some.injEq, Prod.mk.injEq] at e1
        obtain ⟨rfl, rfl⟩ := e1
        have wc : WRel (subEmbL ρ []) (mkH []).den w := sub_WRelL wrm rfl (by decide) (fun i r off o hi => by simp at hi)
        refine Calls.mono (h0 _ w ⟨[x', z']⟩ (subEmbL_ro ρ []) wc (.cons _ _ _ _ (nil_rel hx) (.cons _ _ _ _ (fn_rel hz) .nil))) ?_
        rintro e w' ⟨rfl, hb⟩
        exact CallEnd.of_below wr hn (hF _) hb
      · simp only [AM.run, Option.some.injEq, Prod.mk.injEq] at e1
        obtain ⟨rfl, rfl⟩ := e1
        have wc := sub_WRel wrm hg htk (cellsOfInt_plain ops) (intsO_of ops)
        have := h1 ops.length (fi ops) _ w ⟨[x', z']⟩ (by omega) (subEmb_ro ρ r off) wc (.cons _ _ _ _ (by rw [← hl] at hx; exact sub_slice wrm hg hx) (.cons _ _ _ _ (fn_rel hz) .nil))
        rw [intL_get] at this
        refine Calls.mono this ?_
        rintro e w' ⟨rfl, hb⟩
        exact CallEnd.of_below wr hn (hF _) hb
theorem in2_tab {P : Program} {f : FuncId} {F : List Int → List Int → Value} (hF : ∀ l l2, plainR (F l l2) = true)
    (h00 : ∀ ρ w args', (∀ i g, ρ i = .img g → g.rw = false) → WRel ρ (mkH []).den w → VsRel ρ (dens [nilO, nilO]) (Array.toList args') → Calls P f args' w fun e w' => e = .returned (F [] []) ∧ Below w.heap.size w w')
    (h01 : ∀ n fv ρ w args', n ≤ 70368744177664 → (∀ i g, ρ i = .img g → g.rw = false) → WRel ρ (mkH [intsO n fv]).den w → VsRel ρ (dens [nilO, slI 0 n]) (Array.toList args') → Calls P f args' w fun e w' => e = .returned (F [] (intL n fv)) ∧ Below w.heap.size w w')
    (h10 : ∀ n fv ρ w args', n ≤ 70368744177664 → (∀ i g, ρ i = .img g → g.rw = false) → WRel ρ (mkH [intsO n fv]).den w → VsRel ρ (dens [slI 0 n, nilO]) (Array.toList args') → Calls P f args' w fun e w' => e = .returned (F (intL n fv) []) ∧ Below w.heap.size w w')
    (h11 : ∀ n fv n2 fv2 ρ w args', n ≤ 70368744177664 → n2 ≤ 70368744177664 → (∀ i g, ρ i = .img g → g.rw = false) → WRel ρ (mkH [intsO n fv, intsO n2 fv2]).den w → VsRel ρ (dens [slI 0 n, slI 1 n2]) (Array.toList args') →
      Calls P f args' w fun e w' => e = .returned (F (intL n fv) (intL n2 fv2)) ∧ Below w.heap.size w w') : TabOK P f (in2A F) := by
  intro ρ hh w args args' v h2 wr ra e
  obtain ⟨hn, e⟩ := tabF_some e
  obtain ⟨la⟩ := args'
  simp only at ra
  have wrm := wr.more hn
  unfold in2A at e
  match args, ra, e with
  | [], _, e => cases e
  | [_], _, e => cases e
  | _ :: _ :: _ :: _, _, e => cases e
  | [o, o2], ra, e =>
    simp only at e
    cases ra with
    | cons x x' l l' hx ht =>
    cases ht with
    | cons y y' l l' hy ht =>
    cases ht
    rcases intsA_run e with ⟨n, c, rfl, e1⟩ | ⟨r, off, n, d, rw0, ops, rfl, hn1, hg, hl, htk, e1⟩
    · rcases intsA_run e1 with ⟨n2, c2, rfl, e2⟩ | ⟨r2, off2, n2, d2, rw2, ops2, rfl, hn2, hg2, hl2, htk2, e2⟩
      · simp only [AM.run, Option.some.injEq, Prod.mk.injEq] at e2
        obtain ⟨rfl, rfl⟩ := e2
        have wc : WRel (subEmbL ρ []) (mkH []).den w := sub_WRelL wrm rfl (by decide) (fun i r off o hi => by simp at hi)
        refine Calls.mono (h00 _ w ⟨[x', y']⟩ (subEmbL_ro ρ []) wc (.cons _ _ _ _ (nil_rel hx) (.cons _ _ _ _ (nil_rel hy) .nil))) ?_
        rintro e w' ⟨rfl, hb⟩
        exact CallEnd.of_below wr hn (hF _ _) hb
      · simp only [AM.run, Option.some.injEq, Prod.mk.injEq] at e2
        obtain ⟨rfl, rfl⟩ := e2
        have wc := sub_WRel wrm hg2 htk2 (cellsOfInt_plain ops2) (intsO_of ops2)
        have := h01 ops2.length (fi ops2) _ w ⟨[x', y']⟩ (by omega) (subEmb_ro ρ r2 off2) wc (.cons _ _ _ _ (nil_rel hx) (.cons _ _ _ _ (by rw [← hl2] at hy; exact sub_slice wrm hg2 hy) .nil))
        rw [intL_get] at this
        refine Calls.mono this ?_
        rintro e w' ⟨rfl, hb⟩
        exact CallEnd.of_below wr hn (hF _ _) hb
    · rcases intsA_run e1 with ⟨n2, c2, rfl, e2⟩ | ⟨r2, off2, n2, d2, rw2, ops2, rfl, hn2, hg2, hl2, htk2, e2⟩
      · simp only [AM.run, Option.some.injEq, Prod.mk.injEq] at e2
        obtain ⟨rfl, rfl⟩ := e2
        have wc := sub_WRel wrm hg htk (cellsOfInt_plain ops) (intsO_of ops)
        have := h10 ops.length (fi ops) _ w ⟨[x', y']⟩ (by omega) (subEmb_ro ρ r off) wc (.cons _ _ _ _ (by rw [← hl] at hx; exact sub_slice wrm hg hx) (.cons _ _ _ _ (nil_rel hy) .nil))
        rw [intL_get] at this
        refine Calls.mono this ?_
        rintro e w' ⟨rfl, hb⟩
        exact CallEnd.of_below wr hn (hF _ _) hb
      · simp only [AM.run, Option.some.injEq, Prod.mk.injEq] at e2
        obtain ⟨rfl, rfl⟩ := e2
        have wc : WRel (subEmbL ρ [(r, off), (r2, off2)]) (mkH [intsO ops.length (fi ops), intsO ops2.length (fi ops2)]).den w := by
          refine sub_WRelL wrm rfl (by simp [most]) fun i r' off' o hi ho => ?_
          match i, hi, ho with
          | 0, hi, ho =>
            simp only [List.getElem?_cons_zero, Option.some.injEq, Prod.mk.injEq] at hi ho
            obtain ⟨rfl, rfl⟩ := hi
            subst ho
            exact ⟨d, _, rw0, hg, htk, cellsOfInt_plain ops, intsO_of ops⟩
          | 1, hi, ho =>
            simp only [List.getElem?_cons_succ, List.getElem?_cons_zero, Option.some.injEq, Prod.mk.injEq] at hi ho
            obtain ⟨rfl, rfl⟩ := hi
            subst ho
            exact ⟨d2, _, rw2, hg2, htk2, cellsOfInt_plain ops2, intsO_of ops2⟩
          | i + 2, hi, ho => simp at hi
        have := h11 ops.length (fi ops) ops2.length (fi ops2) _ w ⟨[x', y']⟩ (by omega) (by omega) (subEmbL_ro ρ _) wc
          (.cons _ _ _ _ (by rw [← hl] at hx; exact sub_sliceL wrm (i := 0) rfl hg hx) (.cons _ _ _ _ (by rw [← hl2] at hy; exact sub_sliceL wrm (i := 1) rfl hg2 hy) .nil))
        rw [intL_get, intL_get] at this
        refine Calls.mono this ?_
        rintro e w' ⟨rfl, hb⟩
        exact CallEnd.of_below wr hn (hF _ _) hb
end Go.Ev
end
section
/-! Slices of integers among the arguments. -/
namespace Go.Ev
open Go.ChangeShapes Go.WideShapes Go.RowKit
/-- A slice of integers, in a world. -/
def IntsW (w : World) (o : Value) (l : List Int) (s : Slot) : Prop :=
  ∃ (a : Addr) (len cap : Nat), o = .slice (some a) len cap ∧ l.length = len ∧ len ≤ cap ∧ len ≤ 70368744177664 ∧
    ((s = .dead ∧ l = []) ∨ ∃ c e fz, s = .img ⟨a.block, a.off, c.size, false⟩ ∧ a.spot = none ∧ w.heap[a.block]? = some (.cells c e fz) ∧ a.off + cap * 1 ≤ c.size ∧ ∀ j v, (l.flatMap cellsOfInt)[j]? = some v → c[a.off + j]? = some v)
theorem IntsW.ro {w : World} {o : Value} {l : List Int} {s : Slot} (h : IntsW w o l s) : ∀ g, s = .img g → g.rw = false := by
  intro g hg
  obtain ⟨a, len, cap, _, _, _, _, ⟨h1, _⟩ | ⟨c, e, fz, h1, _⟩⟩ := h
  · rw [h1] at hg; cases hg
  · rw [h1] at hg; cases hg; rfl
theorem IntsW.len {w : World} {o : Value} {l : List Int} {s : Slot} (h : IntsW w o l s) : l.length ≤ 70368744177664 := by
  obtain ⟨a, len, cap, _, h1, _, h2, _⟩ := h
  omega
theorem IntsW.at {w : World} {o : Value} {l : List Int} {s : Slot} (h : IntsW w o l s) (ρ : Emb) : (intsO l.length (fi l)).den ≠ .dead ∧ ObjAt ρ w s (intsO l.length (fi l)).den := by
  rw [intsO_of]
  refine ⟨(fun h => by cases h), ?_⟩
  obtain ⟨a, len, cap, _, h1, h2, _, ⟨h3, h4⟩ | ⟨c, e, fz, h3, h4, h5, h6, h7⟩⟩ := h
  · exact .inr ⟨h3, by rw [h4]; rfl⟩
  · refine .inl ⟨_, h3, rfl, c, e, fz, h5, rfl, ?_, fun j v hj => ⟨v, h7 j v hj, plain1_rel (List.all_eq_true.1 (cellsOfInt_plain l) v (List.mem_of_getElem? hj))⟩, fun hf => by cases hf⟩
    rw [cellsOfInt_length]
    simp only
    omega
theorem IntsW.rel {w : World} {o : Value} {l : List Int} {s : Slot} (h : IntsW w o l s) {ρ : Emb} {i : Nat} (hi : ρ i = s) : VRel ρ (SV.den (slI i l.length)) o := by
  obtain ⟨a, len, cap, rfl, h1, h2, _, h3⟩ := h
  subst h1
  show VRel ρ (.slice (some ⟨i, 0, none⟩) l.length 1) _
  refine .sl _ a _ _ cap ⟨?_, rfl, h2, fun g hg => ?_⟩
  · show ρ i ≠ .free
    rw [hi]
    rcases h3 with ⟨h3, _⟩ | ⟨c, e, fz, h3, _⟩ <;> rw [h3] <;> simp
  · have hg : ρ i = .img g := hg
    rw [hi] at hg
    rcases h3 with ⟨h3, _⟩ | ⟨c, e, fz, h3, h4, h5, h6, _⟩
    · rw [h3] at hg; cases hg
    · rw [h3] at hg
      cases hg
      exact .inr ⟨h4, rfl, rfl, h6⟩
theorem flat_getI : ∀ (l : List Int) (j : Nat) (v : Value), (l.flatMap cellsOfInt)[j]? = some v → ∃ k, l[j]? = some k ∧ v = .int .i64 k
  | [], j, v, h => by simp at h
  | o :: l, 0, v, h => by
    simp only [List.flatMap_cons, cellsOfInt, List.cons_append, List.nil_append, List.getElem?_cons_zero, Option.some.injEq] at h
    exact ⟨o, rfl, h.symm⟩
  | o :: l, j + 1, v, h => by
    simp only [List.flatMap_cons, cellsOfInt, List.cons_append, List.nil_append, List.getElem?_cons_succ] at h
    obtain ⟨k, h1, h2⟩ := flat_getI l j v h
    exact ⟨k, by simpa using h1, h2⟩
section
variable {H : Type} {enc : TypeId × Value → H} {P : Program} {w : World} {base : Nat} {held : Bool}
/-- A slice of integers, read. -/
theorem open_ints {t e : TypeId} (ht : P.underlying t = some (.slice e)) (he : P.underlying e = some (.int .i64)) (hc1 : P.cellsOf e = 1) (hb8 : P.bytesOf e = 8) {n : Nat} {c : Value} {x : DataW H × List MemPlace} (h : DataW.trod enc P w base (fun _ => true) held n t [c] = some x)
    (hz : ∀ k ∈ x.1.weights P t, k ≤ reachBytes) : ∃ l : List Int, (c = .slice none 0 0 ∧ l = []) ∨ ∃ s, IntsW w c l s := by
  rcases Go.Deep.open_slice ht h with ⟨h0, _⟩ | ⟨a, len, cap, m, n', D, Pl, hcs, _, hl, _, hm, hx, hi⟩
  · simp only [List.cons.injEq, and_true] at h0
    exact ⟨[], .inl ⟨h0, rfl⟩⟩
  · simp only [List.cons.injEq, and_true] at hcs
    simp only [if_true] at hm
    subst hm
    have key : ∀ i, ∃ k : Int, i < m → w.cell? (a.add (i * 1)) = some (.int .i64 k) := by
      intro i
      by_cases him : i < m
      · obtain ⟨cs', h1, h2⟩ := hi i him
        rw [hc1] at h1
        obtain ⟨_, hl1, hcell⟩ := World.cells?_some h1
        obtain ⟨k, e0, _, _⟩ := DataW.trod_int he h2
        subst e0
        have h0 := hcell 0 (by decide)
        rw [Go.Deep.add_add] at h0
        exact ⟨k, fun _ => by simpa using h0⟩
      · exact ⟨0, fun h => absurd h him⟩
    obtain ⟨f, hf⟩ := Classical.axiomOfChoice key
    subst hx
    simp only [DataW.weights, ht] at hz
    have hlen : (len + (m - len)) * 8 ≤ reachBytes := by
      have := hz _ (List.mem_cons_self ..)
      rw [hb8] at this
      simpa using this
    have hr : reachBytes < 140737488355328 := reachBytes_lt
    refine ⟨(List.range len).map f, .inr ?_⟩
    · by_cases h0 : m = 0
      · have : len = 0 := by omega
        subst this
        exact ⟨.dead, a, 0, m, hcs, rfl, hl, by omega, .inl ⟨rfl, rfl⟩⟩
      · have hc0 := (hf 0 (by omega))
        have hspot : a.spot = none := by simpa [Addr.add] using World.cell?_spot hc0
        obtain ⟨b, o, sp⟩ := a
        simp only at hspot
        subst hspot
        rw [add_none] at hc0
        have hb : ∃ c e fz, w.heap[b]? = some (.cells c e fz) := by
          unfold World.cell? at hc0
          simp only at hc0
          split at hc0
          · rename_i c e fz hq
            exact ⟨c, e, fz, hq⟩
          · cases hc0
        obtain ⟨c', e', fz, hb⟩ := hb
        have hcell : ∀ i, i < m → c'[o + i]? = some (.int .i64 (f i)) := by
          intro i him
          have := hf i him
          rw [add_none, cell_of hb] at this
          simpa using this
        refine ⟨.img ⟨b, o, c'.size, false⟩, ⟨b, o, none⟩, len, m, hcs, by simp, hl, by omega, .inr ⟨c', e', fz, rfl, rfl, hb, ?_, fun j v hj => ?_⟩⟩
        · have := hcell (m - 1) (by omega)
          have hlt : o + (m - 1) < c'.size := by
            rcases Nat.lt_or_ge (o + (m - 1)) c'.size with h | h
            · exact h
            · rw [Array.getElem?_eq_none h] at this; cases this
          simp only
          omega
        · obtain ⟨k, h1, rfl⟩ := flat_getI _ j v hj
          rw [List.getElem?_map] at h1
          have hil : j < len := by
            rcases Nat.lt_or_ge j len with h | h
            · exact h
            · rw [List.getElem?_eq_none (by simpa using h)] at h1; cases h1
          rw [List.getElem?_range hil] at h1
          simp only [Option.map_some, Option.some.injEq] at h1
          subst h1
          exact hcell j (by omega)
theorem open_intsV {t e : TypeId} (ht : P.underlying t = some (.slice e)) (he : P.underlying e = some (.int .i64)) (hc1 : P.cellsOf e = 1) (hb8 : P.bytesOf e = 8) {v : Value} {d : DataW H} {p : List MemPlace} {b0 : Nat}
    (hv : Value.okWide P w .any b0 t v) (h : DataW.Trod enc P w base (fun _ => true) held t v d p) (hz : ∀ k ∈ d.weights P t, k ≤ reachBytes) : ∃ l : List Int, (v = .slice none 0 0 ∧ l = []) ∨ ∃ s, IntsW w v l s := by
  unfold Value.okWide at hv
  rw [ht] at hv
  obtain ⟨fuel, hf⟩ := h
  have hvc : v.cells.toList = [v] := by
    unfold Cell.okWide Cell.ok at hv
    rw [ht] at hv
    cases v <;> first
      | rfl
      | (exfalso; simp_all)
  rw [hvc] at hf
  exact open_ints ht he hc1 hb8 hf hz
end
end Go.Ev
end
section
/-! Scripts cut into pieces: rows of ops that grow, and the plain law. -/
namespace Go.Ev
open Go
/-- Where the first number below one is. -/
def lowQ (i : Int) : List Int → Int
  | [] => -1
  | k :: l => if k < 1 then i else lowQ (i + 1) l
noncomputable section
/-- One row more. -/
def apI (M : Nat) (K : Nat → Int) (row : List SV) (j : Nat) : Nat → Int := fun i => bif Nat.blt i M then K i else valInt (cellAt row 4 j (i - M))
def apB (M : Nat) (B : Nat → ByteArray) (row : List SV) (j : Nat) : Nat → ByteArray := fun i => bif Nat.blt i M then B i else valStr (cellAt row 4 j (i - M))
abbrev outA (M : Nat) (k s : Nat → Int) (b : Nat → ByteArray) (n : Nat → Int) : SObj := .arr ⟨false, M⟩ (opFs k s b n) true
abbrev outL (L : List OpD) : SObj := outA L.length (fk L) (fs L) (fb L) (fn L)
abbrev slA (i M : Nat) : SV := .sl i (.c 0) ⟨false, M⟩ 4
abbrev apO (M : Nat) (k s : Nat → Int) (b : Nat → ByteArray) (n : Nat → Int) (row : List SV) : SObj := .arr ⟨false, M + 1⟩ [.int .i64 (apI M k row 0), .int .i64 (apI M s row 1), .str (apB M b row 2), .int .i64 (apI M n row 3)] true
abbrev opRow (o : OpD) (l : Bool) : List SV := [.int .i64 false o.k, .int .i64 false o.s, .str false o.b, .int .i64 l o.n]
/-- How many bytes the next piece has. -/
def cutN (c : List Int) (x : Nat) (t : ByteArray) : Nat := max 1 (min (c.getD (x % c.length) 1).toNat t.size)
def frag1 (c : List Int) (k s : Int) (x : Nat) (t : ByteArray) : List OpD × Nat :=
  if h : t.size = 0 then ([], x) else
    let r := frag1 c k s (x + 1) (t.extract (cutN c x t) t.size)
    (⟨k, s, t.extract 0 (cutN c x t), 0⟩ :: r.1, r.2)
termination_by t.size
decreasing_by
  have : 1 ≤ cutN c x t := Nat.le_max_left _ _
  rw [ByteArray.size_extract]
  omega
/-- The ops of a script that is cut. -/
def fragQ (c : List Int) : Nat → List OpD → List OpD
  | _, [] => []
  | x, o :: l => if c = [] ∨ o.b.size = 0 then o :: fragQ c x l else (frag1 c o.k o.s x o.b).1 ++ fragQ c (frag1 c o.k o.s x o.b).2 l
abbrev zSet : SetD := ⟨0, false, 0, false, 0, false, 0, 0, 0, 0, 0⟩
/-- What comes of a cut: a setup, ops, an error. -/
def fragR (chk : SetD → List OpD → Int) (g : SetD) (ops : List OpD) (c : List Int) : SetD × List OpD × Int :=
  if chk g ops ≠ 0 then (zSet, [], chk g ops) else if 0 ≤ lowQ 0 c then (zSet, [], 3) else if 400 < (fragQ c 0 ops).length then (zSet, [], 6) else (g, fragQ c 0 ops, 0)
end
theorem frag1_nil (c : List Int) (k s : Int) (x : Nat) (t : ByteArray) (h : t.size = 0) : frag1 c k s x t = ([], x) := by
  rw [frag1]
  simp [h]
theorem frag1_cons (c : List Int) (k s : Int) (x : Nat) (t : ByteArray) (h : t.size ≠ 0) : frag1 c k s x t = (⟨k, s, t.extract 0 (cutN c x t), 0⟩ :: (frag1 c k s (x + 1) (t.extract (cutN c x t) t.size)).1, (frag1 c k s (x + 1) (t.extract (cutN c x t) t.size)).2) := by
  conv => lhs; rw [frag1]
  simp [h]
theorem lowQ_neg : ∀ (l : List Int) (i : Int), 0 ≤ i → lowQ i l < 0 → ∀ v ∈ l, 1 ≤ v
  | [], _, _, _, v, hv => by cases hv
  | k :: l, i, hi, h, v, hv => by
    unfold lowQ at h
    by_cases hk : k < 1
    · rw [if_pos hk] at h; omega
    · rw [if_neg hk] at h
      rcases List.mem_cons.1 hv with rfl | hv
      · omega
      · exact lowQ_neg l (i + 1) (by omega) h v hv
theorem cells_app (L : List OpD) (o : OpD) (l : Bool) : (apO L.length (fk L) (fs L) (fb L) (fn L) (opRow o l)).den = (outL (L ++ [o])).den := by
  have h1 : (outL (L ++ [o])).den = .cells ((L ++ [o]).flatMap cellsOfOp) true := by
    simp only [SObj.den]
    rw [arr_ops, opsL_get]
  rw [h1]
  simp only [SObj.den]
  congr 1
  rw [show ([.int .i64 (apI L.length (fk L) (opRow o l) 0), .int .i64 (apI L.length (fs L) (opRow o l) 1), .str (apB L.length (fb L) (opRow o l) 2), .int .i64 (apI L.length (fn L) (opRow o l) 3)] : List SF) = opFs (apI L.length (fk L) (opRow o l) 0) (apI L.length (fs L) (opRow o l) 1) (apB L.length (fb L) (opRow o l) 2) (apI L.length (fn L) (opRow o l) 3) from rfl, arr_ops]
  congr 1
  apply List.ext_getElem?
  intro i
  rw [List.getElem?_map]
  by_cases hi : i < L.length
  · rw [List.getElem?_range (by omega), Option.map_some, List.getElem?_append_left hi, List.getElem?_eq_getElem hi]
    have hb := blt_of hi
    simp only [apI, apB, hb, cond_true, fk, fs, fb, fn, List.getD_eq_getElem?_getD, List.getElem?_eq_getElem hi, Option.getD_some]
  · by_cases he : i = L.length
    · subst he
      rw [List.getElem?_range (by omega), Option.map_some, List.getElem?_append_right (Nat.le_refl _), Nat.sub_self]
      have hb := blt_not (Nat.lt_irrefl L.length)
      simp only [apI, apB, hb, cond_false, Nat.sub_self]
      rfl
    · rw [List.getElem?_eq_none (by simp; omega), List.getElem?_eq_none (by simp; omega)]
      rfl
theorem cells_one (o : OpD) (l : Bool) : (SObj.cells (opRow o l) true).den = (outL [o]).den := by
  have h1 : (outL [o]).den = .cells (([o] : List OpD).flatMap cellsOfOp) true := by
    simp only [SObj.den]
    rw [arr_ops, opsL_get]
  rw [h1]
  rfl
end Go.Ev
end
section
/-! Functions of a script and of integers that give a new script. -/
namespace Go.Ev
open Go.RowKit
noncomputable section
abbrev resS (g : SetD) (s : SV) (e : Int) : SV := .tuple [scrS g s, .int .i64 false e]
def newScr (id : Nat) (r : SetD × List OpD × Int) : AM Value :=
  match r.2.1 with
  | [] => .ret (resS r.1 nilO r.2.2).den
  | o :: l => .new (outL (o :: l)).den (.ret (resS r.1 (slA id (l.length + 1)) r.2.2).den)
def newScrS (id : Nat) (r : SetD × List OpD × Int) : SM SV :=
  .node r.2.1.isEmpty (.ret (resS r.1 nilO r.2.2)) (.new (outL r.2.1) (.ret (resS r.1 (slA id r.2.1.length) r.2.2)))
def frA (G : SetD → List OpD → Bool) (R : SetD → List OpD → List Int → SetD × List OpD × Int) (args : List Value) (id : Nat) : AM Value :=
  match args with
  | [a, o2] => match scrOf a with
    | some (g, o) => opsA o fun ops => intsA o2 fun c => bif G g ops then newScr id (R g ops c) else .fail
    | none => .fail
  | _ => .fail
def frS (G : SetD → List OpD → Bool) (R : SetD → List OpD → List Int → SetD × List OpD × Int) (args : List SV) (id : Nat) : SM SV :=
  match args with
  | [a, o2] => match scrOfS a with
    | some (g, o) => opsSym o fun ops => intsSym o2 fun c => .node (G g ops) (newScrS id (R g ops c)) .fail
    | none => .fail
  | _ => .fail
end
theorem newScr_hom (id : Nat) (r : SetD × List OpD × Int) : Hom HV (newScrS id r) (newScr id r) := by
  obtain ⟨g, l, e⟩ := r
  cases l with
  | nil => exact .node _ _ _ _ (fun _ => .ret _ _ rfl) fun h => by cases h
  | cons o l => exact .node _ _ _ _ (fun h => by cases h) fun _ => .new _ _ _ _ rfl (.ret _ _ rfl)
theorem fr_hom {G : SetD → List OpD → Bool} {R : SetD → List OpD → List Int → SetD × List OpD × Int} : ∀ args id, Hom HV (frS G R args id) (frA G R (dens args) id) := by
  intro args id
  unfold frS frA
  match args with
  | [] => exact .fail _
  | [_] => exact .fail _
  | _ :: _ :: _ :: _ => exact .fail _
  | [a, o2] =>
    simp only [dens]
    cases ha : scrOfS a with
    | none => exact .fail _
    | some p =>
      obtain ⟨g, o⟩ := p
      rw [(scrOfS_den ha).1]
      refine opsSym_hom (fun ops => intsSym_hom (fun c => ?_) o2) o
      refine .node _ _ _ _ (fun hg => ?_) fun _ => .fail _
      rw [hg]
      exact newScr_hom id _
/-- How such a call ends. -/
def FrEnd (ρc : Emb) (w : World) (r : SetD × List OpD × Int) : Ending → World → Prop := fun e w' => ∃ v' ρf, e = .returned v' ∧ Frame1 ρc w ρf w' ∧
  ((r.2.1 = [] ∧ VRel ρf (resS r.1 nilO r.2.2).den v') ∨ ∃ k g, ρf k = .img g ∧ g.rw = true ∧ r.2.1 ≠ [] ∧ ObjRel ρf w' (outL r.2.1).den g ∧ VRel ρf (resS r.1 (slA k r.2.1.length) r.2.2).den v')
theorem scr_arg {ρ : Emb} {g : SetD} {o : Value} {x : Value} (h : VRel ρ (.agg (dens g.sv ++ [o]).toArray) x) : ∃ o', x = .agg (dens g.sv ++ [o']).toArray ∧ VRel ρ o o' := by
  cases h with
  | agg y y' hr =>
    obtain ⟨ta, tv, e1, e2, e3⟩ := hr.last
    have e4 := plains_eq _ _ (set_plain g) e2
    subst e4
    exact ⟨tv, by congr 1; apply Array.toList_inj.1; rw [e1], e3⟩
theorem scrS_den (g : SetD) (s : SV) : (scrS g s).den = .agg (dens g.sv ++ [s.den]).toArray := by
  show Value.agg (dens (g.sv ++ [s])).toArray = _
  congr 2
theorem sl_rebase {ρf ρ1 : Emb} {k id : Nat} {g : Img} (hk : ρf k = .img g) (h1 : ρ1 id = .img g) {n s : Nat} {v' : Value} (r : VRel ρf (.slice (some ⟨k, 0, none⟩) n s) v') : VRel ρ1 (.slice (some ⟨id, 0, none⟩) n s) v' := by
  cases r with
  | sl a a' len c cap' hr =>
    refine .sl _ a' _ _ cap' ⟨?_, rfl, hr.2.2.1, fun g1 hg1 => ?_⟩
    · show ρ1 id ≠ _
      rw [h1]
      simp
    · have hg1 : ρ1 id = .img g1 := hg1
      rw [h1] at hg1
      cases hg1
      exact hr.2.2.2 g hk
theorem res_rebase {ρf ρ1 : Emb} {k id : Nat} {g : Img} (hk : ρf k = .img g) (h1 : ρ1 id = .img g) {gs : SetD} {n : Nat} {e : Int} {v' : Value} (r : VRel ρf (resS gs (slA k n) e).den v') : VRel ρ1 (resS gs (slA id n) e).den v' := by
  cases r with
  | tuple y y' hr =>
    have hr : VsRel ρf [(scrS gs (slA k n)).den, .int .i64 e] y'.toList := hr
    obtain ⟨l'⟩ := y'
    simp only at hr
    cases hr with
    | cons a a' m m' ha hm =>
    cases hm with
    | cons b b' m m' hb hm =>
    cases hm
    cases hb
    rw [scrS_den] at ha
    obtain ⟨o', rfl, ho⟩ := scr_arg ha
    refine .tuple _ _ ?_
    show VsRel ρ1 [(scrS gs (slA id n)).den, .int .i64 e] _
    exact .cons _ _ _ _ (scrW_rel (sl_rebase hk h1 ho)) (.cons _ _ _ _ (.int _ _) .nil)
theorem outL_den (L : List OpD) : (outL L).den = .cells (L.flatMap cellsOfOp) true := by
  simp only [SObj.den]
  rw [arr_ops, opsL_get]
theorem fr_end {ρ ρc : Emb} {h h1 : AH} {w w1 : World} {e : Ending} {r : SetD × List OpD × Int} {v : Value} (wr : WRel ρ h w) (hn : h.next + 1 ≤ most) (hro : ∀ i g, ρc i = .img g → g.rw = false) (hE : FrEnd ρc w r e w1)
    (hr : (newScr h.next r).run h.next (h.more 1) = some (v, h1)) : CallEnd ρ w v h1 e w1 := by
  obtain ⟨v', ρf, rfl, fr, hE⟩ := hE
  obtain ⟨gs, l, er⟩ := r
  rcases hE with ⟨h0, rv⟩ | ⟨k, g, hk, hrw, hne, ho, rv⟩
  · simp only at h0
    subst h0
    simp only [newScr, AM.run, Option.some.injEq, Prod.mk.injEq] at hr
    obtain ⟨rfl, rfl⟩ := hr
    exact CallEnd.plain wr hn hro rfl rv fr
  · simp only at hne ho rv
    cases l with
    | nil => exact absurd rfl hne
    | cons o l =>
      simp only [newScr, AM.run] at hr
      cases hg : (h.more 1).get h.next with
      | some _ => rw [hg] at hr; cases hr
      | none =>
        rw [hg] at hr
        simp only at hr
        cases hb : Nat.blt h.next (h.more 1).next with
        | false => rw [hb] at hr; cases hr
        | true =>
          rw [hb] at hr
          simp only [cond_true, Option.some.injEq, Prod.mk.injEq] at hr
          obtain ⟨rfl, rfl⟩ := hr
          rw [outL_den] at ho ⊢
          exact CallEnd.newObj wr hn hro fr hk hrw (cellsOfOp_plain _) ho fun ρ1 h1 => res_rebase hk h1 rv
theorem fr_tab {P : Program} {f : FuncId} {G : SetD → List OpD → Bool} {R : SetD → List OpD → List Int → SetD × List OpD × Int}
    (h00 : ∀ g ρ w args', G g [] = true → (∀ i g, ρ i = .img g → g.rw = false) → WRel ρ (mkH []).den w → VsRel ρ (dens [scrS g nilO, nilO]) (Array.toList args') → Calls P f args' w (FrEnd ρ w (R g [] [])))
    (h01 : ∀ g m fv ρ w args', m ≤ 70368744177664 → G g [] = true → (∀ i g, ρ i = .img g → g.rw = false) → WRel ρ (mkH [intsO m fv]).den w → VsRel ρ (dens [scrS g nilO, slI 0 m]) (Array.toList args') → Calls P f args' w (FrEnd ρ w (R g [] (intL m fv))))
    (h10 : ∀ g len k s b n ρ w args', len ≤ 70368744177664 → G g (opsL len k s b n) = true → (∀ i g, ρ i = .img g → g.rw = false) → WRel ρ (mkH [opsO len k s b n]).den w → VsRel ρ (dens [scrS g (slO len), nilO]) (Array.toList args') → Calls P f args' w (FrEnd ρ w (R g (opsL len k s b n) [])))
    (h11 : ∀ g len k s b n m fv ρ w args', len ≤ 70368744177664 → m ≤ 70368744177664 → G g (opsL len k s b n) = true → (∀ i g, ρ i = .img g → g.rw = false) → WRel ρ (mkH [opsO len k s b n, intsO m fv]).den w → VsRel ρ (dens [scrS g (slO len), slI 1 m]) (Array.toList args') →
      Calls P f args' w (FrEnd ρ w (R g (opsL len k s b n) (intL m fv)))) : TabOK P f (frA G R) := by
  intro ρ hh w args args' v h2 wr ra e
  obtain ⟨hn, e⟩ := tabF_some e
  obtain ⟨la⟩ := args'
  simp only at ra
  have wrm := wr.more hn
  unfold frA at e
  match args, ra, e with
  | [], _, e => cases e
  | [_], _, e => cases e
  | _ :: _ :: _ :: _, _, e => cases e
  | [a, o2], ra, e =>
    simp only at e
    cases ha : scrOf a with
    | none => rw [ha] at e; cases e
    | some p =>
      obtain ⟨g, o⟩ := p
      rw [ha] at e
      simp only at e
      have hv := scrOf_spec ha
      subst hv
      cases ra with
      | cons x x' l l' hx ht =>
      cases ht with
      | cons y y' l l' hy ht =>
      cases ht
      obtain ⟨o', rfl, ho'⟩ := scr_arg hx
      clear hx
      have fin : ∀ {ops : List OpD} {c : List Int} {ρc : Emb}, (∀ i g, ρc i = .img g → g.rw = false) → (bif G g ops then newScr hh.next (R g ops c) else .fail : AM Value).run hh.next (hh.more 1) = some (v, h2) → (G g ops = true → Calls P f ⟨[.agg (dens g.sv ++ [o']).toArray, y']⟩ w (FrEnd ρc w (R g ops c))) →
          Calls P f ⟨[.agg (dens g.sv ++ [o']).toArray, y']⟩ w (CallEnd ρ w v h2) := by
        intro ops c ρc hro hrun hc
        cases hG : G g ops with
        | false => rw [hG] at hrun; cases hrun
        | true =>
          rw [hG] at hrun
          exact (hc hG).mono fun e w1 hE => fr_end wr hn hro hE hrun
      rcases opsA_run e with ⟨n, c, rfl, e1⟩ | ⟨r, off, n, d, rw0, ops, rfl, hn1, hg, hl, htk, e1⟩
      · rcases intsA_run e1 with ⟨n2, c2, rfl, e2⟩ | ⟨r2, off2, n2, d2, rw2, is2, rfl, hn2, hg2, hl2, htk2, e2⟩
        · have wc : WRel (subEmbL ρ []) (mkH []).den w := sub_WRelL wrm rfl (by decide) (fun i r off o hi => by simp at hi)
          refine fin (subEmbL_ro ρ []) e2 fun hG => ?_
          exact h00 g _ w _ hG (subEmbL_ro ρ []) wc (.cons _ _ _ _ (scrW_rel (nil_rel ho')) (.cons _ _ _ _ (nil_rel hy) .nil))
        · have wc := sub_WRel wrm hg2 htk2 (cellsOfInt_plain is2) (intsO_of is2)
          refine fin (subEmb_ro ρ r2 off2) e2 fun hG => ?_
          have := h01 g is2.length (fi is2) _ w ⟨[.agg (dens g.sv ++ [o']).toArray, y']⟩ (by omega) hG (subEmb_ro ρ r2 off2) wc (.cons _ _ _ _ (scrW_rel (nil_rel ho')) (.cons _ _ _ _ (by rw [← hl2] at hy; exact sub_slice wrm hg2 hy) .nil))
          rw [intL_get] at this
          exact this
      · rcases intsA_run e1 with ⟨n2, c2, rfl, e2⟩ | ⟨r2, off2, n2, d2, rw2, is2, rfl, hn2, hg2, hl2, htk2, e2⟩
        · have wc := sub_WRel wrm hg htk (cellsOfOp_plain ops) (opsO_of ops)
          refine fin (subEmb_ro ρ r off) e2 fun hG => ?_
          have := h10 g ops.length (fk ops) (fs ops) (fb ops) (fn ops) _ w ⟨[.agg (dens g.sv ++ [o']).toArray, y']⟩ (by omega) (by rw [opsL_get]; exact hG) (subEmb_ro ρ r off) wc (.cons _ _ _ _ (scrW_rel (by rw [← hl] at ho'; exact sub_slice wrm hg ho')) (.cons _ _ _ _ (nil_rel hy) .nil))
          rw [opsL_get] at this
          exact this
        · have wc : WRel (subEmbL ρ [(r, off), (r2, off2)]) (mkH [opsO ops.length (fk ops) (fs ops) (fb ops) (fn ops), intsO is2.length (fi is2)]).den w := by
            refine sub_WRelL wrm rfl (by simp [most]) fun i r' off' o hi ho => ?_
            match i, hi, ho with
            | 0, hi, ho =>
              simp only [List.getElem?_cons_zero, Option.some.injEq, Prod.mk.injEq] at hi ho
              obtain ⟨rfl, rfl⟩ := hi
              subst ho
              exact ⟨d, _, rw0, hg, htk, cellsOfOp_plain ops, opsO_of ops⟩
            | 1, hi, ho =>
              simp only [List.getElem?_cons_succ, List.getElem?_cons_zero, Option.some.injEq, Prod.mk.injEq] at hi ho
              obtain ⟨rfl, rfl⟩ := hi
              subst ho
              exact ⟨d2, _, rw2, hg2, htk2, cellsOfInt_plain is2, intsO_of is2⟩
            | i + 2, hi, ho => simp at hi
          refine fin (subEmbL_ro ρ [(r, off), (r2, off2)]) e2 fun hG => ?_
          have := h11 g ops.length (fk ops) (fs ops) (fb ops) (fn ops) is2.length (fi is2) _ w ⟨[.agg (dens g.sv ++ [o']).toArray, y']⟩ (by omega) (by omega) (by rw [opsL_get]; exact hG) (subEmbL_ro ρ _) wc
            (.cons _ _ _ _ (scrW_rel (by rw [← hl] at ho'; exact sub_sliceL wrm (i := 0) rfl hg ho')) (.cons _ _ _ _ (by rw [← hl2] at hy; exact sub_sliceL wrm (i := 1) rfl hg2 hy) .nil))
          rw [opsL_get, intL_get] at this
          exact this
end Go.Ev
end
section
/-! A text that is read: the reader is used up, a script comes, or a panic. -/
namespace Go.Ev
open Go.RowKit
noncomputable section
/-- What a text says: what is wrong with it, a setup, ops. -/
abbrev ParR := Int × SetD × List OpD
def rdK (tS : TypeId) (ab id : Nat) (r : ParR) : AM (Bool × Value) :=
  bif r.1 == 0 then
    (match r.2.2 with
    | [] => .kill ab (.ret (true, (scrS r.2.1 nilO).den))
    | o :: l => .kill ab (.new (outL (o :: l)).den (.ret (true, (scrS r.2.1 (slA id (l.length + 1))).den))))
  else .kill ab (.ret (false, .iface tS (.agg #[.int .i64 r.1])))
def rdKS (tS : TypeId) (ab id : Nat) (r : ParR) : SM (Bool × SV) :=
  .node (r.1 == 0) (.node r.2.2.isEmpty (.kill ab (.ret (true, scrS r.2.1 nilO))) (.kill ab (.new (outL r.2.2) (.ret (true, scrS r.2.1 (slA id r.2.2.length))))))
    (.kill ab (.ret (false, .iface tS (.agg [.int .i64 false r.1]))))
def rdA (tS : TypeId) (F : ByteArray → ParR) (args : List Value) (id : Nat) : AM (Bool × Value) :=
  match args with
  | [.pointer (some a)] => bif okAt a && Nat.beq a.off 0 then .get a.block fun o => match o with
      | .cells [.string t] true => rdK tS a.block id (F t)
      | _ => .fail else .fail
  | _ => .fail
def rdS (tS : TypeId) (F : ByteArray → ParR) (args : List SV) (id : Nat) : SM (Bool × SV) :=
  match args with
  | [.ptr b (.c 0)] => .get b fun o => match o with
      | .cells [.str _ t] true => rdKS tS b id (F t)
      | _ => .fail
  | _ => .fail
end
theorem rdK_hom (tS : TypeId) (ab id : Nat) (r : ParR) : Hom HB (rdKS tS ab id r) (rdK tS ab id r) := by
  obtain ⟨e, g, l⟩ := r
  refine .node _ _ _ _ (fun h0 => ?_) fun h0 => ?_
  · have h0 : (e == 0) = true := h0
    unfold rdK
    simp only [h0, cond_true]
    cases l with
    | nil => exact .node _ _ _ _ (fun _ => .kill _ _ _ (.ret _ _ rfl)) fun h => by cases h
    | cons o l => exact .node _ _ _ _ (fun h => by cases h) fun _ => .kill _ _ _ (.new _ _ _ _ rfl (.ret _ _ rfl))
  · have h0 : (e == 0) = false := h0
    unfold rdK
    simp only [h0, cond_false]
    exact .kill _ _ _ (.ret _ _ rfl)
theorem rd_hom {tS : TypeId} {F : ByteArray → ParR} : ∀ args id, Hom HB (rdS tS F args id) (rdA tS F (dens args) id) := by
  intro args id
  unfold rdS
  split
  · rename_i b
    show Hom HB _ (rdA tS F [.pointer (some ⟨b, 0, none⟩)] id)
    unfold rdA
    simp only [okAt, Option.isNone_none, Bool.true_and, show Nat.beq 0 0 = true from rfl, cond_true]
    refine .get _ _ _ fun o => ?_
    split
    · exact rdK_hom _ _ _ _
    · exact .fail _
  · exact .fail _
/-- How such a call ends. -/
def RdEnd (tS : TypeId) (ρc : Emb) (w : World) (r : ParR) : Ending → World → Prop := fun e w' => ∃ ρf, Frame1 ρc w ρf w' ∧
  ((r.1 ≠ 0 ∧ e = .panicked [⟨.iface tS (.agg #[.int .i64 r.1]), false, false⟩]) ∨ (r.1 = 0 ∧ ∃ v', e = .returned v' ∧
    ((r.2.2 = [] ∧ VRel ρf (scrS r.2.1 nilO).den v') ∨ ∃ k g, ρf k = .img g ∧ g.rw = true ∧ r.2.2 ≠ [] ∧ (∀ g0, ρc 0 = .img g0 → g0.b ≠ g.b) ∧ ObjRel ρf w' (outL r.2.2).den g ∧ VRel ρf (scrS r.2.1 (slA k r.2.2.length)).den v')))
theorem rd_WRel {ρ : Emb} {h : AH} {w : World} (wr : WRel ρ h w) {ab : Nat} {t : ByteArray} (hg : h.get ab = some (.cells [.string t] true)) : WRel (wEmb [ρ ab]) (mkH [.cells [.str false t] true]).den w := by
  obtain ⟨g, hi, ho⟩ := wr.cells hg (.inr rfl)
  have h0 : ∀ i g', wEmb [ρ ab] i = .img g' → i = 0 := fun i g' h => by
    unfold wEmb at h
    match i, h with
    | 0, _ => rfl
    | i + 1, h =>
      simp only [List.getElem?_cons_succ, List.getElem?_nil] at h
      split at h <;> cases h
  refine ⟨mkH_ok (by simp [most]), fun i => ?_, fun i j gi gj hne hi hj _ => absurd ((h0 i gi hi).trans (h0 j gj hj).symm) hne⟩
  rw [SH.den_get, mkH_get (by simp [most])]
  match i with
  | 0 =>
    refine .inl ⟨g, hi, ?_⟩
    obtain ⟨h1, c', e, fz, h2, h3, h4, h5, h6⟩ := ho
    refine ⟨h1, c', e, fz, h2, h3, h4, fun j u hj => ?_, h6⟩
    obtain ⟨u', e1, e2⟩ := h5 j u hj
    match j, hj with
    | 0, hj =>
      simp only [dens, List.getElem?_cons_zero, Option.some.injEq] at hj
      subst hj
      cases e2
      exact ⟨_, e1, .string _⟩
  | 1 => rfl
  | i + 2 => rfl
theorem rd_tabP {P : Program} {f : FuncId} {tS : TypeId} {F : ByteArray → ParR}
    (hc : ∀ t ρ w args', WRel ρ (mkH [.cells [.str false t] true]).den w → VsRel ρ (dens [.ptr 0 (.c 0)]) (Array.toList args') → Calls P f args' w (RdEnd tS ρ w (F t))) :
    ∀ ρ h w args args' p h1, WRel ρ h w → VsRel ρ args (Array.toList args') → runNew (rdA tS F args) h = some (p, h1) → Calls P f args' w (fun e w1 => ∃ v' ρ1, e = endE p.1 v' ∧ VRel ρ1 p.2 v' ∧ WRel ρ1 h1 w1 ∧ Step ρ w ρ1 w1) := by
  intro ρ h w args args' p h1 wr ra e0
  unfold runNew at e0
  cases hbn : Nat.blt h.next most with
  | false => rw [hbn] at e0; cases e0
  | true =>
  rw [hbn] at e0
  simp only [cond_true] at e0
  have hn : h.next + 1 ≤ most := lt_of_blt hbn
  have e : (rdA tS F args h.next).run h.next (h.more 1) = some (p, h1) := e0
  clear e0
  unfold rdA at e
  split at e
  · rename_i a
    cases hok : (okAt a && Nat.beq a.off 0) with
    | false => rw [hok] at e; cases e
    | true =>
    rw [hok] at e
    simp only [cond_true, AM.run] at e
    simp only [Bool.and_eq_true] at hok
    obtain ⟨ab, ao, asp⟩ := a
    have hsp : asp = none := by have := hok.1; simpa [okAt] using this
    subst hsp
    obtain rfl : ao = 0 := Nat.eq_of_beq_eq_true hok.2
    have wrm := wr.more hn
    cases hg : (h.more 1).get ab with
    | none => simp only [hg] at e; cases e
    | some o =>
    simp only [hg] at e
    split at e
    · rename_i t
      have hg0 : h.get ab = some (.cells [.string t] true) := by rw [← AH.get_more wr.ok hn]; exact hg
      have hlt : ab < h.next := AH.get_lt hg0
      obtain ⟨g0, hi0, ho0⟩ := wr.cells hg0 (.inr rfl)
      have hrw0 : g0.rw = true := ho0.1
      have wc := rd_WRel wr hg0
      have ra2 : VsRel (wEmb [ρ ab]) (dens [.ptr 0 (.c 0)]) (Array.toList args') := by
        obtain ⟨la⟩ := args'
        cases ra with
        | cons x x' l l' hx ht =>
        cases ht
        refine .cons _ _ _ _ ?_ .nil
        cases hx with
        | ptr a a' hr =>
          refine .ptr _ a' ⟨?_, rfl, ?_⟩
          · show ρ ab ≠ .free
            rw [hi0]; simp
          · exact hr.2.2
      refine (hc t _ w args' wc ra2).mono ?_
      rintro en w1 ⟨ρf, fr, hE⟩
      generalize F t = r at e hE
      obtain ⟨er, gs, l⟩ := r
      obtain ⟨wk, sk⟩ := wrm.kill hg
      have hcimg : ∀ i g', wEmb [ρ ab] i = .img g' → g' = g0 := fun i g' hh => by
        unfold wEmb at hh
        match i, hh with
        | 0, hh =>
          simp only [List.getElem?_cons_zero] at hh
          rw [hi0] at hh
          cases hh
          rfl
        | i + 1, hh =>
          simp only [List.getElem?_cons_succ, List.getElem?_nil] at hh
          split at hh <;> cases hh
      have hrest : ∀ i g', put1 ρ ab .dead i = .img g' → i ≠ ab ∧ ρ i = .img g' := fun i g' hh => by
        by_cases hia : i = ab
        · subst hia; rw [put1_same] at hh; cases hh
        · rw [put1_ne ρ _ hia] at hh; exact ⟨hia, hh⟩
      have hfarr : ∀ i g', put1 ρ ab .dead i = .img g' → g'.b ≠ g0.b := fun i g' hh => by
        obtain ⟨h2, h3⟩ := hrest i g' hh
        exact (wr.inj ab i g0 g' (Ne.symm h2) hi0 h3 hrw0).symm
      have wb : WRel (put1 ρ ab .dead) ((h.more 1).del ab) w1 := wk.but fun i g' hh => by
        obtain ⟨h2, h3⟩ := hrest i g' hh
        refine fr.old _ (wr.block h3) fun j gj hj _ => ?_
        rw [hcimg j gj hj]
        exact (hfarr i g' hh).symm
      have sb : Step ρ w (put1 ρ ab .dead) w1 := by
        refine ⟨ext_dead ρ ab, fr.os, fr.tape, fr.output, fr.size, fun b hb hno => fr.old b hb fun j gj hj hr => ?_, fun i g' hh hr => ?_⟩
        · rw [hcimg j gj hj]
          exact hno ab g0 hi0 hrw0
        · obtain ⟨h2, h3⟩ := hrest i g' hh
          exact .inr ⟨i, g', h3, hr, rfl⟩
      rcases hE with ⟨hne, rfl⟩ | ⟨h0, v', rfl, hE⟩
      · have hb : (er == 0) = false := by simpa using hne
        unfold rdK at e
        simp only [hb, cond_false, AM.run, hg, Option.some.injEq, Prod.mk.injEq] at e
        obtain ⟨rfl, rfl⟩ := e
        exact ⟨_, _, rfl, .iface _ _ _ (plainV_rel rfl), wb, sb⟩
      · simp only at h0
        subst h0
        unfold rdK at e
        simp only [BEq.rfl, cond_true] at e
        rcases hE with ⟨hl, rv⟩ | ⟨k, g, hk, hrw, hne, hsep, ho, rv⟩
        · simp only at hl rv
          subst hl
          simp only [AM.run, hg, Option.some.injEq, Prod.mk.injEq] at e
          obtain ⟨rfl, rfl⟩ := e
          refine ⟨v', _, rfl, ?_, wb, sb⟩
          rw [scrS_den] at rv ⊢
          obtain ⟨o', rfl, ho'⟩ := scr_arg rv
          rw [← scrS_den]
          exact scrW_rel (nil_rel ho')
        · simp only at hne ho rv
          cases l with
          | nil => exact absurd rfl hne
          | cons op l =>
          simp only [AM.run, hg] at e
          have hid : ((h.more 1).del ab).get h.next = none := by
            unfold AH.del
            rw [AH.get_set_ne (h.more 1) wrm.ok ab h.next .dead (Nat.lt_succ_of_lt hlt) (by omega), AH.get_more wr.ok hn]
            cases hg9 : h.get h.next with
            | none => rfl
            | some o => exact absurd (AH.get_lt hg9) (Nat.lt_irrefl _)
          simp only [hid] at e
          have hlt2 : h.next < ((h.more 1).del ab).next := Nat.lt_succ_self _
          rw [blt_of hlt2] at e
          simp only [cond_true, Option.some.injEq, Prod.mk.injEq] at e
          obtain ⟨rfl, rfl⟩ := e
          have hfresh : w.heap.size ≤ g.b := by
            rcases fr.img k g hk hrw with h2 | ⟨j, g1, h2, _, h3⟩
            · exact h2
            · have := hcimg j g1 h2
              subst this
              exact absurd h3 (hsep _ (by show ρ ab = _; exact hi0))
          have hfar : ∀ i g', put1 ρ ab .dead i = .img g' → g'.b ≠ g.b := fun i g' hh he => by
            have := wr.block (hrest i g' hh).2
            omega
          rw [outL_den] at ho ⊢
          have ho2 : ObjRel (put1 (put1 ρ ab .dead) h.next (.img g)) w1 (.cells ((op :: l).flatMap cellsOfOp) true) g := by
            obtain ⟨h2, c', e, fz, h3, h4, h5, h6, h7⟩ := ho
            refine ⟨h2, c', e, fz, h3, h4, h5, fun j u hj => ?_, h7⟩
            obtain ⟨u', e1, e2⟩ := h6 j u hj
            have hu := List.all_eq_true.1 (cellsOfOp_plain (op :: l)) u (List.mem_of_getElem? hj)
            exact ⟨u', e1, by rw [plain1_eq hu e2]; exact plain1_rel hu⟩
          have hfree := wb.free hid
          refine ⟨v', put1 (put1 ρ ab .dead) h.next (.img g), rfl, ?_, wb.extend hid hlt2 (by simp) hfar ho2, ?_⟩
          · rw [scrS_den] at rv ⊢
            obtain ⟨o', rfl, ho'⟩ := scr_arg rv
            rw [← scrS_den]
            exact scrW_rel (sl_rebase hk (put1_same _ _ _) ho')
          · refine ⟨sb.ext.trans (ext_put1 hfree _), sb.frame.os, sb.frame.tape, sb.frame.output, sb.frame.size, sb.frame.old, fun i g' hh hr => ?_⟩
            by_cases hie : i = h.next
            · subst hie
              rw [put1_same] at hh
              cases hh
              exact .inl hfresh
            · rw [put1_ne _ _ hie] at hh
              exact sb.frame.img i g' hh hr
    · cases e
  · cases e
end Go.Ev
end
section
/-! A deferred call that recovers: a script and a number are written. -/
namespace Go.Ev
open Go.RowKit
noncomputable section
/-- Are these the cells of a script without ops? -/
def isNilO : Value → Bool
  | .slice none 0 0 => true
  | _ => false
def isNilOS : SV → Bool
  | .raw (.slice none 0 0) => true
  | _ => false
abbrev scrC (g : SetD) : SObj := .cells (g.sv ++ [nilO]) true
abbrev numC (n : Int) : SObj := .cells [.int .i64 false n] true
def stopN (tS : TypeId) : Value → Option Int
  | .iface t (.agg cs) => bif Nat.beq t tS then (match cs.toList with
    | [.int .i64 n] => some n
    | _ => none) else none
  | _ => none
def stopNS (tS : TypeId) : SV → Option Int
  | .iface t (.agg [.int .i64 _ n]) => bif Nat.beq t tS then some n else none
  | _ => none
def rcA (tS : TypeId) (args : List Value) (v : Value) : AM Unit :=
  match args, stopN tS v with
  | [.pointer (some a), .pointer (some b)], some n => bif okAt a && Nat.beq a.off 0 && (okAt b && Nat.beq b.off 0) then
      .get a.block fun o1 => .get b.block fun o2 => match o1, o2 with
      | .cells l true, .cells [.int .i64 _] true => (match scrOf (.agg l.toArray) with
        | some (_, z) => bif isNilO z then .set a.block (scrC zSet).den (.set b.block (numC n).den (.ret ())) else .fail
        | none => .fail)
      | _, _ => .fail
    else .fail
  | _, _ => .fail
def rcS (tS : TypeId) (args : List SV) (v : SV) : SM Unit :=
  match args, stopNS tS v with
  | [.ptr a (.c 0), .ptr b (.c 0)], some n => .get a fun o1 => .get b fun o2 => match o1, o2 with
      | .cells l true, .cells [.int .i64 _ _] true => (match scrOfS (.agg l) with
        | some (_, z) => bif isNilOS z then .set a (scrC zSet) (.set b (numC n) (.ret ())) else .fail
        | none => .fail)
      | _, _ => .fail
  | _, _ => .fail
end
theorem stopNS_den {tS : TypeId} {v : SV} {n : Int} (h : stopNS tS v = some n) : stopN tS v.den = some n := by
  unfold stopNS at h
  split at h
  · rename_i t l m
    show (bif Nat.beq t tS then _ else _) = _
    cases hb : Nat.beq t tS with
    | false => rw [hb] at h; cases h
    | true => rw [hb] at h; exact h
  · cases h
theorem stopN_spec {tS : TypeId} {v : Value} {n : Int} (h : stopN tS v = some n) : v = .iface tS (.agg #[.int .i64 n]) := by
  unfold stopN at h
  split at h
  · rename_i t cs
    cases hb : Nat.beq t tS with
    | false => rw [hb] at h; cases h
    | true =>
      rw [hb] at h
      simp only [cond_true] at h
      obtain rfl := Nat.eq_of_beq_eq_true hb
      split at h
      · rename_i heq
        cases h
        congr 2
        exact Array.toList_inj.1 heq
      · cases h
  · cases h
theorem isNilOS_den {v : SV} (h : isNilOS v = true) : isNilO v.den = true := by
  unfold isNilOS at h
  split at h
  · rfl
  · cases h
theorem isNilO_spec {v : Value} (h : isNilO v = true) : v = .slice none 0 0 := by
  unfold isNilO at h
  split at h
  · rfl
  · cases h
theorem rc_hom {tS : TypeId} : ∀ args v, Hom (fun _ _ => True) (rcS tS args v) (rcA tS (dens args) v.den) := by
  intro args v
  unfold rcS
  split
  · rename_i a b n hn
    show Hom _ _ (rcA tS [.pointer (some ⟨a, 0, none⟩), .pointer (some ⟨b, 0, none⟩)] v.den)
    unfold rcA
    rw [stopNS_den hn]
    simp only [okAt, Option.isNone_none, Bool.true_and, show Nat.beq 0 0 = true from rfl, cond_true]
    refine .get _ _ _ fun o1 => .get _ _ _ fun o2 => ?_
    split
    · rename_i l _ m
      show Hom _ _ (match scrOf (.agg (dens l).toArray) with
        | some (_, z) => _
        | none => _)
      cases hs : scrOfS (.agg l) with
      | none => exact .fail _
      | some p =>
        obtain ⟨g, z⟩ := p
        have h1 := (scrOfS_den hs).1
        have h1 : scrOf (.agg (dens l).toArray) = some (g, z.den) := h1
        rw [h1]
        simp only
        cases hz : isNilOS z with
        | false => exact .fail _
        | true =>
          rw [isNilOS_den hz]
          exact .set _ _ _ _ _ rfl (.set _ _ _ _ _ rfl (.ret _ _ trivial))
    · exact .fail _
  · exact .fail _
/-- How such a call ends. -/
def RcEnd (ρc : Emb) (w : World) (n : Int) (w' : World) : Prop := ∃ ρf, Frame1 ρc w ρf w' ∧ pinned 2 ρc ρf ∧ WRel ρf (mkH [scrC zSet, numC n]).den w'
/-- Objects written anew. -/
theorem WRel.anew {ρ : Emb} {h h1 : AH} {w w' : World} (wr : WRel ρ h w) (hok : h1.ok)
    (ho : ∀ i, (h1.get i = h.get i ∧ ∀ g, ρ i = .img g → w'.heap[g.b]? = w.heap[g.b]?) ∨ ∃ c g, h1.get i = some (.cells c true) ∧ ρ i = .img g ∧ ObjRel ρ w' (.cells c true) g) : WRel ρ h1 w' := by
  have keep : ∀ (o : AObj) (g : Img), w'.heap[g.b]? = w.heap[g.b]? → ObjRel ρ w o g → ObjRel ρ w' o g := by
    intro o g hb x
    cases o with
    | dead => exact x
    | amap es => obtain ⟨x1, es', clk, x2, x3⟩ := x; exact ⟨x1, es', clk, by rw [hb]; exact x2, x3⟩
    | cells c rw =>
      obtain ⟨x1, c', e, fz, x2, x3, x4, x5, x6⟩ := x
      refine ⟨x1, c', e, fz, by rw [hb]; exact x2, x3, x4, x5, fun hrw off hoff => ?_⟩
      have := x6 hrw off hoff
      unfold World.frozen? at this ⊢
      simp only at this ⊢
      rw [hb]
      exact this
  refine ⟨hok, fun i => ?_, wr.inj⟩
  rcases ho i with ⟨h2, h3⟩ | ⟨c, g, h2, h3, h4⟩
  · rw [h2]
    have := wr.obj i
    cases hg : h.get i with
    | none => rw [hg] at this; exact this
    | some o =>
      rw [hg] at this
      cases o with
      | dead => exact this
      | amap es => exact this.elim (fun ⟨g, k1, k2⟩ => .inl ⟨g, k1, keep _ g (h3 g k1) k2⟩) .inr
      | cells c rw => exact this.elim (fun ⟨g, k1, k2⟩ => .inl ⟨g, k1, keep _ g (h3 g k1) k2⟩) .inr
  · rw [h2]
    exact .inl ⟨g, h3, h4⟩
theorem obj_plain {ρ ρ2 : Emb} {w : World} {c : List Value} {g : Img} (hp : c.all plain1 = true) (h : ObjRel ρ w (.cells c true) g) : ObjRel ρ2 w (.cells c true) g := by
  obtain ⟨h1, c', e, fz, h2, h3, h4, h5, h6⟩ := h
  refine ⟨h1, c', e, fz, h2, h3, h4, fun j u hj => ?_, h6⟩
  obtain ⟨u', e1, e2⟩ := h5 j u hj
  have hu := List.all_eq_true.1 hp u (List.mem_of_getElem? hj)
  exact ⟨u', e1, by rw [plain1_eq hu e2]; exact plain1_rel hu⟩
theorem two_img {s1 s2 : Slot} {i : Nat} {g : Img} (h : wEmb [s1, s2] i = .img g) : (i = 0 ∧ s1 = .img g) ∨ (i = 1 ∧ s2 = .img g) := by
  unfold wEmb at h
  match i, h with
  | 0, h => exact .inl ⟨rfl, h⟩
  | 1, h => exact .inr ⟨rfl, h⟩
  | i + 2, h =>
    simp only [List.getElem?_cons_succ, List.getElem?_nil] at h
    split at h <;> cases h
theorem rc_WRel {ρ : Emb} {h : AH} {w : World} (wr : WRel ρ h w) {a b : Nat} {o1 o2 : SObj} {c1 c2 : List Value} (hd1 : o1.den = .cells c1 true) (hd2 : o2.den = .cells c2 true) (hp1 : c1.all plain1 = true) (hp2 : c2.all plain1 = true) (hab : a ≠ b) (h1 : h.get a = some (.cells c1 true)) (h2 : h.get b = some (.cells c2 true)) :
    WRel (wEmb [ρ a, ρ b]) (mkH [o1, o2]).den w := by
  obtain ⟨g1, hi1, ho1⟩ := wr.cells h1 (.inr rfl)
  obtain ⟨g2, hi2, ho2⟩ := wr.cells h2 (.inr rfl)
  refine ⟨mkH_ok (by simp [most]), fun i => ?_, fun i j gi gj hne hi hj hr => ?_⟩
  · rw [SH.den_get, mkH_get (by simp [most])]
    match i with
    | 0 =>
      show match some o1.den with
        | some .dead => _
        | some o => _
        | none => _
      rw [hd1]
      exact .inl ⟨g1, hi1, obj_plain hp1 ho1⟩
    | 1 =>
      show match some o2.den with
        | some .dead => _
        | some o => _
        | none => _
      rw [hd2]
      exact .inl ⟨g2, hi2, obj_plain hp2 ho2⟩
    | 2 => rfl
    | i + 3 => rfl
  · rcases two_img hi with ⟨rfl, h3⟩ | ⟨rfl, h3⟩ <;> rcases two_img hj with ⟨rfl, h4⟩ | ⟨rfl, h4⟩
    · exact absurd rfl hne
    · exact wr.inj a b gi gj hab h3 h4 hr
    · exact wr.inj b a gi gj (Ne.symm hab) h3 h4 hr
    · exact absurd rfl hne
theorem rc_tabR {P : Program} {f : FuncId} {tS : TypeId}
    (hc : ∀ g m n ρ w args', WRel ρ (mkH [scrC g, numC m]).den w → VsRel ρ (dens [.ptr 0 (.c 0), .ptr 1 (.c 0)]) (Array.toList args') →
      CallsD P f args' (.panicking [⟨.iface tS (.agg #[.int .i64 n]), false, false⟩]) w (fun e u' w' => (∃ v, e = .returned v) ∧ settle u' = .returning ∧ RcEnd ρ w n w')) :
    ∀ ρ h w args args' v v' u h1, WRel ρ h w → VsRel ρ args (Array.toList args') → VRel ρ v v' → runNew (fun _ => rcA tS args v) h = some (u, h1) →
      CallsD P f args' (.panicking [⟨v', false, false⟩]) w (fun e u' w' => (∃ v, e = .returned v) ∧ settle u' = .returning ∧ ∃ ρ1, WRel ρ1 h1 w' ∧ Step ρ w ρ1 w') := by
  intro ρ h w args args' v v' u h1 wr ra rv e0
  unfold runNew at e0
  cases hbn : Nat.blt h.next most with
  | false => rw [hbn] at e0; cases e0
  | true =>
  rw [hbn] at e0
  simp only [cond_true] at e0
  have hn : h.next + 1 ≤ most := lt_of_blt hbn
  have wrm := wr.more hn
  have e : (rcA tS args v).run h.next (h.more 1) = some (u, h1) := e0
  clear e0
  unfold rcA at e
  split at e
  · rename_i a b n hs
    have hv := stopN_spec hs
    subst hv
    have hv' : v' = .iface tS (.agg #[.int .i64 n]) := by
      cases rv with
      | iface t x x' hx => rw [plainV_eq rfl hx]
    subst hv'
    cases hok : (okAt a && Nat.beq a.off 0 && (okAt b && Nat.beq b.off 0)) with
    | false => rw [hok] at e; cases e
    | true =>
    rw [hok] at e
    simp only [cond_true, AM.run] at e
    simp only [Bool.and_eq_true] at hok
    obtain ⟨ab, ao, asp⟩ := a
    obtain ⟨bb, bo, bsp⟩ := b
    have hsp : asp = none := by have := hok.1.1; simpa [okAt] using this
    have hsp2 : bsp = none := by have := hok.2.1; simpa [okAt] using this
    subst hsp hsp2
    obtain rfl : ao = 0 := Nat.eq_of_beq_eq_true hok.1.2
    obtain rfl : bo = 0 := Nat.eq_of_beq_eq_true hok.2.2
    cases hga : (h.more 1).get ab with
    | none => simp only [hga] at e; cases e
    | some oa =>
    simp only [hga] at e
    cases hgb : (h.more 1).get bb with
    | none => simp only [hgb] at e; cases e
    | some ob =>
    simp only [hgb] at e
    split at e
    · rename_i l m
      cases hsc : scrOf (.agg l.toArray) with
      | none => rw [hsc] at e; cases e
      | some p =>
      obtain ⟨g, z⟩ := p
      rw [hsc] at e
      simp only at e
      cases hz : isNilO z with
      | false => rw [hz] at e; cases e
      | true =>
      rw [hz] at e
      have hz := isNilO_spec hz
      subst hz
      have hl : l = dens (g.sv ++ [nilO]) := by
        have := scrOf_spec hsc
        simp only [Value.agg.injEq] at this
        have := congrArg Array.toList this
        exact this
      subst hl
      simp only [cond_true, AM.run, hga] at e
      have hab : ab ≠ bb := by
        intro h9
        subst h9
        rw [hga] at hgb
        have := congrArg (fun o => match o with
          | some (.cells c _) => c.length
          | _ => 0) hgb
        simp [dens] at this
      have hlta : ab < (h.more 1).next := AH.get_lt hga
      have hltb : bb < (h.more 1).next := AH.get_lt hgb
      have hgb2 : ((h.more 1).set ab (scrC zSet).den).get bb = some (.cells [.int .i64 m] true) := by
        rw [AH.get_set_ne (h.more 1) wrm.ok ab bb _ hlta hab]
        exact hgb
      simp only [hgb2, Option.some.injEq, Prod.mk.injEq, true_and] at e
      subst e
      obtain ⟨g1, hi1, ho1⟩ := wrm.cells hga (.inr rfl)
      obtain ⟨g2, hi2, ho2⟩ := wrm.cells hgb (.inr rfl)
      have hp1 : (dens (g.sv ++ [nilO])).all plain1 = true := rfl
      have wc : WRel (wEmb [ρ ab, ρ bb]) (mkH [scrC g, numC m]).den w := rc_WRel wrm rfl rfl hp1 rfl hab hga hgb
      have pr : ∀ {k i : Nat} {s : Slot} {x' : Value} {g0 : Img}, ρ i = .img g0 → wEmb [ρ ab, ρ bb] k = ρ i → VRel ρ (.pointer (some ⟨i, 0, none⟩)) x' → VRel (wEmb [ρ ab, ρ bb]) (.pointer (some ⟨k, 0, none⟩)) x' := by
        intro k i s x' g0 hi hk hx
        cases hx with
        | ptr a a' hr =>
          refine .ptr _ a' ⟨?_, rfl, fun g9 hg9 => ?_⟩
          · show wEmb [ρ ab, ρ bb] k ≠ .free
            rw [hk, hi]; simp
          · have hg9 : wEmb [ρ ab, ρ bb] k = .img g9 := hg9
            rw [hk] at hg9
            exact hr.2.2 g9 hg9
      have ra2 : VsRel (wEmb [ρ ab, ρ bb]) (dens [.ptr 0 (.c 0), .ptr 1 (.c 0)]) (Array.toList args') := by
        obtain ⟨la⟩ := args'
        cases ra with
        | cons x x' l l' hx ht =>
        cases ht with
        | cons y y' l l' hy ht =>
        cases ht
        exact .cons _ _ _ _ (pr (s := .dead) hi1 rfl hx) (.cons _ _ _ _ (pr (s := .dead) hi2 rfl hy) .nil)
      refine (hc g m n _ w args' wc ra2).mono ?_
      rintro en u' w1 ⟨hr, hs, ρf, fr, pn, wf⟩
      refine ⟨hr, hs, ρ, ?_, Ext.refl ρ, fr.os, fr.tape, fr.output, fr.size, fun k hk hno => fr.old k hk fun i gi hi hrw => ?_, fun i gi hi hrw => .inr ⟨i, gi, hi, hrw, rfl⟩⟩
      · have hf0 : (mkH [scrC zSet, numC n]).den.get 0 = some (scrC zSet).den := rfl
        have hf1 : (mkH [scrC zSet, numC n]).den.get 1 = some (numC n).den := rfl
        obtain ⟨k1, hk1, hk2⟩ := wf.cells hf0 (.inr rfl)
        obtain ⟨k2, hk3, hk4⟩ := wf.cells hf1 (.inr rfl)
        have e1 : k1 = g1 := by
          rcases pn 0 (by decide) with h9 | h9
          · rw [hk1] at h9
            have h9 : Slot.img k1 = ρ ab := h9
            rw [hi1] at h9
            cases h9; rfl
          · rw [hk1] at h9; cases h9
        have e2 : k2 = g2 := by
          rcases pn 1 (by decide) with h9 | h9
          · rw [hk3] at h9
            have h9 : Slot.img k2 = ρ bb := h9
            rw [hi2] at h9
            cases h9; rfl
          · rw [hk3] at h9; cases h9
        subst e1 e2
        have ok1 : ((h.more 1).set ab (scrC zSet).den).ok := AH.ok_set wrm.ok hlta _
        have hltb2 : bb < ((h.more 1).set ab (scrC zSet).den).next := hltb
        refine wrm.anew (AH.ok_set ok1 hltb2 _) fun i => ?_
        by_cases hia : i = ab
        · subst hia
          refine .inr ⟨_, k1, ?_, hi1, obj_plain (c := dens (zSet.sv ++ [nilO])) rfl hk2⟩
          rw [AH.get_set_ne _ ok1 bb i _ hltb2 (Ne.symm hab), AH.get_set_same _ i _ hlta]
          rfl
        · by_cases hib : i = bb
          · subst hib
            refine .inr ⟨_, k2, ?_, hi2, obj_plain (c := dens [.int .i64 false n]) rfl hk4⟩
            rw [AH.get_set_same _ i _ hltb2]
            rfl
          · refine .inl ⟨?_, fun gi hi => ?_⟩
            · rw [AH.get_set_ne _ ok1 bb i _ hltb2 (Ne.symm hib), AH.get_set_ne _ wrm.ok ab i _ hlta (Ne.symm hia)]
            · refine fr.old _ (wr.block hi) fun j gj hj hrj => ?_
              rcases two_img hj with ⟨_, h9⟩ | ⟨_, h9⟩
              · exact wr.inj ab i gj gi (Ne.symm hia) h9 hi hrj
              · exact wr.inj bb i gj gi (Ne.symm hib) h9 hi hrj
      · rcases two_img hi with ⟨_, h9⟩ | ⟨_, h9⟩
        · exact hno ab gi h9 hrw
        · exact hno bb gi h9 hrw
    · cases e
  · cases e
/-- The state where a deferred call has asked what it caught. -/
theorem StM.caught (np : Nat) {n : Nat} (hn : n ≤ 512) {sargs : List SV} (hl : sargs.length ≤ n) {O : List SObj} {ρ0 : Emb} {w : World} {args' : Array Value} (wr : WRel ρ0 (mkH O).den w) (ra : VsRel ρ0 (dens sargs) args'.toList) {d : Nat} (hd : d < n) {v : SV} {v' : Value} (rv : VRel ρ0 v.den v') :
    StM np ρ0 w n ((d, v) :: argL sargs) O (({ tmps := args' ++ Array.replicate (n - args'.size) undef, defers := [] } : Act).put (some d) v') w := by
  refine ⟨fun _ => undef, ρ0, ?_, wr, Frame1.refl _ _, fun _ _ => .inl rfl⟩
  have ar := (ARel.start hn ra (by rw [dens_length]; exact hl)).put (some d) rv
  refine ⟨mkA_wf hn _ _, ?_, fun t => ?_, by rw [mkA_defers]; have h9 := ar.defers; rw [BAct.defers_put, BAct.defers_start] at h9; exact h9⟩
  · rw [mkA_n]
    exact ar.size.trans (by rw [BAct.n_put, BAct.n_start])
  · have h1 := ar.slot t
    rw [mkA_slot hn]
    by_cases hdt : d = t
    · subst hdt
      rw [if_pos hd]
      have h2 : ((BAct.start n (dens sargs)).put (some d) v.den).slot d = v.den := BAct.slot_set_same (BAct.start n (dens sargs)) (by rw [BAct.n_start]; exact hd) _
      rw [h2] at h1
      unfold slotOf lookL
      rw [show Nat.beq d d = true from show Nat.beq d d = true from by simp]
      exact h1
    · have h2 : ((BAct.start n (dens sargs)).put (some d) v.den).slot t = (BAct.start n (dens sargs)).slot t := BAct.slot_set_ne (BAct.wf_start hn _) hdt _
      rw [h2, BAct.slot_start hn (by rw [dens_length]; exact hl)] at h1
      by_cases ht : t < n
      · rw [if_pos ht]
        unfold slotOf lookL
        rw [show Nat.beq d t = false from by cases hb : Nat.beq d t with
          | false => rfl
          | true => exact absurd (Nat.eq_of_beq_eq_true hb) hdt]
        simp only [cond_false]
        rw [lookL_range, if_pos (Nat.zero_le _), Nat.sub_zero]
        rw [dens_get] at h1
        cases hg : sargs[t]? with
        | none => rw [hg] at h1; exact h1
        | some x => rw [hg] at h1; exact h1
      · rw [if_neg ht]
        rw [List.getElem?_eq_none (by rw [dens_length]; omega)] at h1
        exact h1
/-- A region of one operation. -/
noncomputable def regOp : Code → Option Oper
  | .region _ ops false => bif Nat.beq ops.size 1 then ops[0]? else none
  | _ => none
section
variable {P : Program} {Q : Exit → Act → List Frame → World → Prop} {a : Act} {cs : List Frame} {w : World}
theorem wpS_seqP {c : Code} (h : isSeq c = true) (k : (seqL c).wpS P (Exit.thenS ((seqR c).wpS P Q) Q) a cs w) : c.wpS P Q a cs w := by
  cases c <;> first
    | exact wpS_seq k
    | cases h
theorem wpS_rec {c : Code} {o : Oper} (hc : regOp c = some o) (hg : o.guard = none) (hex : (execOp a.eval o).run P w = .ok .recover w) {v : Value} {cs' : List Frame} (hr : recoverD cs = some (v, cs')) (k : Q .normal (a.put o.dst v) cs' w) : c.wpS P Q a cs w := by
  unfold regOp at hc
  split at hc
  · rename_i ops
    cases hb : Nat.beq ops.size 1 with
    | false => rw [hb] at hc; cases hc
    | true =>
      rw [hb] at hc
      simp only [cond_true] at hc
      refine wpS_region ?_
      rw [Nat.eq_of_beq_eq_true hb]
      have hw : Region.wanted o (yielded ops a.tmps) = true := by simp [Region.wanted, hg]
      show wpOpsS P ops Q [0] a cs w
      simp only [wpOpsS, hc, hw, if_true, hex, hr]
      exact k
  · cases hc
end
theorem StM.defers {np : Nat} {ρ0 : Emb} {w0 : World} {n : Nat} {L : List (Nat × SV)} {O : List SObj} {b : Act} {w : World} (st : StM np ρ0 w0 n L O b w) : b.defers = [] := by
  obtain ⟨j, ρ, ar, _, _, _⟩ := st
  have hd := ar.defers
  rw [mkA_defers] at hd
  generalize b.defers = bd at hd
  cases hd
  rfl
end Go.Ev
end
section
/-! What the text of a script says, step by step. -/
namespace Go.Ev
open Go
noncomputable section
abbrev drB (n : Nat) (t : ByteArray) : ByteArray := t.extract n t.size
abbrev shl8 (a : Int) : Int := IntKind.u64.wrap (a * 2 ^ (min (8 : Int).toNat IntKind.u64.bits))
abbrev or64 (a b : Int) : Int := IntKind.u64.wrap (BitVec.ofInt IntKind.u64.bits a ||| BitVec.ofInt IntKind.u64.bits b).toNat
abbrev byI (t : ByteArray) (i : Nat) : Int := IntKind.u64.wrap (t.data.toList.getD (0 + i) 0).toNat
/-- The number in the first bytes. -/
def takeV (t : ByteArray) : Nat → Int
  | 0 => 0
  | i + 1 => or64 (shl8 (takeV t i)) (byI t i)
abbrev scX (g : SetD) (sl : SV) : SObj := .cells (g.sv ++ [sl]) true
/-- What is kept where the code goes on, leaves a block, panics. -/
def vselP (a x p : VSd) (e : SExit) : VSd :=
  match e with
  | .normal => a
  | .ret => a
  | .exit _ => x
  | .panic _ => p
section
variable {α : Type}
def needC (c : Bool) (e : Int) (bad : Int → α) (k : α) : α := if c = true then k else bad e
def takeC (t : ByteArray) (n : Nat) (bad : Int → α) (k : Int → ByteArray → α) : α := needC (decide (n ≤ t.size)) 7 bad (k (takeV t n) (drB n t))
def numbC (t : ByteArray) (bad : Int → α) (k : Int → Bool → ByteArray → α) : α :=
  takeC t 8 bad fun v t1 => needC (IntKind.i64.wrap v != -9223372036854775808) 4 bad (takeC t1 1 bad fun f t2 => needC (decide (f ≤ 1)) 4 bad (k (IntKind.i64.wrap v) (f == 1) t2))
def countC (t : ByteArray) (bad : Int → α) (k : Int → ByteArray → α) : α :=
  takeC t 4 bad fun v t1 => needC (decide (v ≤ 2147483647)) 4 bad (k (IntKind.i64.wrap v) t1)
def cutC (t : ByteArray) (n : Int) (bad : Int → α) (k : ByteArray → ByteArray → α) : α :=
  needC (decide ((t.size : Int) ≥ n)) 7 bad (k (t.extract 0 n.toNat) (drB n.toNat t))
def opC (t : ByteArray) (bad : Int → α) (k : OpD → ByteArray → α) : α :=
  takeC t 1 bad fun a t1 => takeC t1 1 bad fun b t2 =>
    if IntKind.i64.wrap a = 3 then countC t2 bad fun n t3 => needC (decide (n ≤ 65536)) 6 bad (cutC t3 n bad fun s t4 => k ⟨IntKind.i64.wrap a, IntKind.i64.wrap b, s, 0⟩ t4)
    else if IntKind.i64.wrap a = 4 then countC t2 bad fun n t3 => k ⟨IntKind.i64.wrap a, IntKind.i64.wrap b, noBytes, n⟩ t3
    else k ⟨IntKind.i64.wrap a, IntKind.i64.wrap b, noBytes, 0⟩ t2
end
def badR (e : Int) : ParR := (e, zSet, [])
def opsR (g : SetD) : Nat → List OpD → ByteArray → ParR
  | 0, L, t => needC (decide (t.size = 0)) 6 badR (0, g, L)
  | m + 1, L, t => opC t badR fun o t1 => opsR g m (L ++ [o]) t1
def parQ (t : ByteArray) : ParR :=
  numbC t badR fun x xf t => numbC t badR fun y yf t => numbC t badR fun d df t => countC t badR fun c1 t => countC t badR fun c2 t => countC t badR fun c3 t => countC t badR fun c4 t => countC t badR fun c5 t =>
    countC t badR fun n t => needC (decide (n ≤ 400)) 6 badR (opsR ⟨x, xf, y, yf, d, df, c1, c2, c3, c4, c5⟩ n.toNat [] t)
end
/-- One row more, whatever is known of it. -/
theorem cells_app2 (L : List OpD) (o : OpD) {row : List SV} (hv : valInt (cellAt row 4 0 0) = o.k ∧ valInt (cellAt row 4 1 0) = o.s ∧ valStr (cellAt row 4 2 0) = o.b ∧ valInt (cellAt row 4 3 0) = o.n) : (apO L.length (fk L) (fs L) (fb L) (fn L) row).den = (outL (L ++ [o])).den := by
  have h1 : (outL (L ++ [o])).den = .cells ((L ++ [o]).flatMap cellsOfOp) true := by
    simp only [SObj.den]
    rw [arr_ops, opsL_get]
  rw [h1]
  simp only [SObj.den]
  congr 1
  rw [show ([.int .i64 (apI L.length (fk L) row 0), .int .i64 (apI L.length (fs L) row 1), .str (apB L.length (fb L) row 2), .int .i64 (apI L.length (fn L) row 3)] : List SF) = opFs (apI L.length (fk L) row 0) (apI L.length (fs L) row 1) (apB L.length (fb L) row 2) (apI L.length (fn L) row 3) from rfl, arr_ops]
  congr 1
  apply List.ext_getElem?
  intro i
  rw [List.getElem?_map]
  by_cases hi : i < L.length
  · rw [List.getElem?_range (by omega), Option.map_some, List.getElem?_append_left hi, List.getElem?_eq_getElem hi]
    have hb := blt_of hi
    simp only [apI, apB, hb, cond_true, fk, fs, fb, fn, List.getD_eq_getElem?_getD, List.getElem?_eq_getElem hi, Option.getD_some]
  · by_cases he : i = L.length
    · subst he
      rw [List.getElem?_range (by omega), Option.map_some, List.getElem?_append_right (Nat.le_refl _), Nat.sub_self]
      have hb := blt_not (Nat.lt_irrefl L.length)
      simp only [apI, apB, hb, cond_false, Nat.sub_self, hv.1, hv.2.1, hv.2.2.1, hv.2.2.2]
      rfl
    · rw [List.getElem?_eq_none (by simp; omega), List.getElem?_eq_none (by simp; omega)]
      rfl
theorem cells_one2 (o : OpD) {row : List SV} (hd : dens row = cellsOfOp o) : (SObj.cells row true).den = (outL [o]).den := by
  have h1 : (outL [o]).den = .cells (([o] : List OpD).flatMap cellsOfOp) true := by
    simp only [SObj.den]
    rw [arr_ops, opsL_get]
  rw [h1]
  simp only [SObj.den, hd]
  simp
end Go.Ev
end

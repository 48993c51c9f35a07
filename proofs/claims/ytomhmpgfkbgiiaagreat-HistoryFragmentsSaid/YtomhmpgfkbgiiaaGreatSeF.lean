import Derived.Test.YtomhmpgfkbgiiaaGreatSeB
import Derived.Test.YtomhmpgfkbgiiaaGreatSpA
section
/-! A call that gives a new object. -/
namespace Go.Ev
open Go.RowKit
theorem WRel.extend {ρ : Emb} {h : AH} {w : World} (r : WRel ρ h w) {id : Nat} {o : AObj} {g : Img} (hid : h.get id = none) (hlt : id < h.next) (hd : o ≠ .dead) (hfar : ∀ i g0, ρ i = .img g0 → g0.b ≠ g.b) (ho : ObjRel (put1 ρ id (.img g)) w o g) :
    WRel (put1 ρ id (.img g)) (h.put id o) w := by
  have ext := ext_put1 (r.free hid) (.img g)
  refine ⟨AH.ok_put r.ok hlt _, fun i => ?_, fun i j gi gj hne hi hj hrw => ?_⟩
  · by_cases e : i = id
    · subst e
      rw [AH.get_put_same h i o hlt, put1_same]
      cases o with
      | dead => exact absurd rfl hd
      | cells c rw => exact .inl ⟨g, rfl, ho⟩
      | amap es => exact .inl ⟨g, rfl, ho⟩
    · rw [AH.get_put_ne h r.ok id i o hlt (Ne.symm e), put1_ne ρ _ e]
      have := r.obj i
      cases hgi : h.get i with
      | none => rw [hgi] at this; exact this
      | some x =>
        rw [hgi] at this
        cases x with
        | dead => exact this
        | cells c rw => exact this.elim (fun ⟨g', h1, h2⟩ => .inl ⟨g', h1, h2.mono ext⟩) .inr
        | amap es => exact this.elim (fun ⟨g', h1, h2⟩ => .inl ⟨g', h1, h2.mono ext⟩) .inr
  · by_cases ei : i = id
    · subst ei
      rw [put1_same] at hi
      rw [put1_ne ρ _ (Ne.symm hne)] at hj
      cases hi
      exact (hfar j gj hj).symm
    · rw [put1_ne ρ _ ei] at hi
      by_cases ej : j = id
      · subst ej
        rw [put1_same] at hj
        cases hj
        exact hfar i gi hi
      · rw [put1_ne ρ _ ej] at hj
        exact r.inj i j gi gj hne hi hj hrw
/-- The callee's object, as a new one of the caller's: it lies where nothing lay. -/
theorem CallEnd.newObj {ρ ρc ρf : Emb} {h : AH} {w w1 : World} (wr : WRel ρ h w) (hn : h.next + 1 ≤ most) (hro : ∀ i g, ρc i = .img g → g.rw = false) (fr : Frame1 ρc w ρf w1) {g : Img} {k : Nat} (hk : ρf k = .img g) (hrw : g.rw = true) {cs : List Value} (hp : cs.all plain1 = true) (ho : ObjRel ρf w1 (.cells cs true) g)
    {v v' : Value} (rv : ∀ ρ1 : Emb, ρ1 h.next = .img g → VRel ρ1 v v') : CallEnd ρ w v ((h.more 1).put h.next (.cells cs true)) (.returned v') w1 := by
  have hb := below_of_ro hro fr
  have wr1 : WRel ρ (h.more 1) w1 := (wr.more hn).below hb
  have hid : (h.more 1).get h.next = none := by
    rw [AH.get_more wr.ok hn]
    cases hg : h.get h.next with
    | none => rfl
    | some o => exact absurd (AH.get_lt hg) (Nat.lt_irrefl _)
  have hlt : h.next < (h.more 1).next := Nat.lt_succ_self _
  have hfresh : w.heap.size ≤ g.b := by
    rcases fr.img k g hk hrw with h1 | ⟨j, g0, h1, h2, _⟩
    · exact h1
    · rw [hro j g0 h1] at h2; cases h2
  have hfree := wr1.free hid
  have hfar : ∀ i g0, ρ i = .img g0 → g0.b ≠ g.b := fun i g0 hi he => by
    have := wr.block hi
    omega
  have ho2 : ObjRel (put1 ρ h.next (.img g)) w1 (.cells cs true) g := by
    obtain ⟨h1, c', e, fz, h2, h3, h4, h5, h6⟩ := ho
    refine ⟨h1, c', e, fz, h2, h3, h4, fun j u hj => ?_, h6⟩
    obtain ⟨u', e1, e2⟩ := h5 j u hj
    have hu := List.all_eq_true.1 hp u (List.mem_of_getElem? hj)
    exact ⟨u', e1, by rw [plain1_eq hu e2]; exact plain1_rel hu⟩
  refine ⟨v', put1 ρ h.next (.img g), rfl, rv _ (put1_same _ _ _), wr1.extend hid hlt (by simp) hfar ho2, ext_put1 hfree _, hb.os, hb.tape, hb.output, hb.size, fun b hb' _ => hb.block b hb', fun i g' hi hr => ?_⟩
  by_cases e : i = h.next
  · subst e
    rw [put1_same] at hi
    cases hi
    exact .inl hfresh
  · rw [put1_ne ρ _ e] at hi
    exact .inr ⟨i, g', hi, hr, rfl⟩
end Go.Ev
end
section
/-! Slices of integers of open length. -/
namespace Go.Ev
open Go.RowKit
section defs
noncomputable section
abbrev intL (n : Nat) (f : Nat → Int) : List Int := (List.range n).map f
abbrev intsO (n : Nat) (f : Nat → Int) : SObj := .arr ⟨false, n⟩ [.int .i64 f] false
abbrev slI (i len : Nat) : SV := .sl i (.c 0) ⟨false, len⟩ 1
def decInts : Nat → List Value → Option (List Int)
  | 0, [] => some []
  | n + 1, .int .i64 k :: l => match decInts n l with
    | some r => some (k :: r)
    | none => none
  | _, _ => none
def intsA (o : Value) (k : List Int → AM Value) : AM Value :=
  match o with
  | .slice none _ _ => k []
  | .slice (some a) n c => bif okAt a && Nat.beq c 1 then .get a.block fun o => bif Nat.ble n 70368744177664 then readA o a.off (Nat.mul n 1) (fun l => match decInts n l with
      | some ops => k ops
      | none => .fail) else .fail
    else .fail
  | _ => .fail
def intsSym (o : SV) (k : List Int → SM SV) : SM SV :=
  match o with
  | .raw (.slice none _ _) => k []
  | .sl b off n c => bif Nat.beq c 1 then .get b fun o => rowS o off n 1 fun r => match r with
      | .lits [] => bif Nat.beq n.n 0 then k [] else .fail
      | .arr m [.int .i64 f] => .node (Nat.ble m.n 70368744177664) (k (intL m.n f)) .fail
      | _ => .fail
    else .fail
  | _ => .fail
def fi (l : List Int) (i : Nat) : Int := l.getD i 0
end
end defs
theorem intL_length (n : Nat) (f : Nat → Int) : (intL n f).length = n := by simp
theorem intL_get (l : List Int) : intL l.length (fi l) = l := by
  apply List.ext_getElem?
  intro i
  rw [List.getElem?_map]
  by_cases h : i < l.length
  · rw [List.getElem?_range h, List.getElem?_eq_getElem h]
    simp [fi, List.getD_eq_getElem?_getD, List.getElem?_eq_getElem h]
  · rw [List.getElem?_eq_none (by simp; omega), List.getElem?_eq_none (by omega)]
    rfl
theorem intL_drop {n : Nat} {f : Nat → Int} {i : Nat} (h : i < n) : (intL n f).drop i = f i :: (intL n f).drop (i + 1) := by
  have hl : i < (intL n f).length := by rw [intL_length]; exact h
  rw [List.drop_eq_getElem_cons hl]
  congr 1
  simp
def cellsOfInt (k : Int) : List Value := [.int .i64 k]
theorem decInts_spec : ∀ (n : Nat) (l : List Value) (ops : List Int), decInts n l = some ops → ops.length = n ∧ l = ops.flatMap cellsOfInt
  | 0, [], ops, h => by simp only [decInts, Option.some.injEq] at h; subst h; exact ⟨rfl, rfl⟩
  | 0, _ :: _, ops, h => by simp [decInts] at h
  | n + 1, l, ops, h => by
    unfold decInts at h
    split at h
    · rename_i hh
      cases hh
    · rename_i k l' heq
      cases heq
      cases hr : decInts n l' with
      | none => rw [hr] at h; cases h
      | some r =>
        rw [hr] at h
        simp only [Option.some.injEq] at h
        subst h
        obtain ⟨h1, h2⟩ := decInts_spec n l' r hr
        exact ⟨by simp [h1], by rw [h2]; rfl⟩
    · cases h
theorem arr_ints (n : Nat) (f : Nat → Int) : arrCells n [.int .i64 f] = (intL n f).flatMap cellsOfInt := by
  unfold arrCells
  rw [List.flatMap_map]
  rfl
theorem decInts_flat : ∀ l : List Int, decInts l.length (l.flatMap cellsOfInt) = some l
  | [] => rfl
  | k :: l => by
    show decInts (l.length + 1) (.int .i64 k :: l.flatMap cellsOfInt) = _
    simp only [decInts, decInts_flat l]
theorem decInts_arr (n : Nat) (f : Nat → Int) : decInts n (arrCells n [.int .i64 f]) = some (intL n f) := by
  have := decInts_flat (intL n f)
  rw [intL_length, ← arr_ints] at this
  exact this
theorem cellsOfInt_plain (l : List Int) : (l.flatMap cellsOfInt).all plain1 = true := by
  induction l with
  | nil => rfl
  | cons o l ih => simp only [List.flatMap_cons, List.all_append, ih, Bool.and_true]; rfl
theorem cellsOfInt_length (l : List Int) : (l.flatMap cellsOfInt).length = l.length * 1 := by
  induction l with
  | nil => rfl
  | cons o r ih => rw [List.flatMap_cons, List.length_append, ih, List.length_cons]; simp [cellsOfInt]; omega
theorem intsO_of (l : List Int) : (intsO l.length (fi l)).den = .cells (l.flatMap cellsOfInt) false := by
  simp only [SObj.den]
  rw [arr_ints, intL_get]
theorem intsSym_hom {k : List Int → SM SV} {k' : List Int → AM Value} (hk : ∀ ops, Hom HV (k ops) (k' ops)) (o : SV) : Hom HV (intsSym o k) (intsA o.den k') := by
  unfold intsSym
  split
  · exact hk []
  · rename_i b off n c
    simp only [SV.den, intsA, okAt, Option.isNone_none, Bool.true_and]
    cases Nat.beq c 1 with
    | false => exact .fail _
    | true =>
      simp only [cond_true]
      refine .get _ _ _ fun o => ?_
      cases hb : Nat.ble n.n 70368744177664 with
      | true =>
        simp only [cond_true]
        refine rowS_hom (fun r hr => ?_) o off
        split
        · refine .bifL fun hz => ?_
          have hz : n.n = 0 := Nat.eq_of_beq_eq_true hz
          rw [hz]
          exact hk []
        · rename_i m a1
          obtain ⟨rfl, _, _⟩ := hr
          simp only [rowDen]
          rw [decInts_arr m.n a1]
          exact .node _ _ _ _ (fun _ => hk _) fun _ => .fail _
        · exact .fail _
      | false =>
        simp only [cond_false]
        have := rowS_hom (R := HV) (k := fun r => match r with
          | .lits [] => bif Nat.beq n.n 0 then k [] else .fail
          | .arr m [.int .i64 f] => .node (Nat.ble m.n 70368744177664) (k (intL m.n f)) .fail
          | _ => .fail) (K' := fun _ => (.fail : AM Value)) (n := n) (size := 1) (fun r hr => by
            split
            · refine .bifL fun hz => ?_
              have hz : n.n = 0 := Nat.eq_of_beq_eq_true hz
              rw [hz] at hb
              cases hb
            · obtain ⟨rfl, _, _⟩ := hr
              exact .node _ _ _ _ (fun h => by rw [hb] at h; cases h) fun _ => .fail _
            · exact .fail _) o off
        rw [readA_fail] at this
        exact this
  · exact .fail _
theorem intsA_run {o : Value} {k : List Int → AM Value} {id : Nat} {h h1 : AH} {v : Value} (e : (intsA o k).run id h = some (v, h1)) :
    (∃ n c, o = .slice none n c ∧ (k []).run id h = some (v, h1)) ∨
    ∃ (r off n : Nat) (d : List Value) (rw0 : Bool) (ops : List Int), o = .slice (some ⟨r, off, none⟩) n 1 ∧ n ≤ 70368744177664 ∧ h.get r = some (.cells d rw0) ∧ ops.length = n ∧ takeCells d off (ops.flatMap cellsOfInt).length = some (ops.flatMap cellsOfInt) ∧ (k ops).run id h = some (v, h1) := by
  unfold intsA at e
  split at e
  · exact .inl ⟨_, _, rfl, e⟩
  · rename_i x n c
    refine .inr ?_
    cases hok : (okAt x && Nat.beq c 1) with
    | false => rw [hok] at e; cases e
    | true =>
      rw [hok] at e
      simp only [cond_true, AM.run] at e
      simp only [Bool.and_eq_true] at hok
      have hc : c = 1 := Nat.eq_of_beq_eq_true hok.2
      subst hc
      obtain ⟨ab, ao, asp⟩ := x
      have hsp : asp = none := by have := hok.1; simpa [okAt] using this
      subst hsp
      cases hg : h.get ab with
      | none => simp only [hg] at e; cases e
      | some oo =>
        simp only [hg] at e
        cases hbn : Nat.ble n 70368744177664 with
        | false => rw [hbn] at e; cases e
        | true =>
          rw [hbn] at e
          simp only [cond_true] at e
          cases oo with
          | amap _ => cases e
          | dead => cases e
          | cells d rw0 =>
            simp only [readA] at e
            cases ht : takeCells d ao (Nat.mul n 1) with
            | none => rw [ht] at e; cases e
            | some l =>
              rw [ht] at e
              simp only at e
              cases hd : decInts n l with
              | none => rw [hd] at e; cases e
              | some ops =>
                rw [hd] at e
                obtain ⟨hl1, hl2⟩ := decInts_spec n l ops hd
                refine ⟨ab, ao, n, d, rw0, ops, rfl, nat_ble hbn, hg, hl1, ?_, e⟩
                rw [← hl2]
                have : l.length = Nat.mul n 1 := by rw [hl2, cellsOfInt_length, hl1]; rfl
                rw [this]
                exact ht
  · cases e
end Go.Ev
end
section
/-! Functions of slices of integers. -/
namespace Go.Ev
open Go.RowKit
noncomputable section
/-- A function of a slice of integers, and of a function. -/
def inA (u : FuncId) (F : List Int → Value) (args : List Value) (_ : Nat) : AM Value :=
  match args with
  | [o, fv] => bif isFn u fv then intsA o fun l => .ret (F l) else .fail
  | _ => .fail
def inSym (u : FuncId) (F : List Int → SV) (args : List SV) (_ : Nat) : SM SV :=
  match args with
  | [o, fv] => bif isFn u fv.den then intsSym o fun l => .ret (F l) else .fail
  | _ => .fail
/-- A function of two slices of integers. -/
def in2A (F : List Int → List Int → Value) (args : List Value) (_ : Nat) : AM Value :=
  match args with
  | [o, o2] => intsA o fun l => intsA o2 fun l2 => .ret (F l l2)
  | _ => .fail
def in2Sym (F : List Int → List Int → SV) (args : List SV) (_ : Nat) : SM SV :=
  match args with
  | [o, o2] => intsSym o fun l => intsSym o2 fun l2 => .ret (F l l2)
  | _ => .fail
end
theorem in_hom {u : FuncId} {F : List Int → SV} {F' : List Int → Value} (h : ∀ l, (F l).den = F' l) : ∀ args id, Hom HV (inSym u F args id) (inA u F' (dens args) id) := by
  intro args id
  unfold inSym inA
  match args with
  | [] => exact .fail _
  | [_] => exact .fail _
  | _ :: _ :: _ :: _ => exact .fail _
  | [o, fv] =>
    simp only [dens]
    cases isFn u fv.den with
    | false => exact .fail _
    | true => exact intsSym_hom (fun l => .ret _ _ (h l).symm) o
theorem in2_hom {F : List Int → List Int → SV} {F' : List Int → List Int → Value} (h : ∀ l l2, (F l l2).den = F' l l2) : ∀ args id, Hom HV (in2Sym F args id) (in2A F' (dens args) id) := by
  intro args id
  unfold in2Sym in2A
  match args with
  | [] => exact .fail _
  | [_] => exact .fail _
  | _ :: _ :: _ :: _ => exact .fail _
  | [o, o2] =>
    simp only [dens]
    exact intsSym_hom (fun l => intsSym_hom (fun l2 => .ret _ _ (h l l2).symm) o2) o
theorem fn_rel {u : FuncId} {ρ ρ2 : Emb} {z' : Value} (hz : VRel ρ (.func (.func u) #[] #[]) z') : VRel ρ2 (SV.den (.func u [] [])) z' := by
  cases hz with
  | func fn a b a' b' q1 q2 =>
    obtain ⟨la'⟩ := a'
    obtain ⟨lb'⟩ := b'
    cases q1
    cases q2
    exact .func _ _ _ _ _ .nil .nil
theorem in_tab {P : Program} {f : FuncId} {u : FuncId} {F : List Int → Value} (hF : ∀ l, plainR (F l) = true)
    (h0 : ∀ ρ w args', (∀ i g, ρ i = .img g → g.rw = false) → WRel ρ (mkH []).den w → VsRel ρ (dens [nilO, .func u [] []]) (Array.toList args') → Calls P f args' w fun e w' => e = .returned (F []) ∧ Below w.heap.size w w')
    (h1 : ∀ n fv ρ w args', n ≤ 70368744177664 → (∀ i g, ρ i = .img g → g.rw = false) → WRel ρ (mkH [intsO n fv]).den w → VsRel ρ (dens [slI 0 n, .func u [] []]) (Array.toList args') →
      Calls P f args' w fun e w' => e = .returned (F (intL n fv)) ∧ Below w.heap.size w w') : TabOK P f (inA u F) := by
  intro ρ hh w args args' v h2 wr ra e
  obtain ⟨hn, e⟩ := tabF_some e
  obtain ⟨la⟩ := args'
  simp only at ra
  have wrm := wr.more hn
  unfold inA at e
  match args, ra, e with
  | [], _, e => cases e
  | [_], _, e => cases e
  | _ :: _ :: _ :: _, _, e => cases e
  | [o, fv], ra, e =>
    simp only at e
    cases hfv : isFn u fv with
    | false => rw [hfv] at e; cases e
    | true =>
      rw [hfv] at e
      simp only [cond_true] at e
      have hfe := isFn_eq hfv
      subst hfe
      cases ra with
      | cons x x' l l' hx ht =>
      cases ht with
      | cons z z' l l' hz ht =>
      cases ht
      rcases intsA_run e with ⟨n, c, rfl, e1⟩ | ⟨r, off, n, d, rw0, ops, rfl, hn1, hg, hl, htk, e1⟩
      · simp only [AM.run, Option.some.injEq, Prod.mk.injEq] at e1
        obtain ⟨rfl, rfl⟩ := e1
        have wc : WRel (subEmbL ρ []) (mkH []).den w := sub_WRelL wrm rfl (by decide) (fun i r off o hi => by simp at hi)
        refine Calls.mono (h0 _ w ⟨[x', z']⟩ (subEmbL_ro ρ []) wc (.cons _ _ _ _ (nil_rel hx) (.cons _ _ _ _ (fn_rel hz) .nil))) ?_
        rintro e w' ⟨rfl, hb⟩
        exact CallEnd.of_below wr hn (hF _) hb
      · simp only [AM.run, Option.some.injEq, Prod.mk.injEq] at e1
        obtain ⟨rfl, rfl⟩ := e1
        have wc := sub_WRel wrm hg htk (cellsOfInt_plain ops) (intsO_of ops)
        have := h1 ops.length (fi ops) _ w ⟨[x', z']⟩ (by omega) (subEmb_ro ρ r off) wc (.cons _ _ _ _ (by rw [← hl] at hx; exact sub_slice wrm hg hx) (.cons _ _ _ _ (fn_rel hz) .nil))
        rw [intL_get] at this
        refine Calls.mono this ?_
        rintro e w' ⟨rfl, hb⟩
        exact CallEnd.of_below wr hn (hF _) hb
theorem in2_tab {P : Program} {f : FuncId} {F : List Int → List Int → Value} (hF : ∀ l l2, plainR (F l l2) = true)
    (h00 : ∀ ρ w args', (∀ i g, ρ i = .img g → g.rw = false) → WRel ρ (mkH []).den w → VsRel ρ (dens [nilO, nilO]) (Array.toList args') → Calls P f args' w fun e w' => e = .returned (F [] []) ∧ Below w.heap.size w w')
    (h01 : ∀ n fv ρ w args', n ≤ 70368744177664 → (∀ i g, ρ i = .img g → g.rw = false) → WRel ρ (mkH [intsO n fv]).den w → VsRel ρ (dens [nilO, slI 0 n]) (Array.toList args') → Calls P f args' w fun e w' => e = .returned (F [] (intL n fv)) ∧ Below w.heap.size w w')
    (h10 : ∀ n fv ρ w args', n ≤ 70368744177664 → (∀ i g, ρ i = .img g → g.rw = false) → WRel ρ (mkH [intsO n fv]).den w → VsRel ρ (dens [slI 0 n, nilO]) (Array.toList args') → Calls P f args' w fun e w' => e = .returned (F (intL n fv) []) ∧ Below w.heap.size w w')
    (h11 : ∀ n fv n2 fv2 ρ w args', n ≤ 70368744177664 → n2 ≤ 70368744177664 → (∀ i g, ρ i = .img g → g.rw = false) → WRel ρ (mkH [intsO n fv, intsO n2 fv2]).den w → VsRel ρ (dens [slI 0 n, slI 1 n2]) (Array.toList args') →
      Calls P f args' w fun e w' => e = .returned (F (intL n fv) (intL n2 fv2)) ∧ Below w.heap.size w w') : TabOK P f (in2A F) := by
  intro ρ hh w args args' v h2 wr ra e
  obtain ⟨hn, e⟩ := tabF_some e
  obtain ⟨la⟩ := args'
  simp only at ra
  have wrm := wr.more hn
  unfold in2A at e
  match args, ra, e with
  | [], _, e => cases e
  | [_], _, e => cases e
  | _ :: _ :: _ :: _, _, e => cases e
  | [o, o2], ra, e =>
    simp only at e
    cases ra with
    | cons x x' l l' hx ht =>
    cases ht with
    | cons y y' l l' hy ht =>
    cases ht
    rcases intsA_run e with ⟨n, c, rfl, e1⟩ | ⟨r, off, n, d, rw0, ops, rfl, hn1, hg, hl, htk, e1⟩
    · rcases intsA_run e1 with ⟨n2, c2, rfl, e2⟩ | ⟨r2, off2, n2, d2, rw2, ops2, rfl, hn2, hg2, hl2, htk2, e2⟩
      · simp only [AM.run, Option.some.injEq, Prod.mk.injEq] at e2
        obtain ⟨rfl, rfl⟩ := e2
        have wc : WRel (subEmbL ρ []) (mkH []).den w := sub_WRelL wrm rfl (by decide) (fun i r off o hi => by simp at hi)
        refine Calls.mono (h00 _ w ⟨[x', y']⟩ (subEmbL_ro ρ []) wc (.cons _ _ _ _ (nil_rel hx) (.cons _ _ _ _ (nil_rel hy) .nil))) ?_
        rintro e w' ⟨rfl, hb⟩
        exact CallEnd.of_below wr hn (hF _ _) hb
      · simp only [AM.run, Option.some.injEq, Prod.mk.injEq] at e2
        obtain ⟨rfl, rfl⟩ := e2
        have wc := sub_WRel wrm hg2 htk2 (cellsOfInt_plain ops2) (intsO_of ops2)
        have := h01 ops2.length (fi ops2) _ w ⟨[x', y']⟩ (by omega) (subEmb_ro ρ r2 off2) wc (.cons _ _ _ _ (nil_rel hx) (.cons _ _ _ _ (by rw [← hl2] at hy; exact sub_slice wrm hg2 hy) .nil))
        rw [intL_get] at this
        refine Calls.mono this ?_
        rintro e w' ⟨rfl, hb⟩
        exact CallEnd.of_below wr hn (hF _ _) hb
    · rcases intsA_run e1 with ⟨n2, c2, rfl, e2⟩ | ⟨r2, off2, n2, d2, rw2, ops2, rfl, hn2, hg2, hl2, htk2, e2⟩
      · simp only [AM.run, Option.some.injEq, Prod.mk.injEq] at e2
        obtain ⟨rfl, rfl⟩ := e2
        have wc := sub_WRel wrm hg htk (cellsOfInt_plain ops) (intsO_of ops)
        have := h10 ops.length (fi ops) _ w ⟨[x', y']⟩ (by omega) (subEmb_ro ρ r off) wc (.cons _ _ _ _ (by rw [← hl] at hx; exact sub_slice wrm hg hx) (.cons _ _ _ _ (nil_rel hy) .nil))
        rw [intL_get] at this
        refine Calls.mono this ?_
        rintro e w' ⟨rfl, hb⟩
        exact CallEnd.of_below wr hn (hF _ _) hb
      · simp only [AM.run, Option.some.injEq, Prod.mk.injEq] at e2
        obtain ⟨rfl, rfl⟩ := e2
        have wc : WRel (subEmbL ρ [(r, off), (r2, off2)]) (mkH [intsO ops.length (fi ops), intsO ops2.length (fi ops2)]).den w := by
          refine sub_WRelL wrm rfl (by simp [most]) fun i r' off' o hi ho => ?_
          match i, hi, ho with
          | 0, hi, ho =>
            simp only [List.getElem?_cons_zero, Option.some.injEq, Prod.mk.injEq] at hi ho
            obtain ⟨rfl, rfl⟩ := hi
            subst ho
            exact ⟨d, _, rw0, hg, htk, cellsOfInt_plain ops, intsO_of ops⟩
          | 1, hi, ho =>
            simp only [List.getElem?_cons_succ, List.getElem?_cons_zero, Option.some.injEq, Prod.mk.injEq] at hi ho
            obtain ⟨rfl, rfl⟩ := hi
            subst ho
            exact ⟨d2, _, rw2, hg2, htk2, cellsOfInt_plain ops2, intsO_of ops2⟩
          | i + 2, hi, ho => simp at hi
        have := h11 ops.length (fi ops) ops2.length (fi ops2) _ w ⟨[x', y']⟩ (by omega) (by omega) (subEmbL_ro ρ _) wc
          (.cons _ _ _ _ (by rw [← hl] at hx; exact sub_sliceL wrm (i := 0) rfl hg hx) (.cons _ _ _ _ (by rw [← hl2] at hy; exact sub_sliceL wrm (i := 1) rfl hg2 hy) .nil))
        rw [intL_get, intL_get] at this
        refine Calls.mono this ?_
        rintro e w' ⟨rfl, hb⟩
        exact CallEnd.of_below wr hn (hF _ _) hb
end Go.Ev
end
section
/-! Slices of integers among the arguments. -/
namespace Go.Ev
open Go.ChangeShapes Go.WideShapes Go.RowKit
/-- A slice of integers, in a world. -/
def IntsW (w : World) (o : Value) (l : List Int) (s : Slot) : Prop :=
  ∃ (a : Addr) (len cap : Nat), o = .slice (some a) len cap ∧ l.length = len ∧ len ≤ cap ∧ len ≤ 70368744177664 ∧
    ((s = .dead ∧ l = []) ∨ ∃ c e fz, s = .img ⟨a.block, a.off, c.size, false⟩ ∧ a.spot = none ∧ w.heap[a.block]? = some (.cells c e fz) ∧ a.off + cap * 1 ≤ c.size ∧ ∀ j v, (l.flatMap cellsOfInt)[j]? = some v → c[a.off + j]? = some v)
theorem IntsW.ro {w : World} {o : Value} {l : List Int} {s : Slot} (h : IntsW w o l s) : ∀ g, s = .img g → g.rw = false := by
  intro g hg
  obtain ⟨a, len, cap, _, _, _, _, ⟨h1, _⟩ | ⟨c, e, fz, h1, _⟩⟩ := h
  · rw [h1] at hg; cases hg
  · rw [h1] at hg; cases hg; rfl
theorem IntsW.len {w : World} {o : Value} {l : List Int} {s : Slot} (h : IntsW w o l s) : l.length ≤ 70368744177664 := by
  obtain ⟨a, len, cap, _, h1, _, h2, _⟩ := h
  omega
theorem IntsW.at {w : World} {o : Value} {l : List Int} {s : Slot} (h : IntsW w o l s) (ρ : Emb) : (intsO l.length (fi l)).den ≠ .dead ∧ ObjAt ρ w s (intsO l.length (fi l)).den := by
  rw [intsO_of]
  refine ⟨(fun h => by cases h), ?_⟩
  obtain ⟨a, len, cap, _, h1, h2, _, ⟨h3, h4⟩ | ⟨c, e, fz, h3, h4, h5, h6, h7⟩⟩ := h
  · exact .inr ⟨h3, by rw [h4]; rfl⟩
  · refine .inl ⟨_, h3, rfl, c, e, fz, h5, rfl, ?_, fun j v hj => ⟨v, h7 j v hj, plain1_rel (List.all_eq_true.1 (cellsOfInt_plain l) v (List.mem_of_getElem? hj))⟩, fun hf => by cases hf⟩
    rw [cellsOfInt_length]
    simp only
    omega
theorem IntsW.rel {w : World} {o : Value} {l : List Int} {s : Slot} (h : IntsW w o l s) {ρ : Emb} {i : Nat} (hi : ρ i = s) : VRel ρ (SV.den (slI i l.length)) o := by
  obtain ⟨a, len, cap, rfl, h1, h2, _, h3⟩ := h
  subst h1
  show VRel ρ (.slice (some ⟨i, 0, none⟩) l.length 1) _
  refine .sl _ a _ _ cap ⟨?_, rfl, h2, fun g hg => ?_⟩
  · show ρ i ≠ .free
    rw [hi]
    rcases h3 with ⟨h3, _⟩ | ⟨c, e, fz, h3, _⟩ <;> rw [h3] <;> simp
  · have hg : ρ i = .img g := hg
    rw [hi] at hg
    rcases h3 with ⟨h3, _⟩ | ⟨c, e, fz, h3, h4, h5, h6, _⟩
    · rw [h3] at hg; cases hg
    · rw [h3] at hg
      cases hg
      exact .inr ⟨h4, rfl, rfl, h6⟩
theorem flat_getI : ∀ (l : List Int) (j : Nat) (v : Value), (l.flatMap cellsOfInt)[j]? = some v → ∃ k, l[j]? = some k ∧ v = .int .i64 k
  | [], j, v, h => by simp at h
  | o :: l, 0, v, h => by
    simp only [List.flatMap_cons, cellsOfInt, List.cons_append, List.nil_append, List.getElem?_cons_zero, Option.some.injEq] at h
    exact ⟨o, rfl, h.symm⟩
  | o :: l, j + 1, v, h => by
    simp only [List.flatMap_cons, cellsOfInt, List.cons_append, List.nil_append, List.getElem?_cons_succ] at h
    obtain ⟨k, h1, h2⟩ := flat_getI l j v h
    exact ⟨k, by simpa using h1, h2⟩
section
variable {H : Type} {enc : TypeId × Value → H} {P : Program} {w : World} {base : Nat} {held : Bool}
/-- A slice of integers, read. -/
theorem open_ints {t e : TypeId} (ht : P.underlying t = some (.slice e)) (he : P.underlying e = some (.int .i64)) (hc1 : P.cellsOf e = 1) (hb8 : P.bytesOf e = 8) {n : Nat} {c : Value} {x : DataW H × List MemPlace} (h : DataW.trod enc P w base (fun _ => true) held n t [c] = some x)
    (hz : ∀ k ∈ x.1.weights P t, k ≤ reachBytes) : ∃ l : List Int, (c = .slice none 0 0 ∧ l = []) ∨ ∃ s, IntsW w c l s := by
  rcases Go.Deep.open_slice ht h with ⟨h0, _⟩ | ⟨a, len, cap, m, n', D, Pl, hcs, _, hl, _, hm, hx, hi⟩
  · simp only [List.cons.injEq, and_true] at h0
    exact ⟨[], .inl ⟨h0, rfl⟩⟩
  · simp only [List.cons.injEq, and_true] at hcs
    simp only [if_true] at hm
    subst hm
    have key : ∀ i, ∃ k : Int, i < m → w.cell? (a.add (i * 1)) = some (.int .i64 k) := by
      intro i
      by_cases him : i < m
      · obtain ⟨cs', h1, h2⟩ := hi i him
        rw [hc1] at h1
        obtain ⟨_, hl1, hcell⟩ := World.cells?_some h1
        obtain ⟨k, e0, _, _⟩ := DataW.trod_int he h2
        subst e0
        have h0 := hcell 0 (by decide)
        rw [Go.Deep.add_add] at h0
        exact ⟨k, fun _ => by simpa using h0⟩
      · exact ⟨0, fun h => absurd h him⟩
    obtain ⟨f, hf⟩ := Classical.axiomOfChoice key
    subst hx
    simp only [DataW.weights, ht] at hz
    have hlen : (len + (m - len)) * 8 ≤ reachBytes := by
      have := hz _ (List.mem_cons_self ..)
      rw [hb8] at this
      simpa using this
    have hr : reachBytes < 140737488355328 := reachBytes_lt
    refine ⟨(List.range len).map f, .inr ?_⟩
    · by_cases h0 : m = 0
      · have : len = 0 := by omega
        subst this
        exact ⟨.dead, a, 0, m, hcs, rfl, hl, by omega, .inl ⟨rfl, rfl⟩⟩
      · have hc0 := (hf 0 (by omega))
        have hspot : a.spot = none := by simpa [Addr.add] using World.cell?_spot hc0
        obtain ⟨b, o, sp⟩ := a
        simp only at hspot
        subst hspot
        rw [add_none] at hc0
        have hb : ∃ c e fz, w.heap[b]? = some (.cells c e fz) := by
          unfold World.cell? at hc0
          simp only at hc0
          split at hc0
          · rename_i c e fz hq
            exact ⟨c, e, fz, hq⟩
          · cases hc0
        obtain ⟨c', e', fz, hb⟩ := hb
        have hcell : ∀ i, i < m → c'[o + i]? = some (.int .i64 (f i)) := by
          intro i him
          have := hf i him
          rw [add_none, cell_of hb] at this
          simpa using this
        refine ⟨.img ⟨b, o, c'.size, false⟩, ⟨b, o, none⟩, len, m, hcs, by simp, hl, by omega, .inr ⟨c', e', fz, rfl, rfl, hb, ?_, fun j v hj => ?_⟩⟩
        · have := hcell (m - 1) (by omega)
          have hlt : o + (m - 1) < c'.size := by
            rcases Nat.lt_or_ge (o + (m - 1)) c'.size with h | h
            · exact h
            · rw [Array.getElem?_eq_none h] at this; cases this
          simp only
          omega
        · obtain ⟨k, h1, rfl⟩ := flat_getI _ j v hj
          rw [List.getElem?_map] at h1
          have hil : j < len := by
            rcases Nat.lt_or_ge j len with h | h
            · exact h
            · rw [List.getElem?_eq_none (by simpa using h)] at h1; cases h1
          rw [List.getElem?_range hil] at h1
          simp only [Option.map_some, Option.some.injEq] at h1
          subst h1
          exact hcell j (by omega)
theorem open_intsV {t e : TypeId} (ht : P.underlying t = some (.slice e)) (he : P.underlying e = some (.int .i64)) (hc1 : P.cellsOf e = 1) (hb8 : P.bytesOf e = 8) {v : Value} {d : DataW H} {p : List MemPlace} {b0 : Nat}
    (hv : Value.okWide P w .any b0 t v) (h : DataW.Trod enc P w base (fun _ => true) held t v d p) (hz : ∀ k ∈ d.weights P t, k ≤ reachBytes) : ∃ l : List Int, (v = .slice none 0 0 ∧ l = []) ∨ ∃ s, IntsW w v l s := by
  unfold Value.okWide at hv
  rw [ht] at hv
  obtain ⟨fuel, hf⟩ := h
  have hvc : v.cells.toList = [v] := by
    unfold Cell.okWide Cell.ok at hv
    rw [ht] at hv
    cases v <;> first
      | rfl
      | (exfalso; simp_all)
  rw [hvc] at hf
  exact open_ints ht he hc1 hb8 hf hz
end
end Go.Ev
end
section
/-! Scripts cut into pieces: rows of ops that grow, and the plain law. -/
namespace Go.Ev
open Go
/-- Where the first number below one is. -/
def lowQ (i : Int) : List Int → Int
  | [] => -1
  | k :: l => if k < 1 then i else lowQ (i + 1) l
noncomputable section
/-- One row more. -/
def apI (M : Nat) (K : Nat → Int) (row : List SV) (j : Nat) : Nat → Int := fun i => bif Nat.blt i M then K i else valInt (cellAt row 4 j (i - M))
def apB (M : Nat) (B : Nat → ByteArray) (row : List SV) (j : Nat) : Nat → ByteArray := fun i => bif Nat.blt i M then B i else valStr (cellAt row 4 j (i - M))
abbrev outA (M : Nat) (k s : Nat → Int) (b : Nat → ByteArray) (n : Nat → Int) : SObj := .arr ⟨false, M⟩ (opFs k s b n) true
abbrev outL (L : List OpD) : SObj := outA L.length (fk L) (fs L) (fb L) (fn L)
abbrev slA (i M : Nat) : SV := .sl i (.c 0) ⟨false, M⟩ 4
abbrev apO (M : Nat) (k s : Nat → Int) (b : Nat → ByteArray) (n : Nat → Int) (row : List SV) : SObj := .arr ⟨false, M + 1⟩ [.int .i64 (apI M k row 0), .int .i64 (apI M s row 1), .str (apB M b row 2), .int .i64 (apI M n row 3)] true
abbrev opRow (o : OpD) (l : Bool) : List SV := [.int .i64 false o.k, .int .i64 false o.s, .str false o.b, .int .i64 l o.n]
/-- How many bytes the next piece has. -/
def cutN (c : List Int) (x : Nat) (t : ByteArray) : Nat := max 1 (min (c.getD (x % c.length) 1).toNat t.size)
def frag1 (c : List Int) (k s : Int) (x : Nat) (t : ByteArray) : List OpD × Nat :=
  if h : t.size = 0 then ([], x) else
    let r := frag1 c k s (x + 1) (t.extract (cutN c x t) t.size)
    (⟨k, s, t.extract 0 (cutN c x t), 0⟩ :: r.1, r.2)
termination_by t.size
decreasing_by
  have : 1 ≤ cutN c x t := Nat.le_max_left _ _
  rw [ByteArray.size_extract]
  omega
/-- The ops of a script that is cut. -/
def fragQ (c : List Int) : Nat → List OpD → List OpD
  | _, [] => []
  | x, o :: l => if c = [] ∨ o.b.size = 0 then o :: fragQ c x l else (frag1 c o.k o.s x o.b).1 ++ fragQ c (frag1 c o.k o.s x o.b).2 l
abbrev zSet : SetD := ⟨0, false, 0, false, 0, false, 0, 0, 0, 0, 0⟩
/-- What comes of a cut: a setup, ops, an error. -/
def fragR (chk : SetD → List OpD → Int) (g : SetD) (ops : List OpD) (c : List Int) : SetD × List OpD × Int :=
  if chk g ops ≠ 0 then (zSet, [], chk g ops) else if 0 ≤ lowQ 0 c then (zSet, [], 3) else if 400 < (fragQ c 0 ops).length then (zSet, [], 6) else (g, fragQ c 0 ops, 0)
end
theorem frag1_nil (c : List Int) (k s : Int) (x : Nat) (t : ByteArray) (h : t.size = 0) : frag1 c k s x t = ([], x) := by
  rw [frag1]
  simp [h]
theorem frag1_cons (c : List Int) (k s : Int) (x : Nat) (t : ByteArray) (h : t.size ≠ 0) : frag1 c k s x t = (⟨k, s, t.extract 0 (cutN c x t), 0⟩ :: (frag1 c k s (x + 1) (t.extract (cutN c x t) t.size)).1, (frag1 c k s (x + 1) (t.extract (cutN c x t) t.size)).2) := by
  conv => lhs; rw [frag1]
  simp [h]
theorem lowQ_neg : ∀ (l : List Int) (i : Int), 0 ≤ i → lowQ i l < 0 → ∀ v ∈ l, 1 ≤ v
  | [], _, _, _, v, hv => by cases hv
  | k :: l, i, hi, h, v, hv => by
    unfold lowQ at h
    by_cases hk : k < 1
    · rw [if_pos hk] at h; omega
    · rw [if_neg hk] at h
      rcases List.mem_cons.1 hv with rfl | hv
      · omega
      · exact lowQ_neg l (i + 1) (by omega) h v hv
theorem cells_app (L : List OpD) (o : OpD) (l : Bool) : (apO L.length (fk L) (fs L) (fb L) (fn L) (opRow o l)).den = (outL (L ++ [o])).den := by
  have h1 : (outL (L ++ [o])).den = .cells ((L ++ [o]).flatMap cellsOfOp) true := by
    simp only [SObj.den]
    rw [arr_ops, opsL_get]
  rw [h1]
  simp only [SObj.den]
  congr 1
  rw [show ([.int .i64 (apI L.length (fk L) (opRow o l) 0), .int .i64 (apI L.length (fs L) (opRow o l) 1), .str (apB L.length (fb L) (opRow o l) 2), .int .i64 (apI L.length (fn L) (opRow o l) 3)] : List SF) = opFs (apI L.length (fk L) (opRow o l) 0) (apI L.length (fs L) (opRow o l) 1) (apB L.length (fb L) (opRow o l) 2) (apI L.length (fn L) (opRow o l) 3) from rfl, arr_ops]
  congr 1
  apply List.ext_getElem?
  intro i
  rw [List.getElem?_map]
  by_cases hi : i < L.length
  · rw [List.getElem?_range (by omega), Option.map_some, List.getElem?_append_left hi, List.getElem?_eq_getElem hi]
    have hb := blt_of hi
    simp only [apI, apB, hb, cond_true, fk, fs, fb, fn, List.getD_eq_getElem?_getD, List.getElem?_eq_getElem hi, Option.getD_some]
  · by_cases he : i = L.length
    · subst he
      rw [List.getElem?_range (by omega), Option.map_some, List.getElem?_append_right (Nat.le_refl _), Nat.sub_self]
      have hb := blt_not (Nat.lt_irrefl L.length)
      simp only [apI, apB, hb, cond_false, Nat.sub_self]
      rfl
    · rw [List.getElem?_eq_none (by simp; omega), List.getElem?_eq_none (by simp; omega)]
      rfl
theorem cells_one (o : OpD) (l : Bool) : (SObj.cells (opRow o l) true).den = (outL [o]).den := by
  have h1 : (outL [o]).den = .cells (([o] : List OpD).flatMap cellsOfOp) true := by
    simp only [SObj.den]
    rw [arr_ops, opsL_get]
  rw [h1]
  rfl
end Go.Ev
end
section
/-! Functions of a script and of integers that give a new script. -/
namespace Go.Ev
open Go.RowKit
noncomputable section
abbrev resS (g : SetD) (s : SV) (e : Int) : SV := .tuple [scrS g s, .int .i64 false e]
def newScr (id : Nat) (r : SetD × List OpD × Int) : AM Value :=
  match r.2.1 with
  | [] => .ret (resS r.1 nilO r.2.2).den
  | o :: l => .new (outL (o :: l)).den (.ret (resS r.1 (slA id (l.length + 1)) r.2.2).den)
def newScrS (id : Nat) (r : SetD × List OpD × Int) : SM SV :=
  .node r.2.1.isEmpty (.ret (resS r.1 nilO r.2.2)) (.new (outL r.2.1) (.ret (resS r.1 (slA id r.2.1.length) r.2.2)))
def frA (G : SetD → List OpD → Bool) (R : SetD → List OpD → List Int → SetD × List OpD × Int) (args : List Value) (id : Nat) : AM Value :=
  match args with
  | [a, o2] => match scrOf a with
    | some (g, o) => opsA o fun ops => intsA o2 fun c => bif G g ops then newScr id (R g ops c) else .fail
    | none => .fail
  | _ => .fail
def frS (G : SetD → List OpD → Bool) (R : SetD → List OpD → List Int → SetD × List OpD × Int) (args : List SV) (id : Nat) : SM SV :=
  match args with
  | [a, o2] => match scrOfS a with
    | some (g, o) => opsSym o fun ops => intsSym o2 fun c => .node (G g ops) (newScrS id (R g ops c)) .fail
    | none => .fail
  | _ => .fail
end
theorem newScr_hom (id : Nat) (r : SetD × List OpD × Int) : Hom HV (newScrS id r) (newScr id r) := by
  obtain ⟨g, l, e⟩ := r
  cases l with
  | nil => exact .node _ _ _ _ (fun _ => .ret _ _ rfl) fun h => by cases h
  | cons o l => exact .node _ _ _ _ (fun h => by cases h) fun _ => .new _ _ _ _ rfl (.ret _ _ rfl)
theorem fr_hom {G : SetD → List OpD → Bool} {R : SetD → List OpD → List Int → SetD × List OpD × Int} : ∀ args id, Hom HV (frS G R args id) (frA G R (dens args) id) := by
  intro args id
  unfold frS frA
  match args with
  | [] => exact .fail _
  | [_] => exact .fail _
  | _ :: _ :: _ :: _ => exact .fail _
  | [a, o2] =>
    simp only [dens]
    cases ha : scrOfS a with
    | none => exact .fail _
    | some p =>
      obtain ⟨g, o⟩ := p
      rw [(scrOfS_den ha).1]
      refine opsSym_hom (fun ops => intsSym_hom (fun c => ?_) o2) o
      refine .node _ _ _ _ (fun hg => ?_) fun _ => .fail _
      rw [hg]
      exact newScr_hom id _
/-- How such a call ends. -/
def FrEnd (ρc : Emb) (w : World) (r : SetD × List OpD × Int) : Ending → World → Prop := fun e w' => ∃ v' ρf, e = .returned v' ∧ Frame1 ρc w ρf w' ∧
  ((r.2.1 = [] ∧ VRel ρf (resS r.1 nilO r.2.2).den v') ∨ ∃ k g, ρf k = .img g ∧ g.rw = true ∧ r.2.1 ≠ [] ∧ ObjRel ρf w' (outL r.2.1).den g ∧ VRel ρf (resS r.1 (slA k r.2.1.length) r.2.2).den v')
theorem scr_arg {ρ : Emb} {g : SetD} {o : Value} {x : Value} (h : VRel ρ (.agg (dens g.sv ++ [o]).toArray) x) : ∃ o', x = .agg (dens g.sv ++ [o']).toArray ∧ VRel ρ o o' := by
  cases h with
  | agg y y' hr =>
    obtain ⟨ta, tv, e1, e2, e3⟩ := hr.last
    have e4 := plains_eq _ _ (set_plain g) e2
    subst e4
    exact ⟨tv, by congr 1; apply Array.toList_inj.1; rw [e1], e3⟩
theorem scrS_den (g : SetD) (s : SV) : (scrS g s).den = .agg (dens g.sv ++ [s.den]).toArray := by
  show Value.agg (dens (g.sv ++ [s])).toArray = _
  congr 2
theorem sl_rebase {ρf ρ1 : Emb} {k id : Nat} {g : Img} (hk : ρf k = .img g) (h1 : ρ1 id = .img g) {n s : Nat} {v' : Value} (r : VRel ρf (.slice (some ⟨k, 0, none⟩) n s) v') : VRel ρ1 (.slice (some ⟨id, 0, none⟩) n s) v' := by
  cases r with
  | sl a a' len c cap' hr =>
    refine .sl _ a' _ _ cap' ⟨?_, rfl, hr.2.2.1, fun g1 hg1 => ?_⟩
    · show ρ1 id ≠ _
      rw [h1]
      simp
    · have hg1 : ρ1 id = .img g1 := hg1
      rw [h1] at hg1
      cases hg1
      exact hr.2.2.2 g hk
theorem res_rebase {ρf ρ1 : Emb} {k id : Nat} {g : Img} (hk : ρf k = .img g) (h1 : ρ1 id = .img g) {gs : SetD} {n : Nat} {e : Int} {v' : Value} (r : VRel ρf (resS gs (slA k n) e).den v') : VRel ρ1 (resS gs (slA id n) e).den v' := by
  cases r with
  | tuple y y' hr =>
    have hr : VsRel ρf [(scrS gs (slA k n)).den, .int .i64 e] y'.toList := hr
    obtain ⟨l'⟩ := y'
    simp only at hr
    cases hr with
    | cons a a' m m' ha hm =>
    cases hm with
    | cons b b' m m' hb hm =>
    cases hm
    cases hb
    rw [scrS_den] at ha
    obtain ⟨o', rfl, ho⟩ := scr_arg ha
    refine .tuple _ _ ?_
    show VsRel ρ1 [(scrS gs (slA id n)).den, .int .i64 e] _
    exact .cons _ _ _ _ (scrW_rel (sl_rebase hk h1 ho)) (.cons _ _ _ _ (.int _ _) .nil)
theorem outL_den (L : List OpD) : (outL L).den = .cells (L.flatMap cellsOfOp) true := by
  simp only [SObj.den]
  rw [arr_ops, opsL_get]
theorem fr_end {ρ ρc : Emb} {h h1 : AH} {w w1 : World} {e : Ending} {r : SetD × List OpD × Int} {v : Value} (wr : WRel ρ h w) (hn : h.next + 1 ≤ most) (hro : ∀ i g, ρc i = .img g → g.rw = false) (hE : FrEnd ρc w r e w1)
    (hr : (newScr h.next r).run h.next (h.more 1) = some (v, h1)) : CallEnd ρ w v h1 e w1 := by
  obtain ⟨v', ρf, rfl, fr, hE⟩ := hE
  obtain ⟨gs, l, er⟩ := r
  rcases hE with ⟨h0, rv⟩ | ⟨k, g, hk, hrw, hne, ho, rv⟩
  · simp only at h0
    subst h0
    simp only [newScr, AM.run, Option.some.injEq, Prod.mk.injEq] at hr
    obtain ⟨rfl, rfl⟩ := hr
    exact CallEnd.plain wr hn hro rfl rv fr
  · simp only at hne ho rv
    cases l with
    | nil => exact absurd rfl hne
    | cons o l =>
      simp only [newScr, AM.run] at hr
      cases hg : (h.more 1).get h.next with
      | some _ => rw [hg] at hr; cases hr
      | none =>
        rw [hg] at hr
        simp only at hr
        cases hb : Nat.blt h.next (h.more 1).next with
        | false => rw [hb] at hr; cases hr
        | true =>
          rw [hb] at hr
          simp only [cond_true, Option.some.injEq, Prod.mk.injEq] at hr
          obtain ⟨rfl, rfl⟩ := hr
          rw [outL_den] at ho ⊢
          exact CallEnd.newObj wr hn hro fr hk hrw (cellsOfOp_plain _) ho fun ρ1 h1 => res_rebase hk h1 rv
theorem fr_tab {P : Program} {f : FuncId} {G : SetD → List OpD → Bool} {R : SetD → List OpD → List Int → SetD × List OpD × Int}
    (h00 : ∀ g ρ w args', G g [] = true → (∀ i g, ρ i = .img g → g.rw = false) → WRel ρ (mkH []).den w → VsRel ρ (dens [scrS g nilO, nilO]) (Array.toList args') → Calls P f args' w (FrEnd ρ w (R g [] [])))
    (h01 : ∀ g m fv ρ w args', m ≤ 70368744177664 → G g [] = true → (∀ i g, ρ i = .img g → g.rw = false) → WRel ρ (mkH [intsO m fv]).den w → VsRel ρ (dens [scrS g nilO, slI 0 m]) (Array.toList args') → Calls P f args' w (FrEnd ρ w (R g [] (intL m fv))))
    (h10 : ∀ g len k s b n ρ w args', len ≤ 70368744177664 → G g (opsL len k s b n) = true → (∀ i g, ρ i = .img g → g.rw = false) → WRel ρ (mkH [opsO len k s b n]).den w → VsRel ρ (dens [scrS g (slO len), nilO]) (Array.toList args') → Calls P f args' w (FrEnd ρ w (R g (opsL len k s b n) [])))
    (h11 : ∀ g len k s b n m fv ρ w args', len ≤ 70368744177664 → m ≤ 70368744177664 → G g (opsL len k s b n) = true → (∀ i g, ρ i = .img g → g.rw = false) → WRel ρ (mkH [opsO len k s b n, intsO m fv]).den w → VsRel ρ (dens [scrS g (slO len), slI 1 m]) (Array.toList args') →
      Calls P f args' w (FrEnd ρ w (R g (opsL len k s b n) (intL m fv)))) : TabOK P f (frA G R) := by
  intro ρ hh w args args' v h2 wr ra e
  obtain ⟨hn, e⟩ := tabF_some e
  obtain ⟨la⟩ := args'
  simp only at ra
  have wrm := wr.more hn
  unfold frA at e
  match args, ra, e with
  | [], _, e => cases e
  | [_], _, e => cases e
  | _ :: _ :: _ :: _, _, e => cases e
  | [a, o2], ra, e =>
    simp only at e
    cases ha : scrOf a with
    | none => rw [ha] at e; cases e
    | some p =>
      obtain ⟨g, o⟩ := p
      rw [ha] at e
      simp only at e
      have hv := scrOf_spec ha
      subst hv
      cases ra with
      | cons x x' l l' hx ht =>
      cases ht with
      | cons y y' l l' hy ht =>
      cases ht
      obtain ⟨o', rfl, ho'⟩ := scr_arg hx
      clear hx
      have fin : ∀ {ops : List OpD} {c : List Int} {ρc : Emb}, (∀ i g, ρc i = .img g → g.rw = false) → (bif G g ops then newScr hh.next (R g ops c) else .fail : AM Value).run hh.next (hh.more 1) = some (v, h2) → (G g ops = true → Calls P f ⟨[.agg (dens g.sv ++ [o']).toArray, y']⟩ w (FrEnd ρc w (R g ops c))) →
          Calls P f ⟨[.agg (dens g.sv ++ [o']).toArray, y']⟩ w (CallEnd ρ w v h2) := by
        intro ops c ρc hro hrun hc
        cases hG : G g ops with
        | false => rw [hG] at hrun; cases hrun
        | true =>
          rw [hG] at hrun
          exact (hc hG).mono fun e w1 hE => fr_end wr hn hro hE hrun
      rcases opsA_run e with ⟨n, c, rfl, e1⟩ | ⟨r, off, n, d, rw0, ops, rfl, hn1, hg, hl, htk, e1⟩
      · rcases intsA_run e1 with ⟨n2, c2, rfl, e2⟩ | ⟨r2, off2, n2, d2, rw2, is2, rfl, hn2, hg2, hl2, htk2, e2⟩
        · have wc : WRel (subEmbL ρ []) (mkH []).den w := sub_WRelL wrm rfl (by decide) (fun i r off o hi => by simp at hi)
          refine fin (subEmbL_ro ρ []) e2 fun hG => ?_
          exact h00 g _ w _ hG (subEmbL_ro ρ []) wc (.cons _ _ _ _ (scrW_rel (nil_rel ho')) (.cons _ _ _ _ (nil_rel hy) .nil))
        · have wc := sub_WRel wrm hg2 htk2 (cellsOfInt_plain is2) (intsO_of is2)
          refine fin (subEmb_ro ρ r2 off2) e2 fun hG => ?_
          have := h01 g is2.length (fi is2) _ w ⟨[.agg (dens g.sv ++ [o']).toArray, y']⟩ (by omega) hG (subEmb_ro ρ r2 off2) wc (.cons _ _ _ _ (scrW_rel (nil_rel ho')) (.cons _ _ _ _ (by rw [← hl2] at hy; exact sub_slice wrm hg2 hy) .nil))
          rw [intL_get] at this
          exact this
      · rcases intsA_run e1 with ⟨n2, c2, rfl, e2⟩ | ⟨r2, off2, n2, d2, rw2, is2, rfl, hn2, hg2, hl2, htk2, e2⟩
        · have wc := sub_WRel wrm hg htk (cellsOfOp_plain ops) (opsO_of ops)
          refine fin (subEmb_ro ρ r off) e2 fun hG => ?_
          have := h10 g ops.length (fk ops) (fs ops) (fb ops) (fn ops) _ w ⟨[.agg (dens g.sv ++ [o']).toArray, y']⟩ (by omega) (by rw [opsL_get]; exact hG) (subEmb_ro ρ r off) wc (.cons _ _ _ _ (scrW_rel (by rw [← hl] at ho'; exact sub_slice wrm hg ho')) (.cons _ _ _ _ (nil_rel hy) .nil))
          rw [opsL_get] at this
          exact this
        · have wc : WRel (subEmbL ρ [(r, off), (r2, off2)]) (mkH [opsO ops.length (fk ops) (fs ops) (fb ops) (fn ops), intsO is2.length (fi is2)]).den w := by
            refine sub_WRelL wrm rfl (by simp [most]) fun i r' off' o hi ho => ?_
            match i, hi, ho with
            | 0, hi, ho =>
              simp only [List.getElem?_cons_zero, Option.some.injEq, Prod.mk.injEq] at hi ho
              obtain ⟨rfl, rfl⟩ := hi
              subst ho
              exact ⟨d, _, rw0, hg, htk, cellsOfOp_plain ops, opsO_of ops⟩
            | 1, hi, ho =>
              simp only [List.getElem?_cons_succ, List.getElem?_cons_zero, Option.some.injEq, Prod.mk.injEq] at hi ho
              obtain ⟨rfl, rfl⟩ := hi
              subst ho
              exact ⟨d2, _, rw2, hg2, htk2, cellsOfInt_plain is2, intsO_of is2⟩
            | i + 2, hi, ho => simp at hi
          refine fin (subEmbL_ro ρ [(r, off), (r2, off2)]) e2 fun hG => ?_
          have := h11 g ops.length (fk ops) (fs ops) (fb ops) (fn ops) is2.length (fi is2) _ w ⟨[.agg (dens g.sv ++ [o']).toArray, y']⟩ (by omega) (by omega) (by rw [opsL_get]; exact hG) (subEmbL_ro ρ _) wc
            (.cons _ _ _ _ (scrW_rel (by rw [← hl] at ho'; exact sub_sliceL wrm (i := 0) rfl hg ho')) (.cons _ _ _ _ (by rw [← hl2] at hy; exact sub_sliceL wrm (i := 1) rfl hg2 hy) .nil))
          rw [opsL_get, intL_get] at this
          exact this
end Go.Ev
end

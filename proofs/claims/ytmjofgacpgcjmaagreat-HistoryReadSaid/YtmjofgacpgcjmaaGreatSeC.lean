import Derived.Test.YtmjofgacpgcjmaaGreatSeE
import Derived.Test.YtmjofgacpgcjmaaGreatEvB
section
namespace Go.Ev
section
variable {P : Program} {id : Nat}

theorem eqNilS_den {t : TypeId} {x : SV} {y : Value} {l b : Bool} (h : eqNilS P t x y = some (l, b)) : aEq P t x.den y = some b := by
  cases x <;> simp only [eqNilS, reduceCtorEq] at h
  case ptr q off =>
    split at h
    · rename_i hu
      simp only [Option.some.injEq, Prod.mk.injEq] at h
      obtain ⟨_, rfl⟩ := h
      simp only [SV.den, aEq, eqNil, hu, nilPtr, Option.isNone_some]
    · cases h
  case sl q off n s =>
    split at h
    · rename_i hu
      simp only [Option.some.injEq, Prod.mk.injEq] at h
      obtain ⟨_, rfl⟩ := h
      simp only [SV.den, aEq, eqNil, hu, nilSl, Option.isNone_some]
    · cases h
  case map r =>
    split at h
    · rename_i hu
      simp only [Option.some.injEq, Prod.mk.injEq] at h
      obtain ⟨_, rfl⟩ := h
      simp only [SV.den, aEq, eqNil, hu, nilMap, Option.isNone_some]
    · cases h
  case func f a c =>
    split at h
    · rename_i hu
      simp only [Option.some.injEq, Prod.mk.injEq] at h
      obtain ⟨_, rfl⟩ := h
      simp only [SV.den, aEq, eqNil, hu, nilFun]
    · cases h
  case iface q v =>
    split at h
    · rename_i hu
      simp only [Option.some.injEq, Prod.mk.injEq] at h
      obtain ⟨_, rfl⟩ := h
      simp only [SV.den, aEq, hu]
    · cases h
  case raw v =>
    split at h
    · rename_i c hc
      simp only [Option.some.injEq, Prod.mk.injEq] at h
      rw [← h.2]
      exact hc
    · cases h
theorem eqS_den {t : TypeId} {x y : SV} {l b : Bool} (h : eqS P t x y = some (l, b)) : aEq P t x.den y.den = some b := by
  unfold eqS at h
  split at h
  · split at h
    · exact eqAggS_den h
    · rename_i m
      have := eqAggS_den h
      rw [ofV1s_den] at this
      exact this
    · cases h
  · split at h
    · split at h
      · rename_i hu
        simp only [Option.some.injEq, Prod.mk.injEq] at h
        rw [← h.2]
        simp only [SV.den, aEq, hu]
      · cases h
    · cases h
  · split at h
    · rename_i hx hy
      simp only [Option.some.injEq, Prod.mk.injEq] at h
      rw [← h.2, strOf_den hx, strOf_den hy]
      rfl
    · split at h
      · exact eqNilS_den h
      · cases h

theorem sBin_hom (op : BinOp) (t : TypeId) (x y : SV) : HomN (sBin P op t x y) (retO (aBin P op t x.den y.den)) := by
  have other : ∀ x : SV, HomN (sBinOther P op t x y) (retO (binOther P op t x.den y.den)) := by
    intro x
    cases op <;> first
      | exact .fail _
      | exact sConcat_hom t x y
      | (simp only [sBinOther]
         split
         · rename_i l b h
           simp only [binOther, eqS_den h, Option.map_some]
           exact rv_hom rfl
         · exact .fail _)
  have other' : ∀ x : SV, (∀ k n, x.den ≠ .int k n) → HomN (sBinOther P op t x y) (retO (aBin P op t x.den y.den)) := fun x hx => by
    have e : aBin P op t x.den y.den = binOther P op t x.den y.den := by
      unfold aBin
      split
      · rename_i k n hk
        exact absurd hk (hx k n)
      · rfl
    rw [e]
    exact other x
  cases x
  case int k l n =>
    cases y <;> first
      | exact sBinInt_hom op k l n _ _ _
      | exact .fail _
  case raw v =>
    by_cases hv : ∃ k n, v = .int k n
    · obtain ⟨k, n, rfl⟩ := hv
      have no : ∀ l b, eqS P t (.raw (.int k n)) y ≠ some (l, b) := fun l b hh => by
        have := eqS_den hh
        simp only [SV.den, aEq] at this
        unfold eqNil at this
        split at this
        · simp [nilPtr] at this
        · simp [nilSl] at this
        · simp [nilMap] at this
        · unfold nilFun at this
          split at this
          · split at this <;> rename_i h1 <;> first
              | cases h1
              | cases this
          · cases this
        · cases this
      have fl : ∀ op, sBinOther P op t (.raw (.int k n)) y = .fail := fun op => by
        cases op <;> first
          | rfl
          | (simp only [sBinOther]
             split
             · rename_i l b hh
               exact absurd hh (no l b)
             · rfl)
      have e : sBin P op t (.raw (.int k n)) y = sBinOther P op t (.raw (.int k n)) y := rfl
      rw [e, fl]
      exact .fail _
    · exact other' _ fun k n h => hv ⟨k, n, h⟩
  all_goals exact other' _ fun _ _ h => by cases h

/-! Conversions. -/
theorem u8sOf_den : ∀ {l : List SV} {bs : List UInt8}, u8sOf l = some bs → bytesOfVals (dens l) = some bs
  | [], bs, h => by simp only [u8sOf, Option.some.injEq] at h; subst h; rfl
  | v :: l, bs, h => by
    simp only [u8sOf] at h
    split at h
    · split at h
      · cases hr : u8sOf l with
        | none => rw [hr] at h; cases h
        | some m =>
          rw [hr] at h
          simp only [Option.some.injEq] at h
          subst h
          simp only [dens, SV.den, bytesOfVals, u8sOf_den hr, Option.map_some]
      · cases h
    · cases h
theorem bytesOfVals_append : ∀ (a b : List Value) (x y : List UInt8), bytesOfVals a = some x → bytesOfVals b = some y → bytesOfVals (a ++ b) = some (x ++ y)
  | [], b, x, y, h1, h2 => by simp only [bytesOfVals, Option.some.injEq] at h1; subst h1; exact h2
  | v :: a, b, x, y, h1, h2 => by
    simp only [bytesOfVals] at h1
    split at h1
    · split at h1
      · cases hr : bytesOfVals a with
        | none => rw [hr] at h1; cases h1
        | some m =>
          rw [hr] at h1
          simp only [Option.map_some, Option.some.injEq] at h1
          subst h1
          simp only [List.cons_append, bytesOfVals, bytesOfVals_append a b m y hr h2, Option.map_some]
      · cases h1
    · cases h1
theorem bytesOfF (n : Nat) (f : Nat → Int) : bytesOfVals (arrCells n [.int .u8 f]) = some ((List.range n).map fun i => UInt8.ofNat (f i).toNat) := by
  induction n with
  | zero => rfl
  | succ n ih =>
    have e : arrCells (n + 1) [.int .u8 f] = arrCells n [.int .u8 f] ++ [.int .u8 (f n)] := by simp [arrCells, List.range_succ, rowAt, dens, SF.get, SV.den]
    rw [e, List.range_succ, List.map_append]
    exact bytesOfVals_append _ _ _ _ ih rfl
theorem strOfRow_den {r : SRow} {v : SV} (h : strOfRow r = some v) : ∃ bs, bytesOfVals (rowDen r) = some bs ∧ v.den = .string ⟨bs.toArray⟩ := by
  cases r with
  | lits l =>
    simp only [strOfRow] at h
    cases hr : u8sOf l with
    | none => rw [hr] at h; cases h
    | some bs =>
      rw [hr] at h
      simp only [Option.some.injEq] at h
      subst h
      exact ⟨bs, u8sOf_den hr, rfl⟩
  | arr n fs =>
    simp only [strOfRow] at h
    split at h
    · simp only [Option.some.injEq] at h
      subst h
      exact ⟨_, bytesOfF _ _, rfl⟩
    · cases h
theorem sConvert_hom (src dst : TypeId) (x : SV) : HomN (sConvert P id src dst x) (oConvert P id src dst x.den) := by
  have str : ∀ x : SV, HomN (match P.underlying src, P.underlying dst with
    | some .string, some .string => match strOf x with
      | some _ => rv x
      | none => .fail
    | some .string, some (.slice e) => bif isByte P e then
        match strBytes x with
        | some bs => .new (.cells (bs.map byteSV) true) (rv (.sl id (.c 0) ⟨true, bs.length⟩ 1))
        | none => match strOf x with
          | some (_, s) => .new (.arr ⟨false, s.size⟩ [byteF s] true) (rv (.sl id (.c 0) ⟨false, s.size⟩ 1))
          | none => .fail
      else .fail
    | _, _ => .fail) (oConvert P id src dst x.den) := by
    intro x
    split
    · rename_i hs hd
      split
      · rename_i p hx
        obtain ⟨l, s⟩ := p
        rw [strOf_den hx]
        simp only [oConvert, hs, hd]
        exact rv_hom (strOf_den hx)
      · exact .fail _
    · rename_i e hs hd
      refine .bifL fun hb => ?_
      split
      · rename_i bs hx
        obtain ⟨s, e1, e2⟩ := strBytes_den hx
        rw [e1]
        simp only [oConvert, hs, hd, hb, cond_true, convBytes]
        refine .new _ _ _ _ ?_ (rv_hom ?_)
        · simp only [SObj.den, bytes_den, ← e2, valsOfBytes]
        · have hz : s.data.toList.length = s.size := by rw [Array.length_toList]; rfl
          rw [← e2]
          simp only [SV.den, sl, hz]
          rfl
      · split
        · rename_i s hx
          rw [strOf_den hx]
          simp only [oConvert, hs, hd, hb, cond_true, convBytes]
          exact .new _ _ _ _ (by simp only [SObj.den, byteF_den]) (rv_hom rfl)
        · exact .fail _
    · exact .fail _
  unfold sConvert
  split
  · rename_i l n
    simp only [SV.den, oConvert]
    cases P.underlying src with
    | none => exact .fail _
    | some _ =>
      cases P.underlying dst with
      | none => exact .fail _
      | some d =>
        cases d <;> first
          | exact .fail _
          | exact rv_hom rfl
  · rename_i b off n _
    split
    · rename_i e hs hd
      simp only [SV.den, oConvert, hs, hd]
      cases isByte P e with
      | false => exact .fail _
      | true =>
        simp only [cond_true, convStr, okAt, Option.isNone_none, aCells_eq]
        refine .get _ _ _ fun o => ?_
        have := rowS_hom (R := NR) (k := fun r => rvO (strOfRow r)) (K' := fun cs => match bytesOfVals cs with
          | some bs => retV (.string ⟨bs.toArray⟩)
          | none => .fail) (n := n) (size := 1) (fun r _ => by
            cases hr : strOfRow r with
            | none => exact .fail _
            | some v =>
              obtain ⟨bs, e1, e2⟩ := strOfRow_den hr
              simp only [rvO, e1]
              exact rv_hom e2) o off
        have e1 : Nat.mul n.n 1 = n.n := Nat.mul_one _
        rw [e1] at this
        exact this
    · exact .fail _
  · rename_i n _
    split
    · rename_i e hs hd
      refine .bifL fun hb => ?_
      simp only [Bool.and_eq_true] at hb
      simp only [SV.den, oConvert, hs, hd, hb.1, cond_true, convStr, hb.2]
      exact rv_hom rfl
    · exact .fail _
  · exact str _

/-! Structs and arrays. -/
theorem fold_put (off : Nat) : ∀ (l : List Value) (k : Nat) (cs : Array Value), off + k + l.length ≤ cs.size → ((l.zipIdx k).foldl (fun (cs : Array Value) (p : Value × Nat) => cs.setIfInBounds (off + p.2) p.1) cs).toList = putCells cs.toList (off + k) l
  | [], k, cs, _ => by simp [putCells]
  | v :: l, k, cs, h => by
    simp only [List.zipIdx_cons, List.foldl_cons]
    have hl : off + k < cs.toList.length := by simp at h ⊢; omega
    rw [fold_put off l (k + 1) _ (by simp at h ⊢; omega), Array.toList_setIfInBounds]
    simp only [putCells, List.length_cons]
    rw [List.set_eq_take_append_cons_drop, if_pos hl]
    have h1 : off + (k + 1) = (cs.toList.take (off + k)).length + 1 := by rw [List.length_take]; omega
    rw [h1, List.take_append, List.take_of_length_le (l := cs.toList.take (off + k)) (by omega), List.drop_append]
    have h2 : (cs.toList.take (off + k)).length + 1 - (cs.toList.take (off + k)).length = 1 := by omega
    have h3 : (cs.toList.take (off + k)).length + 1 + l.length - (cs.toList.take (off + k)).length = l.length + 1 := by omega
    rw [h2, h3, List.drop_eq_nil_of_le (as := cs.toList.take (off + k)) (by omega)]
    simp only [List.take_succ_cons, List.take_zero, List.nil_append, List.append_assoc, List.cons_append, List.drop_succ_cons, List.drop_drop]
    congr 4
    omega
theorem fillS_den (place : Nat → Option (Nat × Nat)) : ∀ (ps : List (Nat × SV)) (z r : List SV) (za : Array Value), fillS place z ps = some r → za.toList = dens z → ∃ ra, Instr.fill place za (ps.map fun p => (p.1, p.2.den)) = some ra ∧ ra.toList = dens r
  | [], z, r, za, h, hz => by
    simp only [fillS, Option.some.injEq] at h
    subst h
    exact ⟨za, rfl, hz⟩
  | (i, v) :: ps, z, r, za, h, hz => by
    simp only [fillS] at h
    cases hp : place i with
    | none => rw [hp] at h; cases h
    | some q =>
      obtain ⟨off, size⟩ := q
      rw [hp] at h
      simp only at h
      cases hc : (Nat.beq (cellsS v).length size && Nat.ble (Nat.add off size) z.length && (cellsS v).all notAggS) with
      | false => rw [hc] at h; cases h
      | true =>
        rw [hc] at h
        simp only [cond_true] at h
        simp only [Bool.and_eq_true] at hc
        have hs : (cellsS v).length = size := Nat.eq_of_beq_eq_true hc.1.1
        have hle : off + size ≤ z.length := nat_ble hc.1.2
        have e1 : v.den.cells.toList = dens (cellsS v) := cellsS_den v
        have e2 : v.den.cells.size = size := by rw [← Array.length_toList, e1, dens_length, hs]
        have e3 : za.size = z.length := by rw [← Array.length_toList, hz, dens_length]
        have hn : ¬ ((decide (v.den.cells.size ≠ size) || decide (off + v.den.cells.size > za.size)) = true) := by
          rw [e2, e3]
          simp only [ne_eq, not_true_eq_false, decide_false, Bool.false_or, decide_eq_true_eq]
          omega
        simp only [List.map_cons, Instr.fill, hp]
        rw [if_neg hn]
        refine fillS_den place ps _ r _ h ?_
        rw [← Array.foldl_toList, Array.toList_zipIdx, e1]
        have := fold_put off (dens (cellsS v)) 0 za (by rw [dens_length, hs, e3]; omega)
        rw [this, hz, ← putS_den]
        rfl
theorem partsS_den (ev : Operand → SV) (ps : Array (Nat × Operand)) : (partsS ev ps).map (fun p => (p.1, p.2.den)) = partsOf (fun x => (ev x).den) ps := by
  unfold partsS partsOf
  rw [Array.toList_map, List.map_map]
  rfl
theorem sBuild_hom (t : TypeId) (ps : List (Nat × SV)) : HomN (sBuild P t ps) (oBuild P t (ps.map fun p => (p.1, p.2.den))) := by
  unfold sBuild
  split
  · rename_i z pl hz hp
    split
    · rename_i l hf
      obtain ⟨za, h1, h2⟩ := zeroS_den hz
      obtain ⟨ra, h3, h4⟩ := fillS_den pl ps z l za hf h2
      unfold oBuild
      rw [h1]
      unfold placesOK at hp
      have fin : HomN (rv (.agg l)) (retO ((Instr.fill pl za (ps.map fun p => (p.1, p.2.den))).map Value.agg)) := by
        rw [h3]
        refine rv_hom ?_
        simp only [SV.den, ← h4]
      split at hp
      · rename_i fs hu
        simp only [hu]
        cases hb : (fs.all fun f => (P.info? f.type).isSome) with
        | false => rw [hb] at hp; cases hp
        | true =>
          rw [hb] at hp
          simp only [cond_true, Option.some.injEq] at hp ⊢
          subst hp
          exact fin
      · rename_i n e hu
        simp only [hu]
        cases hi : P.info? e with
        | none => rw [hi] at hp; cases hp
        | some inf =>
          rw [hi] at hp
          simp only [Option.some.injEq] at hp ⊢
          subst hp
          exact fin
      · cases hp
    · exact .fail _
  · exact .fail _
theorem repS_den (n : Nat) (z : List SV) : dens (repS n z) = repCells n (dens z) := by
  unfold repS repCells
  induction n with
  | zero => rfl
  | succ n ih => simp only [List.replicate_succ, List.flatten_cons, dens_append, ih]
theorem sBuildSlice_hom (t : TypeId) (len : Nat) (ps : List (Nat × SV)) : HomN (sBuildSlice P id t len ps) (oBuildSlice P id t len (ps.map fun p => (p.1, p.2.den))) := by
  unfold sBuildSlice oBuildSlice
  split
  · rename_i elem hu
    rw [hu]
    simp only
    split
    · rename_i inf z hi hz
      obtain ⟨za, h1, h2⟩ := zeroS_den hz
      have e3 : za.size = z.length := by rw [← Array.length_toList, h2, dens_length]
      rw [hi, h1]
      simp only [e3]
      cases (Nat.ble (len * inf.size) 1048576 && Nat.beq z.length inf.size) with
      | false => exact .fail _
      | true =>
        simp only [cond_true]
        split
        · rename_i cs hf
          obtain ⟨ra, h3, h4⟩ := fillS_den _ ps (repS len z) cs (repCells len za.toList).toArray hf (by rw [repS_den, h2])
          have e : (fun i => some (i * inf.size, inf.size) : Nat → Option (Nat × Nat)) = fun i => some (Nat.mul i inf.size, inf.size) := rfl
          rw [e, h3]
          exact .new _ _ _ _ (by simp only [SObj.den, h4]) (rv_hom rfl)
        · exact .fail _
    · exact .fail _
  · exact .fail _
theorem zeroF_den (v : SV) (i : Nat) : ((zeroF v).get i).den = v.den := by cases v <;> rfl
theorem arr_rep (n : Nat) (z : List SV) : arrCells n (z.map zeroF) = repCells n (dens z) := by
  have e : ∀ i, dens (rowAt (z.map zeroF) i) = dens z := fun i => by
    rw [dens_map, dens_map, rowAt, List.map_map, List.map_map]
    exact List.map_congr_left fun v _ => zeroF_den v i
  unfold arrCells repCells
  simp only [e]
  induction n with
  | zero => rfl
  | succ n ih =>
    rw [List.range_succ, List.flatMap_append, ih, List.replicate_succ', List.flatten_append]
    simp
theorem sMakeSlice_hom (t : TypeId) (l c : SV) : HomN (sMakeSlice P id t l c) (oMakeSlice P id t l.den c.den) := by
  unfold sMakeSlice oMakeSlice
  split
  · rename_i elem hu
    rw [hu]
    simp only
    split
    · rename_i inf z hi hz
      obtain ⟨za, h1, h2⟩ := zeroS_den hz
      have e3 : za.size = z.length := by rw [← Array.length_toList, h2, dens_length]
      rw [hi, h1]
      simp only
      split
      · rename_i ll n
        split
        · rename_i lc m
          refine .bifL fun hzl => .test fun hc => ?_
          simp only [Bool.and_eq_true, decide_eq_true_eq] at hc
          obtain ⟨⟨⟨h0, rfl⟩, hb1⟩, hb2⟩ := hc
          obtain ⟨k, rfl⟩ : ∃ k : Nat, n = k := ⟨n.toNat, (Int.toNat_of_nonneg h0).symm⟩
          have hn : natOf (SV.den (.int .i64 ll (k : Int))) = some k := rfl
          have hm : natOf (SV.den (.int .i64 lc (k : Int))) = some k := rfl
          simp only [Int.toNat_natCast] at hb1 hb2 ⊢
          have ok : (Nat.beq k k && Nat.ble (inf.bytes * k) 70368744177664 && Nat.ble k 70368744177664 && Nat.beq za.size inf.size) = true := by
            simp only [Bool.and_eq_true]
            exact ⟨⟨⟨Nat.beq_refl _, hb1⟩, hb2⟩, by rw [e3]; exact hzl⟩
          rw [hn, hm]
          simp only [ok, cond_true]
          cases ll with
          | true => exact .new _ _ _ _ (by simp only [SObj.den, repS_den, h2]) (rv_hom rfl)
          | false => exact .new _ _ _ _ (by simp only [SObj.den, arr_rep, h2]) (rv_hom rfl)
        · exact .fail _
      · exact .fail _
    · exact .fail _
  · exact .fail _

theorem sFieldAddr_hom (s : TypeId) (x : SV) (f : Nat) : HomN (sFieldAddr P s x f) (retO (aFieldAddr P s x.den f)) := by
  cases x <;> first
    | exact .fail _
    | skip
  rename_i b off
  simp only [sFieldAddr, aFieldAddr, addrOf_ptr]
  cases hu : P.underlying s with
  | none => exact .fail _
  | some d =>
    cases d <;> first
      | exact .fail _
      | skip
    rename_i fs
    simp only
    cases fs[f]? with
    | none => exact .fail _
    | some fd =>
      simp only
      cases P.info? fd.type with
      | none => exact .fail _
      | some inf =>
        simp only
        cases Nat.beq inf.size 0 with
        | true => exact .fail _
        | false =>
          simp only [cond_false]
          refine rv_hom ?_
          cases off with
          | c o => rfl
          | el i w j => simp only [SV.den, SOff.n, Value.pointer.injEq, Option.some.injEq, Addr.mk.injEq, and_true, true_and]; exact (Nat.add_assoc _ _ _).symm
theorem partS_den {t : TypeId} {cs : List SV} {off : Nat} {v : SV} (h : partS P t cs off = some v) : aPart P t (dens cs).toArray off = some v.den := by
  unfold partS at h
  unfold aPart
  cases hs : shapeOf P t with
  | none => rw [hs] at h; cases h
  | some p =>
    obtain ⟨agg, n⟩ := p
    rw [hs] at h
    simp only at h ⊢
    cases agg with
    | true =>
      simp only [cond_true] at h ⊢
      cases hb : Nat.ble (Nat.add off n) cs.length with
      | false => rw [hb] at h; cases h
      | true =>
        rw [hb] at h
        simp only [cond_true, Option.some.injEq] at h
        subst h
        simp only [SV.den, Option.some.injEq, Value.agg.injEq]
        apply Array.toList_inj.1
        simp only [Array.toList_extract, List.extract_eq_take_drop, dens_take, dens_drop, Nat.add_sub_cancel_left]
    | false =>
      simp only [cond_false] at h ⊢
      rw [← Array.getElem?_toList, dens_get, h]
      rfl
theorem sField_hom (t : TypeId) (x : SV) (f : Nat) : HomN (sField P t x f) (retO (aField P t x.den f)) := by
  cases x <;> first
    | exact .fail _
    | skip
  rename_i cs
  simp only [sField, aField, SV.den]
  cases hu : P.underlying t with
  | none => exact .fail _
  | some d =>
    cases d <;> first
      | exact .fail _
      | skip
    rename_i fs
    simp only
    cases fs[f]? with
    | none => exact .fail _
    | some fd => exact rvO_hom fun v hv => partS_den hv
theorem ptrTo_hom {b : Nat} {off : SOff} {k : SN} {s len : Nat} {i : Int} (hk : aIdx i len = some k.n) : HomN (ptrTo b (plusOff off k s)) (retO (elemAddr ⟨b, off.n, none⟩ s (aIdx i len))) := by
  rw [hk]
  cases hp : plusOff off k s with
  | none => exact .fail _
  | some o =>
    refine rv_hom ?_
    simp only [SV.den, plusOff_den hp]
    rfl
theorem sIndexAddr_hom (t : TypeId) (x ix : SV) : HomN (sIndexAddr P t x ix) (retO (aIndexAddr P t x.den ix.den)) := by
  cases ix <;> first
    | exact .fail _
    | skip
  rename_i kk li i
  simp only [sIndexAddr, aIndexAddr, SV.den, intOfV]
  cases hu : P.underlying t with
  | none => exact .fail _
  | some d =>
    cases d <;> first
      | exact .fail _
      | skip
    case slice e =>
      simp only
      cases P.info? e with
      | none => exact .fail _
      | some inf =>
        cases x <;> first
          | exact .fail _
          | skip
        exact sIdx_hom fun j hj => ptrTo_hom (k := ⟨_, j⟩) hj
    case array n e =>
      simp only
      cases P.info? e with
      | none => exact .fail _
      | some inf =>
        cases x <;> first
          | exact .fail _
          | skip
        exact sIdx_hom fun j hj => ptrTo_hom (k := ⟨_, j⟩) hj
theorem aIdx_lt {i : Int} {n k : Nat} (e : aIdx i n = some k) : k < n := by
  cases i with
  | ofNat x =>
    simp only [aIdx] at e
    cases hb : Nat.blt x n with
    | false => rw [hb] at e; cases e
    | true =>
      rw [hb] at e
      simp only [cond_true, Option.some.injEq] at e
      rw [← e]
      exact lt_of_blt hb
  | negSucc x => cases e
theorem byteOfS_hom {x : SV} {s : ByteArray} (hx : x.den = .string s) {k : SN} (hk : k.n < s.size) : HomN (byteOfS x k) (retO (byteAt s (some k.n))) := by
  have hl : k.n < s.data.toList.length := by rw [Array.length_toList]; exact hk
  have main : ∀ b : UInt8, s.data.toList[k.n]? = some b → HomN (rv (byteSV b)) (retO (byteAt s (some k.n))) := fun b hb => by
    simp only [byteAt, hb]
    exact rv_hom rfl
  have hg : s.data.toList[k.n]? = some (s.data.toList.getD k.n 0) := by
    rw [List.getD_eq_getElem?_getD, List.getElem?_eq_getElem hl]
    rfl
  unfold byteOfS
  split
  · rename_i bs hb
    obtain ⟨s', e1, e2⟩ := strBytes_den hb
    rw [hx] at e1
    cases e1
    rw [← e2]
    cases k.lit with
    | true =>
      simp only [cond_true]
      rw [hg]
      exact main _ hg
    | false => exact main _ hg
  · split
    · rename_i l s' hs
      have := strOf_den hs
      rw [hx] at this
      cases this
      exact main _ hg
    · exact .fail _
theorem pickPart_hom {e : TypeId} {cs : List SV} {s i : Nat} : ∀ (m t : Nat), HomN (pickPart P e cs s i m t) (retO (aPart P e (dens cs).toArray (i * s)))
  | 0, _ => .fail _
  | m + 1, t => by
    simp only [pickPart]
    cases hp : partS P e cs (Nat.mul t s) with
    | none => exact .fail _
    | some v =>
      refine .node _ _ _ _ (fun hc => ?_) fun _ => pickPart_hom m _
      obtain rfl := Nat.eq_of_beq_eq_true hc
      have hp : partS P e cs (i * s) = some v := hp
      rw [partS_den hp]
      exact rv_hom rfl
theorem sIndex_hom (t : TypeId) (x ix : SV) : HomN (sIndex P t x ix) (retO (aIndex P t x.den ix.den)) := by
  cases ix <;> first
    | exact .fail _
    | skip
  rename_i kk li i
  simp only [sIndex, aIndex, SV.den, intOfV]
  cases hu : P.underlying t with
  | none => exact .fail _
  | some d =>
    cases d <;> first
      | exact .fail _
      | skip
    case array n e =>
      simp only
      cases x <;> first
        | exact .fail _
        | skip
      rename_i cs
      simp only [SV.den]
      cases P.info? e with
      | none => exact .fail _
      | some inf =>
        simp only
        refine sIdx_hom fun j hj => ?_
        have hj : aIdx i n = some j := hj
        rw [hj]
        simp only
        cases li with
        | true => exact rvO_hom fun v hv => partS_den hv
        | false => exact pickPart_hom _ _
    case string =>
      simp only
      cases hn : strLen x with
      | none => exact .fail _
      | some n =>
        obtain ⟨s, e1, e2⟩ := strLen_den hn
        rw [e1]
        simp only
        refine sIdx_hom fun j hj => ?_
        rw [← e2] at hj
        rw [hj]
        exact byteOfS_hom e1 (k := ⟨_, j⟩) (aIdx_lt hj)

theorem sAssertNo_hom (t : TypeId) (ok : Bool) : HomN (sAssertNo P t ok) (retO (assertNo P t ok)) := by
  unfold sAssertNo assertNo
  cases ok with
  | false => exact .fail _
  | true =>
    simp only [cond_true]
    cases aZeroV P t with
    | none => exact .fail _
    | some z => exact rv_hom (by simp [SV.den, dens, ofV_den])
theorem sTypeAssert_hom (x : SV) (t : TypeId) (ok : Bool) : HomN (sTypeAssert P x t ok) (retO (aTypeAssert P x.den t ok)) := by
  unfold sTypeAssert aTypeAssert
  cases P.underlying t with
  | none => exact .fail _
  | some d =>
    have main : HomN (match x with
      | .iface u v => bif Nat.beq u t then rv (bif ok then .tuple [v, .bool true true] else v) else sAssertNo P t ok
      | .raw .nilIface => sAssertNo P t ok
      | _ => .fail) (retO (match x.den with
      | .iface u v => bif Nat.beq u t then some (bif ok then .tuple #[v, .bool true] else v) else assertNo P t ok
      | .nilIface => assertNo P t ok
      | _ => none)) := by
      split
      · rename_i u v
        simp only [SV.den]
        cases Nat.beq u t with
        | false => exact sAssertNo_hom t ok
        | true => cases ok <;> exact rv_hom (by simp [SV.den, dens])
      · exact sAssertNo_hom t ok
      · exact .fail _
    cases d <;> first
      | exact main
      | exact .fail _

/-! Calls. -/
theorem sEnter_hom (f : FuncId) (args : List SV) {args' : Array Value} (h : args' = (dens args).toArray) : HomN (sEnter P f args) (oEnter P f args') := by
  subst h
  unfold sEnter oEnter
  cases P.funcs[f]? with
  | none => exact .fail _
  | some fn =>
    simp only
    cases fn.body.isSome with
    | false => exact .fail _
    | true => exact .ret _ _ rfl
theorem sPanicV_hom (v : SV) : HomN (sPanicV v) (panicV (some v.den)) := by
  cases v <;> first
    | exact .fail _
    | exact .ret _ _ rfl
theorem sLen_hom (ts : Array TypeId) (args : List SV) : HomN (sLen P ts args) (oLen P ts (dens args).toArray) := by
  unfold sLen oLen
  split
  · rename_i t x rest ht
    have ha : (dens (x :: rest)).toArray[0]? = some x.den := by simp [dens]
    rw [ht, ha]
    simp only
    split
    · rename_i hu
      rw [hu]
      split
      · rename_i n hn
        obtain ⟨s, e1, e2⟩ := strLen_den hn
        rw [e1]
        refine rv_hom ?_
        simp only [SV.den, ← e2]
        rfl
      · exact .fail _
    · rename_i n _ hu
      rw [hu]
      exact rv_hom rfl
    · rename_i _ hu
      rw [hu]
      split
      · rename_i n hn
        obtain ⟨a, c, e⟩ := sliceLen_den hn
        rw [e]
        exact rv_hom rfl
      · exact .fail _
    · exact .fail _
  · exact .fail _
theorem sMin2_den {x y v : SV} (h : sMin2 x y = some v) : aMin2 x.den y.den = some v.den := by
  cases x <;> simp only [sMin2, reduceCtorEq] at h
  cases y <;> simp only [reduceCtorEq, Option.some.injEq] at h
  subst h
  rfl
theorem sMax2_den {x y v : SV} (h : sMax2 x y = some v) : aMax2 x.den y.den = some v.den := by
  cases x <;> simp only [sMax2, reduceCtorEq] at h
  cases y <;> simp only [reduceCtorEq, Option.some.injEq] at h
  subst h
  rfl
theorem sFoldl_den {f : SV → SV → Option SV} {g : Value → Value → Option Value} (hf : ∀ x y v, f x y = some v → g x.den y.den = some v.den) : ∀ (l : List SV) (x v : SV), sFoldl f x l = some v → aFoldl g x.den (dens l) = some v.den
  | [], x, v, h => by simp only [sFoldl, Option.some.injEq] at h; subst h; rfl
  | y :: l, x, v, h => by
    simp only [sFoldl] at h
    cases hz : f x y with
    | none => rw [hz] at h; cases h
    | some z =>
      rw [hz] at h
      simp only [dens, aFoldl, hf x y z hz]
      exact sFoldl_den hf l z v h
theorem sFold_den {f : SV → SV → Option SV} {g : Value → Value → Option Value} (hf : ∀ x y v, f x y = some v → g x.den y.den = some v.den) (l : List SV) (v : SV) (h : sFold f l = some v) : aFold g (dens l) = some v.den := by
  cases l with
  | nil => cases h
  | cons x l => exact sFoldl_den hf l x v h
theorem sBuiltin_hom (b : Builtin) (ts : Array TypeId) (args : List SV) : HomN (sBuiltin P id b ts args) (callBuiltin P id b ts (dens args).toArray) := by
  cases b <;> first
    | exact .fail _
    | exact sAppend_hom ts args
    | exact sLen_hom ts args
    | exact rvO_hom fun v hv => sFold_den (fun _ _ _ h => sMin2_den h) args v hv
    | exact rvO_hom fun v hv => sFold_den (fun _ _ _ h => sMax2_den h) args v hv
    | skip
  cases args with
  | nil => exact .fail _
  | cons x l =>
    have ha : (dens (x :: l)).toArray[0]? = some x.den := by simp [dens]
    simp only [sBuiltin, callBuiltin, ha]
    exact sPanicV_hom x
theorem args_den (ev : Operand → SV) (a : Array Operand) : a.map (fun x => (ev x).den) = (dens (a.toList.map ev)).toArray := by
  apply Array.toList_inj.1
  rw [Array.toList_map, dens_map, List.map_map]
  rfl
theorem sCallValue_hom (f : SV) (args : List SV) : HomN (sCallValue P f args) (callValue P f.den (dens args).toArray) := by
  cases f <;> first
    | exact .fail _
    | exact sEnter_hom _ _ (by simp [dens_append])
theorem sCall_hom (ev : Operand → SV) (c : Call) : HomN (sCall P id ev c) (oCall P id (fun x => (ev x).den) c) := by
  unfold sCall oCall
  rw [args_den]
  cases c.callee with
  | builtin b => exact sBuiltin_hom b _ _
  | value f => exact sCallValue_hom _ _
  | invoke _ _ => exact .fail _
theorem sDefer_hom (ev : Operand → SV) (c : Call) : HomN (sDefer ev c) (oDefer (fun x => (ev x).den) c) := by
  unfold sDefer oDefer
  cases c.callee with
  | builtin b => exact .fail _
  | invoke _ _ => exact .fail _
  | value f =>
    simp only
    rw [args_den]
    cases ev f <;> first
      | exact .fail _
      | exact .ret _ _ (by show ANext.defer _ = SNext.den _; simp [SNext.den, SDef.den, dens_append])

theorem sOp_hom (ev : Operand → SV) (o : Op) : HomN (sOp P id ev o) (aOp P id (fun x => (ev x).den) o) := by
  cases o <;> first
    | exact .fail _
    | exact rv_hom rfl
    | exact sAlloc_hom _
    | exact sBox_hom (cellsS_den _)
    | exact sLoad_hom _ _
    | exact sStore_hom _ _ _
    | exact sBin_hom _ _ _ _
    | exact sUn_hom _ _
    | exact sConvert_hom _ _ _
    | exact sMakeSlice_hom _ _ _
    | exact sFieldAddr_hom _ _ _
    | exact sField_hom _ _ _
    | exact sIndexAddr_hom _ _ _
    | exact sIndex_hom _ _ _
    | exact sTypeAssert_hom _ _ _
    | exact sCall_hom _ _
    | exact sDefer_hom _ _
    | exact sPanicV_hom _
    | skip
  case pick c a b =>
    simp only [sOp, aOp, sPick, oPick]
    cases ev c <;> first
      | exact .fail _
      | skip
    rename_i l t
    exact .cond (fun h => by simp only [SV.den, h]; exact rv_hom rfl) (fun h => by simp only [SV.den, h]; exact rv_hom rfl)
  case build t ps =>
    have := sBuild_hom (P := P) t (partsS ev ps)
    rw [partsS_den] at this
    exact this
  case buildSlice t n ps =>
    have := sBuildSlice_hom (P := P) (id := id) t n (partsS ev ps)
    rw [partsS_den] at this
    exact this
  case nilCheck x =>
    simp only [sOp, aOp, sNil, oNil]
    cases ev x <;> first
      | exact .fail _
      | exact rv_hom rfl
  case makeInterface t x =>
    simp only [sOp, aOp, sIface, oIface]
    cases P.underlying t with
    | none => exact .fail _
    | some d =>
      cases d <;> first
        | exact .fail _
        | exact rv_hom rfl
  case makeFunc fn first cap =>
    simp only [sOp, aOp, sFunc, oFunc]
    cases fn <;> first
      | exact .fail _
      | exact rv_hom (by simp only [SV.den, args_den])
  case slice t x lo hi mx =>
    have := sSlice_hom (P := P) t (ev x) (lo.map ev) (hi.map ev) (mx.map ev)
    simp only [Option.map_map] at this
    exact this
  case extract t i =>
    simp only [sOp, aOp, sExtract, oExtract]
    cases ev t <;> first
      | exact .fail _
      | skip
    rename_i vs
    simp only [SV.den]
    exact rvO_hom fun v hv => by rw [← Array.getElem?_toList, dens_get, hv]; rfl
end
end Go.Ev
end
section
namespace Go.Ev

theorem Tr.put_same {α : Type} (x : α) : ∀ (d : Nat) (t : Tr α) (i : Nat), t.flat d → i < 2 ^ d → Tr.get t i = some x → Tr.put d t i (.leaf x) = t
  | 0, .nil, i, _, _, h => by simp at h
  | 0, .leaf y, i, _, _, h => by simp only [Tr.get_leaf, Option.some.injEq] at h; subst h; rfl
  | 0, .node _ _, i, h, _, _ => h.elim
  | d + 1, .nil, i, _, _, h => by simp at h
  | d + 1, .leaf _, i, h, _, _ => h.elim
  | d + 1, .node l r, i, hf, hi, h => by
    rw [Tr.get_node] at h
    rw [Tr.put_node]
    have hi2 : Nat.div i 2 < 2 ^ d := by show i / 2 < 2 ^ d; omega
    cases hb : Nat.beq (Nat.mod i 2) 0 with
    | true => rw [hb] at h; simp only [sel_true] at h ⊢; rw [put_same x d l _ hf.1 hi2 h]
    | false => rw [hb] at h; simp only [sel_false] at h ⊢; rw [put_same x d r _ hf.2 hi2 h]

/-! Frames. -/
theorem sUndef_den : sUndef.den = undef := rfl
theorem slot_den (a : SAct) (t : Nat) : a.den.slot t = (a.slot t).den := by
  obtain ⟨n, d, l, ds⟩ := a
  show sel (Nat.blt t n) (orUndef (Tr.get (l.map SV.den) t)) undef = (sel (Nat.blt t n) (orUndefS (Tr.get l t)) sUndef).den
  rw [Tr.get_map]
  cases Nat.blt t n with
  | false => rfl
  | true => cases Tr.get l t <;> rfl
theorem eval_den (a : SAct) (x : Operand) : a.den.eval x = (a.eval x).den := by
  cases x with
  | tmp t => exact slot_den a t
  | const v => exact (ofV_den v).symm
  | global g => rfl
  | func f => rfl
theorem eval_fun (a : SAct) : a.den.eval = fun x => (a.eval x).den := funext (eval_den a)
theorem set_den (a : SAct) (t : Nat) (v : SV) : (a.set t v).den = a.den.set t v.den := by
  obtain ⟨n, d, l, ds⟩ := a
  show SAct.den (sel (Nat.blt t n) ⟨n, d, Tr.put d l t (.leaf v), ds⟩ ⟨n, d, l, ds⟩) = sel (Nat.blt t n) ⟨n, d, Tr.put d (l.map SV.den) t (.leaf v.den), ds.map SDef.den⟩ ⟨n, d, l.map SV.den, ds.map SDef.den⟩
  cases Nat.blt t n with
  | false => rfl
  | true =>
    simp only [sel_true, SAct.den, BAct.mk.injEq, true_and, and_true]
    exact (Tr.put_map _ _ _ _ _).symm
theorem put_den (a : SAct) (d : Option Tmp) (v : SV) : (a.put d v).den = a.den.put d v.den := by
  cases d with
  | none => rfl
  | some d => exact set_den a d v
theorem later_den (a : SAct) (d : SDef) : (a.later d).den = a.den.later d.den := rfl
theorem setAll_den : ∀ (l : List SV) (i : Nat) (a : SAct), (setAllS i l a).den = setAll i (dens l) a.den
  | [], _, _ => rfl
  | v :: l, i, a => by
    simp only [setAllS, dens, setAll]
    rw [setAll_den l, set_den]
theorem start_den (n : Nat) (l : List SV) : (SAct.start n l).den = BAct.start n (dens l) := setAll_den l 0 _

theorem set_same {a : BAct} (w : a.wf) {t : Nat} {v : Value} (h : a.slot t = v) (hv : v ≠ undef) : a.set t v = a := by
  rw [BAct.set_eq]
  rw [BAct.slot_eq] at h
  cases hb : Nat.blt t a.n with
  | false => rfl
  | true =>
    rw [hb] at h
    simp only [sel_true] at h ⊢
    cases hg : Tr.get a.tmps t with
    | none => rw [hg] at h; exact absurd h.symm hv
    | some u =>
      rw [hg] at h
      simp only [orUndef] at h
      subst h
      rw [Tr.put_same u a.d a.tmps t w.flat (Nat.lt_of_lt_of_le (lt_of_blt hb) w.room) hg]
theorem know_den {a : SAct} (w : a.den.wf) {t : Nat} {b : Bool} (h : (a.slot t).den = .bool b) : (a.set t (.bool true b)).den = a.den := by
  rw [set_den]
  exact set_same w (by rw [slot_den, h]; rfl) (by simp [SV.den, undef])

/-! Guards. -/
theorem wantV_yes {d : Tmp} {want : Bool} {v : SV} (h : wantV d want v = .yes) : ∃ b, v.den = .bool b ∧ (b == want) = true := by
  unfold wantV at h
  split at h
  · rename_i b
    split at h
    · cases hw : (b == want) with
      | true => exact ⟨b, rfl, hw⟩
      | false => rw [hw] at h; cases h
    · cases h
  · split at h <;> cases h
  · cases h
theorem wantV_ask {d e : Tmp} {c w want : Bool} {v : SV} (h : wantV d want v = .ask e c w) : v.den = .bool c ∧ e = d ∧ w = want := by
  unfold wantV at h
  split at h
  · split at h
    · split at h <;> cases h
    · cases h; exact ⟨rfl, rfl, rfl⟩
  · split at h <;> cases h
  · cases h
theorem wantV_no {d : Tmp} {want : Bool} {v : SV} (h : wantV d want v = .no) : (∀ b, v.den = .bool b → (b == want) = false) := by
  unfold wantV at h
  split at h
  · rename_i b
    split at h
    · intro c hc
      cases hc
      cases hw : (b == want) with
      | true => rw [hw] at h; cases h
      | false => rfl
    · cases h
  · split at h
    · cases h
    · rename_i hne
      intro b hb
      exact absurd hb (hne b)
  · rename_i h1 h2
    intro b hb
    cases v <;> cases hb <;> first
      | exact (h1 _ _ rfl).elim
      | exact (h2 _ rfl).elim
theorem want_match (a : SAct) (ops : Array Oper) (o : Oper) :
    match wantS ops a o with
    | .yes => bwanted ops a.den o = true
    | .no => bwanted ops a.den o = false
    | .ask d c want => (a.slot d).den = .bool c ∧ bwanted ops a.den o = (c == want)
    | .bad => True := by
  unfold wantS bwanted
  cases o.guard with
  | none => rfl
  | some p =>
    obtain ⟨j, want⟩ := p
    simp only
    unfold byielded
    cases ops[j]? with
    | none => rfl
    | some q =>
      simp only
      cases q.dst with
      | none => rfl
      | some d =>
        simp only [slot_den]
        cases hw : wantV d want (a.slot d) with
        | yes =>
          obtain ⟨b, e1, e2⟩ := wantV_yes hw
          simp only [e1, e2]
        | ask e c w =>
          obtain ⟨e1, rfl, rfl⟩ := wantV_ask hw
          simp only [e1, true_and]
        | no =>
          have := wantV_no hw
          simp only
          cases hd : (a.slot d).den <;> first
            | rfl
            | exact this _ hd
        | bad => trivial

/-! Results. -/
abbrev HV : SV → Value → Prop := fun v v' => v' = v.den
theorem cell1S_hom (agg : Bool) (c : List SV) : Hom HV (cell1S agg c) (cell1 agg (dens c)) := by
  unfold cell1S cell1
  cases agg with
  | true => exact .ret _ _ rfl
  | false =>
    simp only [cond_false]
    match c with
    | [] => exact .fail _
    | [v] => exact .ret _ _ rfl
    | _ :: _ :: _ => exact .fail _
theorem sLoadV_hom {P : Program} (t : TypeId) (x : SV) : Hom HV (sLoadV P t x) (aLoadV P t x.den) := by
  cases x with
  | ptr b off =>
    simp only [sLoadV, aLoadV, addrOf_ptr]
    cases shapeOf P t with
    | none => exact .fail _
    | some p =>
      obtain ⟨agg, n⟩ := p
      simp only
      refine .get _ _ _ fun o => ?_
      have := readS_hom (R := HV) (K' := cell1 agg) (cell1S_hom agg) o off n
      cases ho : o.den <;> rw [ho] at this <;> exact this
  | _ => exact .fail _
theorem sResults_hom {P : Program} (a : SAct) : ∀ l : List ResultVar, Hom (fun v v' => v' = dens v) (sResults P a l) (aResults P a.den l)
  | [] => .ret _ _ rfl
  | r :: rs => by
    simp only [sResults, aResults]
    refine Hom.bind (R := HV) ?_ fun v v' hv => Hom.bind (sResults_hom a rs) fun l l' hl => .ret _ _ (by rw [hv, hl]; rfl)
    cases r with
    | tmp t => exact .ret _ _ (slot_den a t)
    | cell x t =>
      show Hom HV (sLoadV P t (a.slot x)) (aLoadV P t (a.den.slot x))
      rw [slot_den]
      exact sLoadV_hom t _
theorem packed_den (l : List SV) : packed (dens l) = (packedS l).den := by
  match l with
  | [] => rfl
  | [v] => rfl
  | _ :: _ :: _ => rfl
theorem quietS_den (E : Env) : ∀ ds : List SDef, quietDefers E (ds.map SDef.den) = quietS E ds
  | [] => rfl
  | d :: ds => by
    simp only [List.map_cons, quietDefers, quietS, SDef.den, quietS_den E ds]
    congr 2
    simp [dens_length]

/-! Runs. -/
def SimS (ihS : CodeRunS) (ih : CodeRun) : Prop := ∀ c a h e a1 h1, a.den.wf → (ihS c a h).pick = some (e, a1, h1) → ih c a.den h.den = some (e.den, a1.den, h1.den) ∧ a1.den.wf
/-- What is told over open terms is what is told over values. -/
def HB (x : Bool × SV) (y : Bool × Value) : Prop := y = (x.1, x.2.den)
def EntHom (E : Env) (f : FuncId) : SEntry → Prop
  | .val r => ∃ r', E.tab f = some r' ∧ ∀ args id, Hom HV (r args id) (r' (dens args) id)
  | .pan r => E.tab f = none ∧ ∃ r', E.ptab f = some r' ∧ ∀ args id, Hom HB (r args id) (r' (dens args) id)
  | .recd q => ∃ q', E.recov f = some q' ∧ ∀ args v, Hom (fun _ _ => True) (q args v) (q' (dens args) v.den)
def TabHom (E : Env) (S : STab) : Prop := ∀ f e, S f = some e → EntHom E f e
theorem runNew_hom {α β : Type} {R : α → β → Prop} {m : Nat → SM α} {m' : Nat → AM β} (hm : ∀ id, Hom R (m id) (m' id)) {h h1 : SH} {a : α} (e : (runNewS m h).pick = some (a, h1)) : ∃ b, runNew m' h.den = some (b, h1.den) ∧ R a b := by
  unfold runNewS at e
  unfold runNew
  have hn : h.den.next = h.next := rfl
  rw [hn]
  cases hb : Nat.blt h.next most with
  | false => rw [hb] at e; cases e
  | true =>
    rw [hb] at e
    simp only [cond_true] at e ⊢
    exact run_hom (hm h.next) h.next ⟨h.t, h.next + 1, h.log⟩ a h1 e

section
variable {E : Env} {S : STab} {ihS : CodeRunS} {ih : CodeRun}

theorem callEnd_sim (ht : TabHom E S) {fn : Func} {r : SExit × SAct × SH} {x : SEnd} {h1 : SH} (h : (callEndS E S fn r).pick = some (x, h1)) : callEnd E fn (some (r.1.den, r.2.1.den, r.2.2.den)) = some (x.den, h1.den) := by
  obtain ⟨e, a, h0⟩ := r
  have fin : (finishS E fn a h0).pick = some (x, h1) → finish E fn a.den h0.den = some (x.den, h1.den) := by
    intro h
    unfold finishS at h
    unfold finish
    have hq : quietDefers E a.den.defers = quietS E a.defers := quietS_den E a.defers
    rw [hq]
    cases hb : quietS E a.defers with
    | false => rw [hb] at h; cases h
    | true =>
      rw [hb] at h
      simp only [cond_true, Tree.pick_bind] at h ⊢
      obtain ⟨⟨vs, h2⟩, e1, e2⟩ := h
      simp only [Tree.pick, Option.some.injEq, Prod.mk.injEq] at e2
      obtain ⟨rfl, rfl⟩ := e2
      obtain ⟨vs', e3, e4⟩ := run_hom (sResults_hom a fn.results.toList) 0 h0 vs h2 e1
      simp only [e3, e4, SEnd.den, packed_den]
  cases e with
  | normal => exact fin h
  | ret => exact fin h
  | exit id => cases h
  | panic v =>
    simp only [callEndS, finishPanicS] at h
    simp only [SExit.den, callEnd, finishPanic]
    have : a.den.defers = a.defers.map SDef.den := rfl
    rw [this]
    cases hd : a.defers with
    | cons d ds =>
      rw [hd] at h
      cases ds with
      | cons _ _ => cases h
      | nil =>
        simp only [Tree.pick_bind] at h
        obtain ⟨⟨uu, h2⟩, e1, ⟨vs, h3⟩, e2, e3⟩ := h
        simp only [Tree.pick, Option.some.injEq, Prod.mk.injEq] at e3
        obtain ⟨rfl, rfl⟩ := e3
        unfold recovS at e1
        cases hs : S d.fn with
        | none => rw [hs] at e1; cases e1
        | some en =>
          rw [hs] at e1
          cases en with
          | val r => cases e1
          | pan r => cases e1
          | recd q =>
            simp only at e1
            obtain ⟨q', hq, hh⟩ := ht d.fn (.recd q) hs
            obtain ⟨b, e4, _⟩ := runNew_hom (fun _ => hh (d.args ++ d.cap) v) e1
            have e5 : recovF E d.den [{ v := v.den, recovered := false }] h0.den = some (b, h2.den) := by
              unfold recovF
              have e6 : deferFn d.den = some (d.fn, dens (d.args ++ d.cap)) := by
                simp only [deferFn, SDef.den]
                congr 2
                rw [Array.toList_append, dens_append]
              simp only [oneP, Bool.or_self, cond_false, e6, hq]
              exact e4
            obtain ⟨vs', e7, e8⟩ := run_hom (sResults_hom a fn.results.toList) 0 h2 vs h3 e2
            simp only [List.map_cons, List.map_nil, e5, e7, e8, SEnd.den, packed_den]
    | nil =>
      rw [hd] at h
      simp only [Tree.pick, Option.some.injEq, Prod.mk.injEq] at h
      obtain ⟨rfl, rfl⟩ := h
      rfl

theorem callFS_sim (ht : TabHom E S) (hi : SimS ihS ih) {f : FuncId} {args : List SV} {h : SH} {x : SEnd} {h1 : SH} (e : (callFS E S ihS f args h).pick = some (x, h1)) : callF E ih f (dens args) h.den = some (x.den, h1.den) := by
  unfold callFS at e
  unfold callF
  cases hs : S f with
  | some en =>
   rw [hs] at e
   cases en with
   | recd q => cases e
   | pan r =>
    obtain ⟨h0, r', h2, h3⟩ := ht f (.pan r) hs
    simp only at e
    rw [h0, h2]
    simp only
    unfold ptabFS at e
    unfold ptabF
    rw [Tree.pick_bind] at e
    obtain ⟨⟨p, h4⟩, e1, e2⟩ := e
    simp only [Tree.pick, Option.some.injEq, Prod.mk.injEq] at e2
    obtain ⟨rfl, rfl⟩ := e2
    obtain ⟨p', e3, e4⟩ := runNew_hom (h3 args) e1
    simp only [e3]
    have e4 : p' = (p.1, p.2.den) := e4
    subst e4
    obtain ⟨b, v⟩ := p
    cases b <;> rfl
   | val r =>
    obtain ⟨r', h2, h3⟩ := ht f (.val r) hs
    simp only at e
    rw [h2]
    simp only
    unfold tabFS at e
    unfold tabF
    have hn : h.den.next = h.next := rfl
    rw [hn]
    cases hb : Nat.blt h.next most with
    | false => rw [hb] at e; cases e
    | true =>
      rw [hb] at e
      simp only [cond_true, Tree.pick_bind] at e ⊢
      obtain ⟨⟨v, h4⟩, e1, e2⟩ := e
      simp only [Tree.pick, Option.some.injEq, Prod.mk.injEq] at e2
      obtain ⟨rfl, rfl⟩ := e2
      obtain ⟨v', e3, e4⟩ := run_hom (h3 args h.next) h.next ⟨h.t, h.next + 1, h.log⟩ v h4 e1
      have e3 : AM.run h.next (r' (dens args) h.next) ⟨h.den.t, h.next + 1, h.den.log⟩ = some (v', h4.den) := e3
      have e4 : v' = v.den := e4
      simp only [e3, e4]
      rfl
  | none =>
    rw [hs] at e
    simp only at e
    cases ht2 : E.tab f with
    | some _ => rw [ht2] at e; cases e
    | none =>
      rw [ht2] at e
      simp only at e ⊢
      cases ht3 : E.ptab f with
      | some _ => rw [ht3] at e; cases e
      | none =>
      rw [ht3] at e
      simp only at e ⊢
      cases hf : E.P.funcs[f]? with
      | none => rw [hf] at e; cases e
      | some fn =>
        rw [hf] at e
        simp only at e ⊢
        unfold bodyFS at e
        unfold bodyF
        cases hb : fn.body with
        | none => rw [hb] at e; cases e
        | some c =>
          rw [hb] at e
          simp only at e ⊢
          rw [dens_length]
          cases hc : (Nat.ble fn.ntmps 512 && Nat.ble args.length fn.ntmps) with
          | false => rw [hc] at e; cases e
          | true =>
            rw [hc] at e
            simp only [cond_true, Tree.pick_bind] at e ⊢
            obtain ⟨⟨ex, a1, h2⟩, e1, e2⟩ := e
            simp only [Bool.and_eq_true] at hc
            have hw : (SAct.start fn.ntmps args).den.wf := by rw [start_den]; exact BAct.wf_start (nat_ble hc.1) _
            obtain ⟨e3, _⟩ := hi c _ h ex a1 h2 hw e1
            rw [start_den] at e3
            rw [e3]
            exact callEnd_sim ht e2

def SSR.den : SSR → SR
  | .next a h => .next a.den h.den
  | .stop e a h => .stop e.den a.den h.den
def SSR.wf : SSR → Prop
  | .next a _ => a.den.wf
  | .stop _ a _ => a.den.wf
theorem stepOpS_sim (ht : TabHom E S) (hi : SimS ihS ih) {id : Nat} {o : Oper} {a : SAct} {h : SH} {r : SSR} (hw : a.den.wf) (e : (stepOpS E S ihS id o a h).pick = some r) : stepOp E ih id o a.den h.den = some r.den ∧ r.wf := by
  unfold stepOpS at e
  unfold stepOp
  cases hok : opOK o.op with
  | false => rw [hok] at e; cases e
  | true =>
    rw [hok] at e
    simp only [Tree.pick_bind] at e ⊢
    obtain ⟨⟨x, h1⟩, e1, e2⟩ := e
    obtain ⟨y, e3, e4⟩ := run_hom (sOp_hom (P := E.P) (id := id) a.eval o.op) id h x h1 e1
    rw [eval_fun, e3]
    have e4 : y = x.den := e4
    subst e4
    simp only
    simp only at e2
    cases x with
    | value v =>
      simp only [finS, Tree.pick, Option.some.injEq] at e2
      subst e2
      exact ⟨by simp only [SNext.den, fin, SSR.den, put_den], by simp only [SSR.wf, put_den]; exact BAct.wf_put hw _ _⟩
    | skip =>
      simp only [finS, Tree.pick, Option.some.injEq] at e2
      subst e2
      exact ⟨by simp only [SNext.den, fin, SSR.den, put_den, sUndef_den], by simp only [SSR.wf, put_den]; exact BAct.wf_put hw _ _⟩
    | defer d =>
      simp only [finS, Tree.pick, Option.some.injEq] at e2
      subst e2
      exact ⟨by simp only [SNext.den, fin, SSR.den, put_den, later_den, sUndef_den], by simp only [SSR.wf, put_den, later_den]; exact BAct.wf_put (BAct.wf_later hw _) _ _⟩
    | panic v =>
      simp only [finS, Tree.pick, Option.some.injEq] at e2
      subst e2
      exact ⟨rfl, hw⟩
    | enter f args =>
      simp only [finS, Tree.pick_bind] at e2
      obtain ⟨⟨y, h2⟩, e5, e6⟩ := e2
      have := callFS_sim ht hi e5
      simp only [SNext.den, fin, finCall]
      rw [this]
      cases y with
      | returned v =>
        simp only [finCallS, Tree.pick, Option.some.injEq] at e6
        subst e6
        exact ⟨by simp only [SEnd.den, SSR.den, put_den], by simp only [SSR.wf, put_den]; exact BAct.wf_put hw _ _⟩
      | panicked v =>
        simp only [finCallS, Tree.pick, Option.some.injEq] at e6
        subst e6
        exact ⟨rfl, hw⟩

theorem runLS_sim (ht : TabHom E S) (hi : SimS ihS ih) (ops : Array Oper) (base : Nat) : ∀ (L : List (Nat × Oper)) (a : SAct) (h : SH) (e : SExit) (a1 : SAct) (h1 : SH), a.den.wf → (runLS E S ihS ops base L a h).pick = some (e, a1, h1) →
    runL E ih ops base L a.den h.den = some (e.den, a1.den, h1.den) ∧ a1.den.wf
  | [], a, h, e, a1, h1, hw, hr => by
    simp only [runLS, Tree.pick, Option.some.injEq, Prod.mk.injEq] at hr
    obtain ⟨rfl, rfl, rfl⟩ := hr
    exact ⟨rfl, hw⟩
  | (i, o) :: rest, a, h, e, a1, h1, hw, hr => by
    have go : bwanted ops a.den o = true → ∀ b : SAct, b.den = a.den → ((stepOpS E S ihS (Nat.add base i) o b h).bind fun
      | .next a h => runLS E S ihS ops base rest a h
      | .stop e a h => .leaf (e, a, h)).pick = some (e, a1, h1) → runL E ih ops base ((i, o) :: rest) a.den h.den = some (e.den, a1.den, h1.den) ∧ a1.den.wf := by
      intro hwant b hb hr
      rw [Tree.pick_bind] at hr
      obtain ⟨r, e1, e2⟩ := hr
      obtain ⟨e3, e4⟩ := stepOpS_sim ht hi (by rw [hb]; exact hw) e1
      rw [hb] at e3
      simp only [runL, hwant, e3]
      cases r with
      | next a2 h2 => exact runLS_sim ht hi ops base rest a2 h2 e a1 h1 e4 e2
      | stop e' a2 h2 =>
        simp only [Tree.pick, Option.some.injEq, Prod.mk.injEq] at e2
        obtain ⟨rfl, rfl, rfl⟩ := e2
        exact ⟨rfl, e4⟩
    have no : bwanted ops a.den o = false → ∀ b : SAct, b.den = a.den → (runLS E S ihS ops base rest (b.put o.dst sUndef) h).pick = some (e, a1, h1) → runL E ih ops base ((i, o) :: rest) a.den h.den = some (e.den, a1.den, h1.den) ∧ a1.den.wf := by
      intro hwant b hb hr
      have hp : (b.put o.dst sUndef).den = a.den.put o.dst undef := by rw [put_den, hb, sUndef_den]
      have := runLS_sim ht hi ops base rest _ h e a1 h1 (by rw [hp]; exact BAct.wf_put hw _ _) hr
      rw [hp] at this
      simp only [runL, hwant]
      exact this
    have hm := want_match a ops o
    unfold runLS at hr
    simp only at hr
    cases hq : wantS ops a o with
    | yes => rw [hq] at hr hm; exact go hm a rfl hr
    | no => rw [hq] at hr hm; exact no hm a rfl hr
    | bad => rw [hq] at hr; cases hr
    | ask d c want =>
      rw [hq] at hr hm
      obtain ⟨hm1, hm2⟩ := hm
      simp only [Tree.pick] at hr
      cases c with
      | true =>
        have hb := know_den hw hm1
        simp only [cond_true] at hr
        cases want with
        | true => exact go hm2 _ hb hr
        | false => exact no hm2 _ hb hr
      | false =>
        have hb := know_den hw hm1
        simp only [cond_false] at hr
        cases want with
        | true => exact no hm2 _ hb hr
        | false => exact go hm2 _ hb hr

/-! Regions that draw. -/
def DSS.den (s : DSS) : DS := ⟨s.a.den, s.h.den, s.hist⟩
theorem putNew_den {h h1 : SH} {id : Nat} {m : Option SObj} (e : putNewS h id m = some h1) : putNew h.den id (m.map SObj.den) = some h1.den := by
  cases m with
  | none => simp only [putNewS, Option.some.injEq] at e; subst e; rfl
  | some o =>
    simp only [putNewS] at e
    simp only [Option.map_some, putNew, SH.den_get]
    cases hg : h.get id with
    | some _ => rw [hg] at e; cases e
    | none =>
      rw [hg] at e
      simp only [Option.map_none] at e ⊢
      have hn : h.den.next = h.next := rfl
      rw [hn]
      cases hb : Nat.blt id h.next with
      | false => rw [hb] at e; cases e
      | true =>
        rw [hb] at e
        simp only [Option.some.injEq] at e ⊢
        subst e
        exact (SH.den_put _ _ _).symm
theorem stepDS_sim (ht : TabHom E S) (hi : SimS ihS ih) (ops : Array Oper) (al : List Nat) (base i : Nat) {s s1 : DSS} (hw : s.a.den.wf) (e : (stepDS E S ihS ops al base i s).pick = some s1) : stepD E ih ops al base i s.den = some s1.den ∧ s1.a.den.wf := by
  unfold stepDS at e
  unfold stepD
  cases ho : ops[i]? with
  | none => rw [ho] at e; cases e
  | some o =>
    rw [ho] at e
    simp only at e ⊢
    have hsd : s.den.a = s.a.den := rfl
    rw [hsd]
    have go : bwanted ops s.a.den o = true → ∀ b : SAct, b.den = s.a.den → Tree.pick (match floats o.op with
      | true => stepFloatS E base ops.size (al.getD i 0) i o ⟨b, s.h, s.hist⟩
      | false => stepChainS E S ihS base i o ⟨b, s.h, s.hist⟩) = some s1 → (match floats o.op with
      | true => stepFloat E base ops.size (al.getD i 0) i o s.den
      | false => stepChain E ih base i o s.den) = some s1.den ∧ s1.a.den.wf := by
      intro hwant b hb hr
      cases hf : floats o.op with
      | true =>
        rw [hf] at hr
        simp only [stepFloatS] at hr
        simp only [stepFloat]
        cases hok : opOK o.op with
        | false => rw [hok] at hr; cases hr
        | true =>
          rw [hok] at hr
          simp only [Tree.pick_bind] at hr ⊢
          obtain ⟨⟨x, reads, m⟩, e1, e2⟩ := hr
          obtain ⟨y, e3, e4⟩ := look_hom (sOp_hom (P := E.P) (id := Nat.add base i) b.eval o.op) s.h x reads m e1
          have e4 : y = x.den := e4
          subst e4
          have hev : s.den.a.eval = fun x => (b.eval x).den := by rw [hsd, ← hb, eval_fun]
          have hhd : s.den.h = s.h.den := rfl
          rw [hev, hhd, e3]
          cases x with
          | value v =>
            simp only [SNext.den] at e2 ⊢
            have hh : s.den.hist = s.hist := rfl
            rw [hh]
            cases hr2 : readsOK base ops.size (al.getD i 0) s.hist reads with
            | false => rw [hr2] at e2; cases e2
            | true =>
              rw [hr2] at e2
              simp only at e2 ⊢
              cases hp : putNewS s.h (Nat.add base i) m with
              | none => rw [hp] at e2; cases e2
              | some h2 =>
                rw [hp] at e2
                simp only [Tree.pick, Option.some.injEq] at e2
                subst e2
                rw [putNew_den hp]
                refine ⟨?_, by show (b.put o.dst v).den.wf; rw [put_den, hb]; exact BAct.wf_put hw _ _⟩
                show some (DS.mk _ _ _) = some (DS.mk _ _ _)
                rw [hsd, ← hb, put_den]
          | skip => cases e2
          | enter _ _ => cases e2
          | defer _ => cases e2
          | panic _ => cases e2
      | false =>
        rw [hf] at hr
        simp only [stepChainS, Tree.pick_bind] at hr
        simp only [stepChain]
        obtain ⟨r, e1, e2⟩ := hr
        obtain ⟨e3, e4⟩ := stepOpS_sim ht hi (by show b.den.wf; rw [hb]; exact hw) e1
        have e3 : stepOp E ih (Nat.add base i) o b.den ⟨s.h.den.t, s.h.den.next, []⟩ = some r.den := e3
        rw [hb] at e3
        have hhd : s.den.h = s.h.den := rfl
        rw [hsd, hhd, e3]
        cases r with
        | stop _ _ _ => cases e2
        | next a2 h2 =>
          simp only [Tree.pick, Option.some.injEq] at e2
          subst e2
          exact ⟨rfl, e4⟩
    have no : bwanted ops s.a.den o = false → ∀ b : SAct, b.den = s.a.den → Tree.pick (Tree.leaf (DSS.mk (b.put o.dst sUndef) s.h s.hist)) = some s1 → (some (DS.mk (s.a.den.put o.dst undef) s.den.h s.den.hist)) = some s1.den ∧ s1.a.den.wf := by
      intro hwant b hb hr
      simp only [Tree.pick, Option.some.injEq] at hr
      subst hr
      have hp : (b.put o.dst sUndef).den = s.a.den.put o.dst undef := by rw [put_den, hb, sUndef_den]
      exact ⟨by show _ = some (DS.mk _ _ _); rw [hp]; rfl, by show (b.put o.dst sUndef).den.wf; rw [hp]; exact BAct.wf_put hw _ _⟩
    have hm := want_match s.a ops o
    cases hq : wantS ops s.a o with
    | yes => rw [hq] at e hm; rw [show bwanted ops s.a.den o = true from hm]; exact go hm s.a rfl e
    | no => rw [hq] at e hm; rw [show bwanted ops s.a.den o = false from hm]; exact no hm s.a rfl e
    | bad => rw [hq] at e; cases e
    | ask d c want =>
      rw [hq] at e hm
      obtain ⟨hm1, hm2⟩ := hm
      simp only [Tree.pick] at e
      rw [hm2]
      cases c with
      | true =>
        have hb := know_den hw hm1
        simp only [cond_true] at e
        cases want with
        | true => exact go hm2 _ hb e
        | false => exact no hm2 _ hb e
      | false =>
        have hb := know_den hw hm1
        simp only [cond_false] at e
        cases want with
        | true => exact no hm2 _ hb e
        | false => exact go hm2 _ hb e
theorem runDS_sim (ht : TabHom E S) (hi : SimS ihS ih) (ops : Array Oper) (al : List Nat) (base : Nat) : ∀ (L : List Nat) (s s1 : DSS), s.a.den.wf → (runDS E S ihS ops al base L s).pick = some s1 → runD E ih ops al base L s.den = some s1.den ∧ s1.a.den.wf
  | [], s, s1, hw, e => by
    simp only [runDS, Tree.pick, Option.some.injEq] at e
    subst e
    exact ⟨rfl, hw⟩
  | i :: l, s, s1, hw, e => by
    simp only [runDS, Tree.pick_bind] at e
    obtain ⟨s2, e1, e2⟩ := e
    obtain ⟨e3, e4⟩ := stepDS_sim ht hi ops al base i hw e1
    simp only [runD, e3]
    exact runDS_sim ht hi ops al base l s2 s1 e4 e2
theorem runDrawS_sim (ht : TabHom E S) (hi : SimS ihS ih) (ops : Array Oper) (al : List Nat) (base : Nat) (log l : List Nat) {s : DSS} {e : SExit} {a1 : SAct} {h1 : SH} (hw : s.a.den.wf) (hr : (runDrawS E S ihS ops al base log l s).pick = some (e, a1, h1)) :
    runDraw E ih ops al base log l s.den = some (e.den, a1.den, h1.den) ∧ a1.den.wf := by
  have norm : ∀ (sf : DSS), sf.a.den.wf → (endDS log sf).pick = some (e, a1, h1) → (.normal, sf.den.a, ⟨sf.den.h.t, sf.den.h.next, histLog sf.den.hist log⟩) = (e.den, a1.den, h1.den) ∧ a1.den.wf := by
    intro sf hw e2
    simp only [endDS, Tree.pick, Option.some.injEq, Prod.mk.injEq] at e2
    obtain ⟨rfl, rfl, rfl⟩ := e2
    exact ⟨rfl, hw⟩
  unfold runDrawS at hr
  cases htl : tailOf al l with
  | none =>
    rw [htl] at hr
    simp only [Tree.pick_bind] at hr
    obtain ⟨sf, e1, e2⟩ := hr
    obtain ⟨e3, e4⟩ := runDS_sim ht hi ops al base l s sf hw e1
    obtain ⟨e5, e6⟩ := norm sf e4 e2
    exact ⟨by rw [runDraw_normal e3, e5], e6⟩
  | some p =>
    obtain ⟨pre, i⟩ := p
    rw [htl] at hr
    simp only [Tree.pick_bind] at hr
    obtain ⟨sp, e1, e2⟩ := hr
    obtain ⟨e3, e4⟩ := runDS_sim ht hi ops al base pre s sp hw e1
    have step : ∀ sf : DSS, (stepDS E S ihS ops al base i sp).pick = some sf → (endDS log sf).pick = some (e, a1, h1) → runDraw E ih ops al base log l s.den = some (e.den, a1.den, h1.den) ∧ a1.den.wf := by
      intro sf h2 h3
      obtain ⟨h4, h5⟩ := stepDS_sim ht hi ops al base i e4 h2
      obtain ⟨h6, h7⟩ := norm sf h5 h3
      refine ⟨?_, h7⟩
      have : runD E ih ops al base l s.den = some sf.den := by rw [(tailOf_spec htl).1, runD_snoc, e3]; exact h4
      rw [runDraw_normal this, h6]
    unfold runTailS at e2
    cases ho : ops[i]? with
    | none => rw [ho] at e2; cases e2
    | some o =>
      rw [ho] at e2
      simp only at e2
      cases hf : floats o.op with
      | true =>
        rw [hf] at e2
        simp only [Tree.pick_bind] at e2
        obtain ⟨sf, h2, h3⟩ := e2
        exact step sf h2 h3
      | false =>
        rw [hf] at e2
        simp only at e2
        have hm := want_match sp.a ops o
        cases hwt : wantS ops sp.a o with
        | yes =>
          rw [hwt] at e2 hm
          simp only [Tree.pick_bind] at e2
          obtain ⟨q, h2, h3⟩ := e2
          obtain ⟨h4, h5⟩ := stepOpS_sim ht hi (id := Nat.add base i) (o := o) e4 h2
          have hb : bwanted ops sp.den.a o = true := hm
          have fin : runDraw E ih ops al base log l s.den = runTail E ih ops al base log i sp.den := by
            unfold runDraw
            rw [htl]
            simp only [e3]
          rw [fin]
          unfold runTail
          rw [ho]
          simp only [hb, hf, Bool.not_false, Bool.and_self]
          have h4 : stepOp E ih (Nat.add base i) o sp.den.a ⟨sp.den.h.t, sp.den.h.next, []⟩ = some q.den := h4
          rw [h4]
          cases q with
          | next a2 h2' =>
            simp only [Tree.pick, Option.some.injEq, Prod.mk.injEq] at h3
            obtain ⟨rfl, rfl, rfl⟩ := h3
            exact ⟨rfl, h5⟩
          | stop ex a2 h2' =>
            simp only [Tree.pick, Option.some.injEq, Prod.mk.injEq] at h3
            obtain ⟨rfl, rfl, rfl⟩ := h3
            exact ⟨rfl, h5⟩
        | no =>
          rw [hwt] at e2
          simp only [Tree.pick_bind] at e2
          obtain ⟨sf, h2, h3⟩ := e2
          exact step sf h2 h3
        | ask d c want =>
          rw [hwt] at e2
          simp only [Tree.pick_bind] at e2
          obtain ⟨sf, h2, h3⟩ := e2
          exact step sf h2 h3
        | bad =>
          rw [hwt] at e2
          simp only [Tree.pick_bind] at e2
          obtain ⟨sf, h2, h3⟩ := e2
          exact step sf h2 h3
theorem runRegionS_sim (ht : TabHom E S) (hi : SimS ihS ih) (ops : Array Oper) (draw : Bool) (a : SAct) (h : SH) (e : SExit) (a1 : SAct) (h1 : SH) (hw : a.den.wf) (hr : (runRegionS E S ihS ops draw a h).pick = some (e, a1, h1)) :
    runRegion E ih ops draw a.den h.den = some (e.den, a1.den, h1.den) ∧ a1.den.wf := by
  unfold runRegionS at hr
  unfold runRegion
  have hn : h.den.next = h.next := rfl
  rw [hn]
  cases hb : Nat.ble (Nat.add h.next ops.size) most with
  | false => rw [hb] at hr; cases hr
  | true =>
    rw [hb] at hr
    cases draw with
    | false => exact runLS_sim ht hi ops h.next _ a _ e a1 h1 hw hr
    | true => exact runDrawS_sim ht hi ops (ancs ops) h.next h.log (planOf ops (ancs ops)) (s := ⟨a, ⟨h.t, Nat.add h.next ops.size, []⟩, []⟩) hw hr

theorem seqS_sim (hi : SimS ihS ih) {y : Code} {r : SExit × SAct × SH} {e : SExit} {a1 : SAct} {h1 : SH} (hw : r.2.1.den.wf) (hr : (seqS ihS y r).pick = some (e, a1, h1)) : runSeq ih y (some (r.1.den, r.2.1.den, r.2.2.den)) = some (e.den, a1.den, h1.den) ∧ a1.den.wf := by
  obtain ⟨e0, a, h⟩ := r
  unfold seqS at hr
  cases e0 with
  | normal => exact hi y a h e a1 h1 hw hr
  | _ =>
    simp only [Tree.pick, Option.some.injEq, Prod.mk.injEq] at hr
    obtain ⟨rfl, rfl, rfl⟩ := hr
    exact ⟨rfl, hw⟩
theorem blockS_sim {id : Nat} {r : SExit × SAct × SH} {e : SExit} {a1 : SAct} {h1 : SH} (hw : r.2.1.den.wf) (hr : (blockS id r).pick = some (e, a1, h1)) : runBlock id (some (r.1.den, r.2.1.den, r.2.2.den)) = some (e.den, a1.den, h1.den) ∧ a1.den.wf := by
  obtain ⟨e0, a, h⟩ := r
  unfold blockS at hr
  cases e0 with
  | exit id' =>
    simp only at hr
    simp only [SExit.den, runBlock]
    cases hb : Nat.beq id' id with
    | true =>
      rw [hb] at hr
      simp only [cond_true, Tree.pick, Option.some.injEq, Prod.mk.injEq] at hr
      obtain ⟨rfl, rfl, rfl⟩ := hr
      exact ⟨rfl, hw⟩
    | false =>
      rw [hb] at hr
      simp only [cond_false, Tree.pick, Option.some.injEq, Prod.mk.injEq] at hr
      obtain ⟨rfl, rfl, rfl⟩ := hr
      exact ⟨rfl, hw⟩
  | _ =>
    simp only [Tree.pick, Option.some.injEq, Prod.mk.injEq] at hr
    obtain ⟨rfl, rfl, rfl⟩ := hr
    exact ⟨rfl, hw⟩
theorem know_op {a : SAct} (hw : a.den.wf) {o : Operand} {l b : Bool} (h : a.eval o = .bool l b) : (a.know o b).den = a.den := by
  cases o with
  | tmp t =>
    have h : a.slot t = .bool l b := h
    exact know_den hw (by rw [h]; rfl)
  | _ => rfl
theorem stepS_sim (ht : TabHom E S) (hi : SimS ihS ih) : SimS (stepS E S ihS) (codeStep E ih) := by
  intro c a h e a1 h1 hw hr
  have done : ∀ e' : SExit, Tree.pick (Tree.leaf (e', a, h)) = some (e, a1, h1) → some (e'.den, a.den, h.den) = some (e.den, a1.den, h1.den) ∧ a1.den.wf := fun e' hh => by
    simp only [Tree.pick, Option.some.injEq, Prod.mk.injEq] at hh
    obtain ⟨rfl, rfl, rfl⟩ := hh
    exact ⟨rfl, hw⟩
  cases c with
  | skip => exact done _ hr
  | label l => exact done _ hr
  | exit id => exact done _ hr
  | ret => exact done _ hr
  | seq x y =>
    simp only [stepS, Tree.pick_bind] at hr
    obtain ⟨⟨e0, a0, h0⟩, e1, e2⟩ := hr
    obtain ⟨e3, e4⟩ := hi x a h e0 a0 h0 hw e1
    simp only [codeStep, e3]
    exact seqS_sim hi e4 e2
  | loop x =>
    simp only [stepS, Tree.pick_bind] at hr
    obtain ⟨⟨e0, a0, h0⟩, e1, e2⟩ := hr
    obtain ⟨e3, e4⟩ := hi x a h e0 a0 h0 hw e1
    simp only [codeStep, e3]
    exact seqS_sim hi e4 e2
  | block id x =>
    simp only [stepS, Tree.pick_bind] at hr
    obtain ⟨⟨e0, a0, h0⟩, e1, e2⟩ := hr
    obtain ⟨e3, e4⟩ := hi x a h e0 a0 h0 hw e1
    simp only [codeStep, e3]
    exact blockS_sim e4 e2
  | scope x => exact hi x a h e a1 h1 hw hr
  | region id ops draw => exact runRegionS_sim ht hi ops draw a h e a1 h1 hw hr
  | cond o x y =>
    simp only [stepS] at hr
    simp only [codeStep]
    cases hok : operandOK o with
    | false => rw [hok] at hr; cases hr
    | true =>
      rw [hok] at hr
      simp only [condS] at hr
      simp only
      cases hev : a.eval o <;> rw [hev] at hr <;> first
        | cases hr
        | skip
      rename_i l t
      have hv : a.den.eval o = .bool t := by rw [eval_den, hev]; rfl
      rw [hv]
      simp only [runCond]
      cases l with
      | true =>
        simp only [sel_true] at hr
        cases t with
        | true => exact hi x a h e a1 h1 hw hr
        | false => exact hi y a h e a1 h1 hw hr
      | false =>
        simp only [sel_false, Tree.pick] at hr
        have hk := know_op hw hev
        cases t with
        | true =>
          have := hi x _ h e a1 h1 (by rw [hk]; exact hw) hr
          rw [hk] at this
          exact this
        | false =>
          have := hi y _ h e a1 h1 (by rw [hk]; exact hw) hr
          rw [hk] at this
          exact this
  | _ => cases hr

theorem evalS_sim (ht : TabHom E S) : ∀ n, SimS (evalS E S n) (evalC E n)
  | 0 => fun c a h e a1 h1 _ hr => by cases hr
  | n + 1 => stepS_sim ht (evalS_sim ht n)
theorem evalCallS_sim (ht : TabHom E S) (n : Nat) {f : FuncId} {args : List SV} {h : SH} {x : SEnd} {h1 : SH} (e : (evalCallS E S n f args h).pick = some (x, h1)) : evalCall E n f (dens args) h.den = some (x.den, h1.den) :=
  callFS_sim ht (evalS_sim ht n) e
end
end Go.Ev
end

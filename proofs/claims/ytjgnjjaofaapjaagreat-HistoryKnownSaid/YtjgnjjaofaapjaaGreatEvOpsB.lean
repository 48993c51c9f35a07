import Derived.Test.YtjgnjjaofaapjaaGreatEvOpsA
namespace Go.Ev
section
variable {P : Program} {ρ : Emb} {h : AH} {w : World} {id : Nat}

theorem WRel.kill {i : Nat} {o : AObj} (wr : WRel ρ h w) (hg : h.get i = some o) : WRel (put1 ρ i .dead) (h.del i) w ∧ Step ρ w (put1 ρ i .dead) w := by
  have hlt := AH.get_lt hg
  have ext := ext_dead ρ i
  refine ⟨⟨AH.ok_set wr.ok hlt _, fun j => ?_, fun j k gj gk hne hj hk hrw => ?_⟩, ⟨ext, rfl, rfl, rfl, Nat.le_refl _, fun _ _ _ => rfl, fun j g hj hr => ?_⟩⟩
  · by_cases e : j = i
    · subst e
      unfold AH.del
      rw [AH.get_set_same h j .dead hlt, put1_same]
    · unfold AH.del
      rw [AH.get_set_ne h wr.ok i j .dead hlt (Ne.symm e), put1_ne ρ _ e]
      have := wr.obj j
      cases hgj : h.get j with
      | none => rw [hgj] at this; exact this
      | some x =>
        rw [hgj] at this
        cases x with
        | dead => exact this
        | cells c rw => obtain ⟨g', h1, h2⟩ := this; exact ⟨g', h1, h2.mono ext⟩
        | amap es => obtain ⟨g', h1, h2⟩ := this; exact ⟨g', h1, h2.mono ext⟩
  · by_cases e : j = i
    · subst e; rw [put1_same] at hj; cases hj
    · by_cases e2 : k = i
      · subst e2; rw [put1_same] at hk; cases hk
      · rw [put1_ne ρ _ e] at hj
        rw [put1_ne ρ _ e2] at hk
        exact wr.inj j k gj gk hne hj hk hrw
  · by_cases e : j = i
    · subst e; rw [put1_same] at hj; cases hj
    · rw [put1_ne ρ _ e] at hj
      exact .inr ⟨j, g, hj, hr, rfl⟩

/-- What is behind a killed object's cells is written, and a new object takes its place. -/
theorem WRel.adopt {a : Addr} {cs : List Value} (wr : WRel ρ h w) (hg : h.get a.block = some (.cells cs true)) (hid : h.get id = none) (hlt : id < h.next) {g : Img} (hi : ρ a.block = .img g)
    {n : Nat} {old new new' : List Value} (ho : takeCells cs a.off n = some old) (hn : VsRel ρ new new') (hna : new.all notAgg = true) (hfit : g.base + a.off + n + new.length ≤ g.n) :
    ∃ w', (storeCells ⟨g.b, g.base + a.off + n, none⟩ new').run P w = .ok () w' ∧
      WRel (put1 (put1 ρ a.block .dead) id (.img ⟨g.b, g.base + a.off, g.n, true⟩)) ((h.del a.block).put id (.cells (old ++ new) true)) w' ∧
      Step ρ w (put1 (put1 ρ a.block .dead) id (.img ⟨g.b, g.base + a.off, g.n, true⟩)) w' := by
  obtain ⟨wk, sk⟩ := wr.kill hg
  have hne : id ≠ a.block := fun e => by rw [e, hg] at hid; cases hid
  have hltb : a.block < h.next := AH.get_lt hg
  have hlt2 : id < (h.del a.block).next := hlt
  have hid2 : (h.del a.block).get id = none := by
    unfold AH.del; rw [AH.get_set_ne h wr.ok _ _ _ hltb (Ne.symm hne)]; exact hid
  have hfree := wk.free hid2
  have ext2 := ext_put1 hfree (.img ⟨g.b, g.base + a.off, g.n, true⟩)
  have ext := (ext_dead ρ a.block).trans ext2
  obtain ⟨g1, hi1, hrw, c', e, fz, hb, hsz, hle', hc, hf⟩ := wr.cells hg
  rw [hi] at hi1
  cases hi1
  obtain ⟨t1, t2, t3⟩ := takeCells_some ho
  have hl := hn.length
  have hcell : ∀ j, j < new'.length → (w.cell? ⟨g.b, g.base + a.off + n + j, none⟩).isSome = true := by
    intro j hj
    rw [cell_of hb]
    simp; omega
  have hfr : ∀ j, j < new'.length → w.frozen? ⟨g.b, g.base + a.off + n + j, none⟩ = false := fun j hj => hf rfl _ (by omega)
  have hone : ∀ v ∈ new', v.oneCell' = true := by
    intro v hm
    have := notAggs_rel hn
    rw [hna] at this
    exact notAgg_one (List.all_eq_true.1 this v hm)
  have hrun := run_storeCells_cells (P := P) g.b (g.base + a.off + n) new' 0 w (by simpa using hcell) (by simpa using hfr) hone
  rw [Nat.add_zero] at hrun
  refine ⟨_, hrun, ?_, ?_⟩
  · refine ⟨AH.ok_put wk.ok hlt2 _, fun i => ?_, fun i j gi gj hij hgi hgj hrwi => ?_⟩
    · by_cases ei : i = id
      · subst ei
        rw [AH.get_put_same _ _ _ hlt2, put1_same]
        obtain ⟨c2, h2, h3⟩ := block_setCells g.b new' (g.base + a.off + n) w c' e fz hb
        refine ⟨_, rfl, rfl, c2, e, fz, h2, h3.trans hsz, ?_, ?_, ?_⟩
        · simp only [List.length_append, t3]; omega
        · intro j v hj
          by_cases hjn : j < n
          · rw [List.getElem?_append_left (by omega)] at hj
            rw [t2, List.getElem?_take_of_lt hjn, List.getElem?_drop] at hj
            obtain ⟨v', hv', hr'⟩ := hc _ _ hj
            refine ⟨v', ?_, hr'.mono ext⟩
            have := World.cell?_setCells_out g.b new' (g.base + a.off + n) w ⟨g.b, g.base + a.off + j, none⟩ (fun _ _ => by simp only; omega)
            rw [cell_of h2, cell_of hb] at this
            rw [this, ← hv']; congr 1; omega
          · rw [List.getElem?_append_right (by omega), t3] at hj
            obtain ⟨v', hv', hr'⟩ := hn.get _ _ hj
            have hlt' : j - n < new'.length := by
              rcases Nat.lt_or_ge (j - n) new'.length with h | h
              · exact h
              · rw [List.getElem?_eq_none h] at hv'; cases hv'
            refine ⟨v', ?_, hr'.mono ext⟩
            have := World.cell?_setCells_in g.b new' (g.base + a.off + n) w hcell (j - n) hlt'
            rw [cell_of h2] at this
            rw [show g.base + a.off + j = g.base + a.off + n + (j - n) by omega, this, ← hv', List.getElem?_eq_getElem hlt']
        · intro _ off hoff
          rw [World.frozen?_setCells]
          exact hf rfl off hoff
      · rw [AH.get_put_ne _ wk.ok _ _ _ hlt2 (Ne.symm ei), put1_ne _ _ ei]
        have := wk.obj i
        cases hgi : (h.del a.block).get i with
        | none => rw [hgi] at this; exact this
        | some x =>
          rw [hgi] at this
          have key : ∀ g', put1 ρ a.block .dead i = .img g' → (w.setCells g.b (g.base + a.off + n) new').heap[g'.b]? = w.heap[g'.b]? := by
            intro g' h1
            by_cases e2 : i = a.block
            · subst e2; rw [put1_same] at h1; cases h1
            · rw [put1_ne ρ _ e2] at h1
              exact heap_setCells_ne _ _ _ _ _ (fun e' => wr.inj a.block i g g' (Ne.symm e2) hi h1 hrw e'.symm)
          cases x with
          | dead => exact this
          | cells c3 rw3 => obtain ⟨g', h1, h2⟩ := this; exact ⟨g', h1, (h2.mono ext2).world (key g' h1)⟩
          | amap es => obtain ⟨g', h1, h2⟩ := this; exact ⟨g', h1, (h2.mono ext2).world (key g' h1)⟩
    · have old1 : ∀ i gi, i ≠ id → put1 (put1 ρ a.block .dead) id (.img ⟨g.b, g.base + a.off, g.n, true⟩) i = .img gi → i ≠ a.block ∧ ρ i = .img gi := by
        intro i gi h1 h2
        rw [put1_ne _ _ h1] at h2
        by_cases e2 : i = a.block
        · subst e2; rw [put1_same] at h2; cases h2
        · rw [put1_ne ρ _ e2] at h2; exact ⟨e2, h2⟩
      by_cases ei : i = id
      · subst ei
        rw [put1_same] at hgi
        cases hgi
        obtain ⟨h1, h2⟩ := old1 j gj (Ne.symm hij) hgj
        exact wr.inj a.block j g gj (Ne.symm h1) hi h2 hrw
      · obtain ⟨h1, h2⟩ := old1 i gi ei hgi
        by_cases ej : j = id
        · subst ej
          rw [put1_same] at hgj
          cases hgj
          exact wr.inj i a.block gi g h1 h2 hi hrwi
        · obtain ⟨h3, h4⟩ := old1 j gj ej hgj
          exact wr.inj i j gi gj hij h2 h4 hrwi
  · obtain ⟨h1, h2, h3⟩ := os_setCells g.b new' (g.base + a.off + n) w
    refine ⟨ext, h1, h2, h3, by rw [size_setCells]; exact Nat.le_refl _, fun b _ hno => heap_setCells_ne _ _ _ _ _ (fun e' => hno a.block g hi hrw e'.symm), fun i g' hi' hr' => ?_⟩
    by_cases ei : i = id
    · subst ei
      rw [put1_same] at hi'
      cases hi'
      exact .inr ⟨a.block, g, hi, hrw, rfl⟩
    · rw [put1_ne _ _ ei] at hi'
      by_cases e2 : i = a.block
      · subst e2; rw [put1_same] at hi'; cases hi'
      · rw [put1_ne ρ _ e2] at hi'
        exact .inr ⟨i, g', hi', hr', rfl⟩

/-! append -/
theorem argCells_rel (wr : WRel ρ h w) {x x' : Value} (hx : VRel ρ x x') {size : Nat} {k : Nat → List Value → AM ANext} {r : Result Next}
    (hk : ∀ n new new', VsRel ρ new new' → (Builtin.lenOf x').run P w = .ok n w → (∀ w1 : World, w1.heap = w.heap → (Builtin.firstCells size n x').run P w1 = .ok new'.toArray w1) → (n = 0 → new = []) → Sim ρ h w id (k n new) r)
    (hs1 : ∀ s, x = .string s → size = 1 ∨ s.size = 0 ∨ True) : Sim ρ h w id (argCells size x k) r := by
  unfold argCells
  cases hx <;> simp only <;> try exact sim_fail
  case string s =>
    refine hk s.size (valsOfBytes s) (valsOfBytes s) (plains_rel (valsOfBytes_plain s)) rfl (fun w1 _ => ?_) (fun h0 => ?_)
    · have : s.extract 0 s.size = s := by
        apply ByteArray.ext
        simp
      simp only [Builtin.firstCells, this, Sem.run_pure]
      congr 1
      apply Array.ext'
      simp [valsOfBytes]
    · have : s.data.toList = [] := List.eq_nil_of_length_eq_zero (by simpa using h0)
      simp [valsOfBytes, this]
  case slNil =>
    exact hk 0 [] [] .nil rfl (fun w1 _ => by simp [Builtin.firstCells]) (fun _ => rfl)
  case sl a a' len c cap' hr =>
    cases hok : okAt a with
    | false => exact sim_fail
    | true =>
      simp only [cond_true]
      unfold aCells
      refine sim_get fun o hg => ?_
      cases o with
      | amap es => exact sim_fail
      | dead => exact sim_fail
      | cells cs rw =>
        simp only
        cases ht : takeCells cs a.off (Nat.mul len size) with
        | none => exact sim_fail
        | some l =>
          simp only
          have hz : len = 0 → l = [] := fun h0 => List.eq_nil_of_length_eq_zero (by rw [(takeCells_some ht).2.2, h0]; exact Nat.zero_mul size)
          by_cases h0 : len = 0
          · have := hz h0
            subst this
            refine hk len [] [] .nil rfl (fun w1 _ => ?_) (fun _ => rfl)
            subst h0
            simp only [Builtin.firstCells, Nat.zero_mul]
            exact run_loadCells_list w1 a' [] (by simp)
          · have hr' : AddrRel ρ a a' := ⟨hr.1, hr.2.1, fun g hgi => by
              rcases hr.2.2.2 g hgi with ⟨h1, _⟩ | ⟨h1, h2, h3, _⟩
              · exact absurd h1 h0
              · exact ⟨h1, h2, h3⟩⟩
            obtain ⟨l', h1, h2, h3⟩ := loadCells_rel (P := P) wr hr' hg ht
            refine hk len l l' h1 rfl (fun w1 hw1 => ?_) hz
            have hl' : l'.length = len * size := by rw [h1.length, (takeCells_some ht).2.2]; rfl
            simp only [Builtin.firstCells, ← hl']
            exact run_loadCells_list w1 a' l' (fun j v hj => by
              rw [← h3 j v hj]; simp only [World.cell?, hw1])

theorem append_room {ts : Array TypeId} {t st xt el : TypeId} {xd : TypeDesc} {inf : TypeInfo} {l' : Array Value} {base : Option Addr} {sLen cap' n : Nat} {x' : Value} {new' : List Value}
    (ht0 : ts[0]? = some st) (ht1 : ts[1]? = some xt) (hu : P.underlying st = some (.slice el)) (hux : P.underlying xt = some xd) (hint : ∀ k, xd ≠ .int k) (hi : P.info? el = some inf)
    (h0 : l'[0]? = some (.slice base sLen cap')) (h1 : l'[1]? = some x') (hn : (Builtin.lenOf x').run P w = .ok n w) (hnew : (Builtin.firstCells inf.size n x').run P w = .ok new'.toArray w) (hroom : sLen + n ≤ cap') :
    (Builtin.append_ ts t l').run P w = match base with
      | some a => ((storeCells (a.add (sLen * inf.size)) new').run P w).andThen fun _ w' => .ok (.slice base (sLen + n) cap') w'
      | none => .ok (.slice none (sLen + n) cap') w := by
  unfold Builtin.append_
  simp only [ht0, ht1, h0, h1, Sem.run_bind, run_underlying hu, run_underlying hux, Result.andThen_ok, run_sizeOfI hi, Sem.run_pure, Bool.false_eq_true, if_false, hn, Bool.not_false, if_true, if_pos hroom, hnew]
  cases base with
  | none => simp
  | some a => simp

theorem append_grow {ts : Array TypeId} {t st xt el : TypeId} {xd : TypeDesc} {inf : TypeInfo} {z : Value} {l' : Array Value} {base : Option Addr} {sLen cap' n : Nat} {x' : Value} {old' new' : List Value}
    (ht0 : ts[0]? = some st) (ht1 : ts[1]? = some xt) (hu : P.underlying st = some (.slice el)) (hux : P.underlying xt = some xd) (hint : ∀ k, xd ≠ .int k) (hi : P.info? el = some inf) (hzv : ∀ w, (zeroValue el).run P w = .ok z w)
    (h0 : l'[0]? = some (.slice base sLen cap')) (h1 : l'[1]? = some x') (hn : (Builtin.lenOf x').run P w = .ok n w) (hnew : (Builtin.firstCells inf.size n x').run P w.drew = .ok new'.toArray w.drew)
    (hold : (Builtin.firstCells inf.size sLen (.slice base sLen cap')).run P w.drew = .ok old'.toArray w.drew) (hroom : ¬ sLen + n ≤ cap') (h63 : sLen + n ≤ 9223372036854775807) (h48 : Builtin.nextslicecap (sLen + n) cap' * inf.bytes ≤ 281474976710656) :
    (Builtin.append_ ts t l').run P w = .ok (.slice (some ⟨w.heap.size, 0, none⟩) (sLen + n) (grownCap w (sLen + n) cap' el))
      (w.drew.alloc (.cells (old'.toArray ++ new'.toArray ++ Builtin.zeroCells z.cells (grownCap w (sLen + n) cap' el - (sLen + n))) el)) := by
  have h63' : ¬ (((sLen + n : Nat) : Int) > IntKind.i64.max) := by
    have : IntKind.i64.max = 9223372036854775807 := by decide
    omega
  have h48' : ¬ (Builtin.nextslicecap (sLen + n) cap' * inf.bytes > 2 ^ 48) := by omega
  unfold Builtin.append_
  simp only [ht0, ht1, h0, h1, Sem.run_bind, run_underlying hu, run_underlying hux, Result.andThen_ok, run_sizeOfI hi, Sem.run_pure, Bool.false_eq_true, if_false, hn, Bool.not_false, if_true, if_neg hroom, h63', false_and, run_typeInfoI hi, h48', run_choose, Question.forced]
  rw [show ({ heap := w.heap, tape := w.tape, drawn := w.drawn + 1, os := w.os, output := w.output } : World) = w.drew from rfl]
  simp only [run_askRoom, Result.andThen_ok, hold, hnew, hzv, newRow, Sem.run_bind, run_newObj, Sem.run_pure]
  rfl

theorem firstCells_zero {size : Nat} {v : Value} (hv : (∃ a n c, v = .slice a n c)) (w : World) : (Builtin.firstCells size 0 v).run P w = .ok #[] w := by
  obtain ⟨a, n, c, rfl⟩ := hv
  cases a with
  | none => simp [Builtin.firstCells]
  | some a =>
    simp only [Builtin.firstCells, Nat.zero_mul]
    exact run_loadCells_list w a [] (by simp)

theorem room_of {need c bytes : Nat} (h : capRoom need bytes = true) (hc : c < need) : Builtin.nextslicecap need c * bytes ≤ 281474976710656 := by
  unfold capRoom at h
  have h1 := ble_true h
  have h2 := nextslicecap_le hc
  have h3 : Builtin.nextslicecap need c * bytes ≤ (2 * need + 1024) * bytes := Nat.mul_le_mul_right _ (by omega)
  omega

theorem appendOK_some {el : TypeId} {inf : TypeInfo} {len n : Nat} {new : List Value} (h : appendOK P el inf len n new = true) :
    inf.size ≠ 0 ∧ len + n ≤ 70368744177664 ∧ new.all notAgg = true ∧ new.length = n * inf.size ∧ capRoom (len + n) inf.bytes = true ∧ ∃ z, aZeroV P el = some z ∧ z.cells.size = inf.size := by
  unfold appendOK at h
  simp only [Bool.and_eq_true, Nat.beq_eq] at h
  obtain ⟨⟨⟨⟨⟨h1, h0⟩, h2⟩, h3⟩, h4⟩, h5⟩ := h
  refine ⟨fun e => by rw [e] at h1; simp at h1, ble_true h0, h2, h3, h4, ?_⟩
  unfold zeroFits at h5
  cases hcs : aZero P el with
  | none => simp [hcs] at h5
  | some cs =>
    simp only [hcs, Nat.beq_eq] at h5
    obtain ⟨z, hz, rfl⟩ := aZero_some hcs
    exact ⟨z, hz, h5⟩

theorem op_append (wr : WRel ρ h w) (ts : Array TypeId) (t : TypeId) {l l' : Array Value} (hl : VsRel ρ l.toList l'.toList) : Sim ρ h w id (oAppend P id ts l) (valR ((Builtin.append_ ts t l').run P w)) := by
  unfold oAppend
  cases ht0 : ts[0]? with
  | none => exact sim_fail
  | some st =>
    cases ht1 : ts[1]? with
    | none => exact sim_fail
    | some xt =>
      simp only
      cases hu : P.underlying st with
      | none => exact sim_fail
      | some sd =>
        cases hux : P.underlying xt with
        | none => cases sd <;> exact sim_fail
        | some xd =>
          cases sd <;> simp only <;> try exact sim_fail
          rename_i el
          split
          · exact sim_fail
          · rename_i hint
            cases hi : P.info? el with
            | none => exact sim_fail
            | some inf =>
              cases hs0 : l[0]? with
              | none => exact sim_fail
              | some s =>
                cases hx0 : l[1]? with
                | none => exact sim_fail
                | some x =>
                  obtain ⟨s', hs', hs⟩ := hl.getA 0 s hs0
                  obtain ⟨x', hx', hx⟩ := hl.getA 1 x hx0
                  simp only
                  cases s <;> simp only <;> try exact sim_fail
                  rename_i base len c
                  obtain ⟨base', cap', rfl⟩ : ∃ base' cap', s' = .slice base' len cap' := by
                    cases hs with
                    | slNil => exact ⟨none, 0, rfl⟩
                    | sl a a' _ _ cap' _ => exact ⟨some a', cap', rfl⟩
                  have hcap : len ≤ cap' := by
                    cases hs with
                    | slNil => exact Nat.le_refl _
                    | sl a a' _ _ cap' hr => exact hr.2.2.1
                  refine argCells_rel (P := P) wr hx (fun n new new' hn hlen hfirst h0 => ?_) (fun _ _ => .inr (.inr trivial))
                  cases hnz : Nat.beq n 0 with
                  | true =>
                    rw [Nat.beq_eq] at hnz
                    subst hnz
                    have := h0 rfl
                    subst this
                    cases hn
                    refine sim_val (v' := .slice base' len cap') wr ?_ hs
                    rw [append_room (P := P) ht0 ht1 hu hux hint hi hs' hx' hlen (hfirst w rfl) (by omega)]
                    cases base' <;> simp [storeCells]
                  | false =>
                    have hn0 : n ≠ 0 := fun e => by rw [e] at hnz; simp at hnz
                    cases hok : appendOK P el inf len n new with
                    | false => exact sim_fail
                    | true =>
                      obtain ⟨hz0, hbig, hna, hlen2, hroom, z, hz, hzs⟩ := appendOK_some hok
                      obtain ⟨hzr, hzp, _⟩ := aZeroV_some hz
                      have hl2 := hn.length
                      have h63 : len + n ≤ 9223372036854775807 := by omega
                      simp only [cond_false, cond_true]
                      unfold appendTo
                      cases hs with
                      | slNil =>
                        simp only [show Nat.beq 0 0 = true from rfl, cond_true]
                        unfold retV
                        refine sim_new fun hg hlt => ?_
                        have hold := firstCells_zero (P := P) (size := inf.size) (v := .slice none 0 0) ⟨_, _, _, rfl⟩ w.drew
                        have hrun := append_grow (P := P) (t := t) (old' := []) ht0 ht1 hu hux hint hi hzr hs' hx' hlen (hfirst w.drew rfl) hold (by omega) h63 (room_of hroom (by omega))
                        have hcapn : 0 + n ≤ grownCap w (0 + n) 0 el := by simp only [grownCap, Question.cut]; omega
                        obtain ⟨ρ', hρ, g1, g2⟩ := wr.newCells (cs := new) (cs' := new') (w' := w.drew.alloc (.cells ((#[] : Array Value) ++ new'.toArray ++ Builtin.zeroCells z.cells (grownCap w (0 + n) 0 el - (0 + n))) el)) hg hlt el (Builtin.zeroCells z.cells (grownCap w (0 + n) 0 el - (0 + n))).toList (by simp) hn (.inl rfl) (Grow1.push rfl rfl rfl rfl)
                        refine ⟨ρ', _, g2, g1, _, by rw [hrun]; rfl, ?_⟩
                        subst hρ
                        simp only [Nat.zero_add] at hcapn ⊢
                        refine slice_new rfl hcapn ?_
                        simp only [Builtin.zeroCells, Array.size_append, List.size_toArray, Array.size_map, Array.size_range, hl2, hlen2, hzs, List.length_nil, Nat.zero_add]
                        rw [← Nat.add_mul, show n + (grownCap w n 0 el - n) = grownCap w n 0 el by omega]
                        exact Nat.le_refl _
                      | sl a a' _ _ _ hr =>
                        obtain ⟨r1, r2, r3, r4⟩ := hr
                        simp only
                        refine sim_get fun o hg => ?_
                        cases o with
                        | amap es => exact sim_fail
                        | dead => exact sim_fail
                        | cells cs rw =>
                          simp only
                          cases hbb : (okAt a && rw && Nat.beq c inf.size) with
                          | false => exact sim_fail
                          | true =>
                            simp only [Bool.and_eq_true, Nat.beq_eq] at hbb
                            obtain ⟨⟨_, rfl⟩, rfl⟩ := hbb
                            simp only [cond_true]
                            cases hto : takeCells cs a.off (len * inf.size) with
                            | none => exact sim_fail
                            | some old =>
                              simp only
                              intro y h' e
                              unfold retV at e
                              simp only [AM.run, hg] at e
                              cases hgd : (h.del a.block).get id with
                              | some _ => rw [hgd] at e; cases e
                              | none =>
                                rw [hgd] at e
                                cases hlt : Nat.blt id (h.del a.block).next with
                                | false => rw [hlt] at e; cases e
                                | true =>
                                  rw [hlt] at e
                                  simp only [cond_true, Option.some.injEq, Prod.mk.injEq] at e
                                  obtain ⟨rfl, rfl⟩ := e
                                  have hlt := lt_of_blt hlt
                                  obtain ⟨wk, sk⟩ := wr.kill hg
                                  obtain ⟨g, hi2, _⟩ := wr.cells hg
                                  obtain ⟨t1, t2, t3⟩ := takeCells_some hto
                                  have hne : id ≠ a.block := fun e => by rw [e] at hgd; unfold AH.del at hgd; rw [AH.get_set_same _ _ _ (AH.get_lt hg)] at hgd; cases hgd
                                  have hid : h.get id = none := by
                                    unfold AH.del at hgd; rw [AH.get_set_ne h wr.ok _ _ _ (AH.get_lt hg) (Ne.symm hne)] at hgd; exact hgd
                                  by_cases hrm : len + n ≤ cap'
                                  · rcases r4 g hi2 with ⟨_, h6⟩ | ⟨h5, h6, h7, h8⟩
                                    · omega
                                    · obtain ⟨b0, o0, s0⟩ := a'
                                      simp only at h5 h6 h7 h8
                                      subst h5 h6 h7
                                      have hfit : g.base + a.off + len * inf.size + new.length ≤ g.n := by
                                        rw [hlen2, Nat.add_assoc, ← Nat.add_mul]
                                        exact Nat.le_trans (Nat.add_le_add_left (Nat.mul_le_mul_right _ hrm) _) h8
                                      obtain ⟨w', k1, k2, k3⟩ := wr.adopt (P := P) hg hid hlt hi2 hto hn hna hfit
                                      refine ⟨_, w', k3, k2, .slice (some ⟨g.b, g.base + a.off, none⟩) (len + n) cap', ?_, ?_⟩
                                      · rw [append_room (P := P) ht0 ht1 hu hux hint hi hs' hx' hlen (hfirst w rfl) hrm]
                                        simp only [add_none, k1, Result.andThen_ok]
                                        rfl
                                      · refine .sl _ _ _ _ _ ⟨by simp [put1], rfl, hrm, fun g' hg' => ?_⟩
                                        simp only [put1_same] at hg'
                                        cases hg'
                                        exact .inr ⟨rfl, rfl, by simp, by simpa using h8⟩
                                  · have hold0 : ∃ old', VsRel ρ old old' ∧ ∀ w1 : World, w1.heap = w.heap → (Builtin.firstCells inf.size len (.slice (some a') len cap')).run P w1 = .ok old'.toArray w1 := by
                                      by_cases h0 : len = 0
                                      · subst h0
                                        have : old = [] := List.eq_nil_of_length_eq_zero (by rw [t3]; simp)
                                        subst this
                                        exact ⟨[], .nil, fun w1 _ => firstCells_zero (P := P) ⟨_, _, _, rfl⟩ w1⟩
                                      · have hr' : AddrRel ρ a a' := ⟨r1, r2, fun g hgi => by
                                          rcases r4 g hgi with ⟨h1, _⟩ | ⟨h1, h2, h3, _⟩
                                          · exact absurd h1 h0
                                          · exact ⟨h1, h2, h3⟩⟩
                                        obtain ⟨l2, h1, h2, h3⟩ := loadCells_rel (P := P) wr hr' hg hto
                                        refine ⟨l2, h1, fun w1 hw1 => ?_⟩
                                        have hl2' : l2.length = len * inf.size := by rw [h1.length, t3]
                                        simp only [Builtin.firstCells, ← hl2']
                                        exact run_loadCells_list w1 a' l2 (fun j v hj => by
                                          rw [← h3 j v hj]; simp only [World.cell?, hw1])
                                    obtain ⟨old', ho1, ho2⟩ := hold0
                                    have hrun := append_grow (P := P) (t := t) ht0 ht1 hu hux hint hi hzr hs' hx' hlen (hfirst w.drew rfl) (ho2 w.drew rfl) hrm h63 (room_of hroom (by omega))
                                    have hcapn : len + n ≤ grownCap w (len + n) cap' el := by simp only [grownCap, Question.cut]; omega
                                    have hlt2 : id < (h.del a.block).next := hlt
                                    obtain ⟨ρ', hρ, g1, g2⟩ := wk.newCells (cs := old ++ new) (cs' := old' ++ new') (w' := w.drew.alloc (.cells (old'.toArray ++ new'.toArray ++ Builtin.zeroCells z.cells (grownCap w (len + n) cap' el - (len + n))) el)) hgd hlt2 el (Builtin.zeroCells z.cells (grownCap w (len + n) cap' el - (len + n))).toList (by simp) ((ho1.append hn).mono sk.ext) (.inl rfl) (Grow1.push rfl rfl rfl rfl)
                                    refine ⟨ρ', _, sk.trans g2, g1, _, by rw [hrun]; rfl, ?_⟩
                                    subst hρ
                                    refine slice_new rfl hcapn ?_
                                    simp only [Builtin.zeroCells, Array.size_append, List.size_toArray, Array.size_map, Array.size_range, hl2, hlen2, hzs, ho1.length, t3]
                                    rw [← Nat.add_mul, ← Nat.add_mul, show len + n + (grownCap w (len + n) cap' el - (len + n)) = grownCap w (len + n) cap' el by omega]
                                    exact Nat.le_refl _
end
end Go.Ev

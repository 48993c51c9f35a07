import Derived.Test.YtjgnjjaofaapjaaGreatEvOps7
namespace Go.Ev
section
variable {P : Program} {ρ : Emb} {h : AH} {w : World} {id : Nat}

theorem flat_rep_get {α : Type} (l : List α) : ∀ (n i : Nat), (List.replicate n l).flatten[i]? = if i < n * l.length then l[i % l.length]? else none
  | 0, i => by simp
  | n + 1, i => by
    rw [List.replicate_succ, List.flatten_cons]
    by_cases hi : i < l.length
    · rw [List.getElem?_append_left hi, Nat.mod_eq_of_lt hi, if_pos (by rw [Nat.add_mul]; omega)]
    · have hle : l.length ≤ i := by omega
      rw [List.getElem?_append_right hle, flat_rep_get l n, Nat.mod_eq_sub_mod hle]
      by_cases h2 : i - l.length < n * l.length
      · rw [if_pos h2, if_pos (by rw [Nat.add_mul]; omega)]
      · rw [if_neg h2, if_neg (by rw [Nat.add_mul]; omega)]

theorem rep_array (z : Array Value) (n : Nat) : (Array.range (n * z.size)).map (fun i => z[i % z.size]!) = (repCells n z.toList).toArray := by
  apply Array.ext'
  apply List.ext_getElem?
  intro i
  simp only [Array.toList_map, Array.toList_range, List.getElem?_map, repCells]
  rw [flat_rep_get]
  simp only [Array.length_toList]
  by_cases hi : i < n * z.size
  · rw [if_pos hi, List.getElem?_range hi]
    have hz : 0 < z.size := by
      rcases Nat.eq_zero_or_pos z.size with e | e
      · rw [e] at hi; omega
      · exact e
    have hm := Nat.mod_lt i hz
    simp [hm]
  · rw [if_neg hi, List.getElem?_eq_none (by simp; omega)]
    rfl

theorem repCells_plain {z : List Value} (hz : z.all plain1 = true) (n : Nat) : (repCells n z).all plain1 = true := by
  rw [List.all_eq_true] at hz ⊢
  intro v hv
  simp only [repCells, List.mem_flatten, List.mem_replicate] at hv
  obtain ⟨l, ⟨_, rfl⟩, hm⟩ := hv
  exact hz v hm
theorem repCells_length (z : List Value) (n : Nat) : (repCells n z).length = n * z.length := by simp [repCells, List.sum_replicate_nat]

theorem foldl_size {α : Type} (f : Array Value → α → Array Value) (hf : ∀ a x, (f a x).size = a.size) : ∀ (l : List α) (z : Array Value), (l.foldl f z).size = z.size
  | [], _ => rfl
  | x :: l, z => by rw [List.foldl_cons, foldl_size f hf l, hf]
theorem fill_size (place : Nat → Option (Nat × Nat)) : ∀ (ps : List (Nat × Value)) (z cs : Array Value), Instr.fill place z ps = some cs → cs.size = z.size
  | [], z, cs, e => by simp [Instr.fill] at e; rw [e]
  | p :: ps, z, cs, e => by
    simp only [Instr.fill] at e
    split at e
    · cases e
    · split at e
      · cases e
      · rw [fill_size place ps _ _ e, ← Array.foldl_toList]
        exact foldl_size _ (by intro a x; simp) _ _

theorem op_buildSlice (wr : WRel ρ h w) (t : TypeId) (len : Nat) {ps : List (Nat × Value)} {ps' : Array (Nat × Value)} (hp : PsRel ρ ps ps'.toList) :
    Sim ρ h w id (oBuildSlice P id t len ps) (valR ((Instr.buildSlice t len ps').run P w)) := by
  unfold oBuildSlice
  cases hu : P.underlying t with
  | none => exact sim_fail
  | some d =>
    cases d <;> simp only <;> try exact sim_fail
    rename_i el
    cases hi : P.info? el with
    | none => exact sim_fail
    | some inf =>
      cases hz : aZero P el with
      | none => exact sim_fail
      | some z =>
        obtain ⟨z0, h0, rfl⟩ := aZero_some hz
        obtain ⟨hrun, hpl, _⟩ := aZeroV_some h0
        simp only
        cases hb : (Nat.ble (len * inf.size) 1048576 && Nat.beq z0.cells.size inf.size) with
        | false => exact sim_fail
        | true =>
          rw [Bool.and_eq_true, Nat.beq_eq] at hb
          obtain ⟨hle, hsz⟩ := hb
          have hle := ble_true hle
          simp only [cond_true]
          cases hf : Instr.fill (fun i => some (i * inf.size, inf.size)) (repCells len z0.cells.toList).toArray ps with
          | none => exact sim_fail
          | some cs =>
            simp only
            obtain ⟨cs', h1, h2⟩ := fill_rel (ρ := ρ) _ _ _ _ (repCells len z0.cells.toList).toArray _ hp (by simpa using plains_rel (repCells_plain (plainV_cells hpl) len)) hf
            have hgt : ¬ (len * inf.size > 2 ^ 24) := by omega
            have hzz : (if len * inf.size = 0 then pure #[] else do pure (← zeroValue el).cells : Sem (Array Value)).run P w = .ok (if len * inf.size = 0 then #[] else z0.cells) w := by
              split <;> simp [hrun]
            have harr : (Array.range (len * inf.size)).map (fun i => (if len * inf.size = 0 then #[] else z0.cells)[i % (if len * inf.size = 0 then #[] else z0.cells).size]!) = (repCells len z0.cells.toList).toArray := by
              by_cases h00 : len * inf.size = 0
              · rw [h00]
                have : repCells len z0.cells.toList = [] := by
                  apply List.eq_nil_of_length_eq_zero
                  rw [repCells_length]; simp [hsz, h00]
                simp [this]
              · simp only [if_neg h00]
                rw [← hsz]; exact rep_array _ _
            have hcl : cs.size = len * inf.size := by
              rw [fill_size _ _ _ _ hf]
              simp only [List.size_toArray, repCells_length, Array.length_toList, hsz]
            have hcl' : cs'.size = len * inf.size := by have := h2.length; simp at this; omega
            unfold retV
            refine sim_new fun hg hlt => ?_
            obtain ⟨ρ', hρ, g1, g2⟩ := wr.newCells (w' := { w with heap := w.heap.push (.cells cs' el) }) hg hlt el (arr := cs') [] (by simp) h2 (.inl rfl) (Grow1.push rfl rfl rfl rfl)
            refine ⟨ρ', _, g2, g1, .slice (some ⟨w.heap.size, 0, none⟩) len len, ?_, ?_⟩
            · have hrun2 : (Instr.buildSlice t len ps').run P w = .ok (.slice (some ⟨w.heap.size, 0, none⟩) len len) { w with heap := w.heap.push (.cells cs' el) } := by
                unfold Instr.buildSlice
                simp only [Sem.run_bind, run_underlying hu, Result.andThen_ok, run_sizeOfI hi, if_neg hgt]
                by_cases h00 : len * inf.size = 0
                · simp only [if_pos h00] at harr ⊢
                  simp only [Sem.run_bind, Sem.run_pure, Result.andThen_ok, harr, h1, newRow, run_newObj]
                · simp only [if_neg h00] at harr ⊢
                  simp only [Sem.run_bind, Sem.run_pure, Result.andThen_ok, hrun, harr, h1, newRow, run_newObj]
              rw [hrun2]; rfl
            · subst hρ
              exact slice_new rfl (Nat.le_refl _) (by simp [hcl'])

theorem natOf_some {v : Value} {n : Nat} (e : natOf v = some n) : v = .int .i64 n := by
  unfold natOf at e
  cases v <;> simp only at e <;> try cases e
  rename_i k i
  cases k <;> simp only at e <;> try cases e
  cases i <;> simp only [Option.some.injEq] at e <;> try cases e
  rfl

theorem wrap64_small {n : Nat} (h : n ≤ 70368744177664) : IntKind.i64.wrap (n : Int) = n := by
  unfold IntKind.wrap
  have h1 : (n : Int) % (2 ^ IntKind.bits .i64 : Int) = n := by
    rw [show (2 ^ IntKind.bits .i64 : Int) = 18446744073709551616 from by decide]; omega
  simp only [h1]
  rw [if_neg]
  rw [show (2 ^ (IntKind.bits .i64 - 1) : Int) = 9223372036854775808 from by decide]
  simp [IntKind.signed]; omega

theorem op_makeSlice (wr : WRel ρ h w) (t : TypeId) {l l' c c' : Value} (hl : VRel ρ l l') (hc : VRel ρ c c') :
    Sim ρ h w id (oMakeSlice P id t l c) (valR ((Instr.makeSlice t l' c').run P w)) := by
  unfold oMakeSlice
  cases hu : P.underlying t with
  | none => exact sim_fail
  | some d =>
    cases d <;> simp only <;> try exact sim_fail
    rename_i el
    cases hi : P.info? el with
    | none => exact sim_fail
    | some inf =>
      cases hz : aZero P el with
      | none => exact sim_fail
      | some z =>
        obtain ⟨z0, h0, rfl⟩ := aZero_some hz
        obtain ⟨hrun, hpl, _⟩ := aZeroV_some h0
        simp only
        cases hn : natOf l with
        | none => exact sim_fail
        | some n =>
          cases hm : natOf c with
          | none => exact sim_fail
          | some m =>
            have := natOf_some hn
            subst this
            have := natOf_some hm
            subst this
            cases hl
            cases hc
            simp only
            cases hb : (Nat.beq n m && Nat.ble (inf.bytes * n) 70368744177664 && Nat.ble n 70368744177664 && Nat.beq z0.cells.size inf.size) with
            | false => exact sim_fail
            | true =>
              simp only [Bool.and_eq_true, Nat.beq_eq] at hb
              obtain ⟨⟨⟨rfl, hb1⟩, hb2⟩, hsz⟩ := hb
              have hb1 := ble_true hb1
              have hb2 := ble_true hb2
              simp only [cond_true]
              unfold retV
              refine sim_new fun hg hlt => ?_
              have harr : (Array.range (n * inf.size)).map (fun i => (if n * inf.size = 0 then #[] else z0.cells)[i % (if n * inf.size = 0 then #[] else z0.cells).size]!) = (repCells n z0.cells.toList).toArray := by
                by_cases h00 : n * inf.size = 0
                · rw [h00]
                  have : repCells n z0.cells.toList = [] := by
                    apply List.eq_nil_of_length_eq_zero
                    rw [repCells_length]; simp [hsz, h00]
                  simp [this]
                · simp only [if_neg h00]
                  rw [← hsz]; exact rep_array _ _
              obtain ⟨ρ', hρ, g1, g2⟩ := wr.newCells (cs := repCells n z0.cells.toList) (cs' := repCells n z0.cells.toList) (w' := { w with heap := w.heap.push (.cells (repCells n z0.cells.toList).toArray el) }) hg hlt el (arr := (repCells n z0.cells.toList).toArray) [] (by simp) (plains_rel (repCells_plain (plainV_cells hpl) n)) (.inl rfl) (Grow1.push rfl rfl rfl rfl)
              refine ⟨ρ', _, g2, g1, .slice (some ⟨w.heap.size, 0, none⟩) n n, ?_, ?_⟩
              · have hrun2 : (Instr.makeSlice t (.int .i64 n) (.int .i64 n)).run P w = .ok (.slice (some ⟨w.heap.size, 0, none⟩) n n) { w with heap := w.heap.push (.cells (repCells n z0.cells.toList).toArray el) } := by
                  unfold Instr.makeSlice
                  have ht : (inf.bytes : Int) * (n : Int) ≤ 281474976710656 := by
                    have : (inf.bytes : Int) * (n : Int) = ((inf.bytes * n : Nat) : Int) := by simp
                    rw [this]
                    omega
                  simp only [Sem.run_bind, run_underlying hu, Result.andThen_ok, asInt, run_asIntOf, Sem.run_pure, run_typeInfoI hi, wrap64_small hb2, Int.toNat_natCast]
                  rw [if_neg (by simp; exact ht)]
                  simp only [Sem.run_bind, run_askRoom, Result.andThen_ok, run_sizeOfI hi]
                  by_cases h00 : n * inf.size = 0
                  · simp only [if_pos h00] at harr ⊢
                    simp only [Sem.run_bind, Sem.run_pure, Result.andThen_ok, harr, newRow, run_newObj]
                  · simp only [if_neg h00] at harr ⊢
                    simp only [Sem.run_bind, Sem.run_pure, Result.andThen_ok, hrun, harr, newRow, run_newObj]
                rw [hrun2]; rfl
              · subst hρ
                exact slice_new rfl (Nat.le_refl _) (by simp only [List.size_toArray, repCells_length, Array.length_toList, hsz]; exact Nat.le_refl _)
end
end Go.Ev

import Derived.Test.YtjgnjjaofaapjaaGreatEvOps6
import Derived.Laws.Tables
namespace Go.Ev
section
variable {P : Program} {ρ : Emb} {h : AH} {w : World} {id : Nat}

theorem VsRel.set {ρ : Emb} : ∀ {l l' : List Value} (i : Nat) {v v' : Value}, VsRel ρ l l' → VRel ρ v v' → VsRel ρ (l.set i v) (l'.set i v')
  | _, _, _, _, _, .nil, _ => by simpa using VsRel.nil
  | _, _, 0, _, _, .cons u u' l l' _ t, h => by simpa using VsRel.cons _ _ _ _ h t
  | _, _, i + 1, _, _, .cons u u' l l' r t, h => by simpa using VsRel.cons u u' _ _ r (t.set i h)

inductive PsRel (ρ : Emb) : List (Nat × Value) → List (Nat × Value) → Prop
  | nil : PsRel ρ [] []
  | cons (i : Nat) (v v' : Value) (l l' : List (Nat × Value)) (h : VRel ρ v v') (t : PsRel ρ l l') : PsRel ρ ((i, v) :: l) ((i, v') :: l')

theorem fold_rel (off : Nat) : ∀ (l l' : List Value) (k : Nat) (cs cs' : Array Value), VsRel ρ l l' → VsRel ρ cs.toList cs'.toList →
    VsRel ρ ((l.zipIdx k).foldl (fun (cs : Array Value) (p : Value × Nat) => cs.setIfInBounds (off + p.2) p.1) cs).toList ((l'.zipIdx k).foldl (fun (cs : Array Value) (p : Value × Nat) => cs.setIfInBounds (off + p.2) p.1) cs').toList := by
  intro l
  induction l with
  | nil => intro l' k cs cs' r h; cases r; simpa using h
  | cons v l ih =>
    intro l' k cs cs' r h
    cases r with
    | cons v v' l l' hv t =>
      simp only [List.zipIdx_cons, List.foldl_cons]
      exact ih _ _ _ _ t (by simp only [Array.toList_setIfInBounds]; exact h.set _ hv)

theorem fill_rel (place : Nat → Option (Nat × Nat)) : ∀ (ps ps' : List (Nat × Value)) (z z' cs : Array Value), PsRel ρ ps ps' → VsRel ρ z.toList z'.toList → Instr.fill place z ps = some cs →
    ∃ cs', Instr.fill place z' ps' = some cs' ∧ VsRel ρ cs.toList cs'.toList := by
  intro ps
  induction ps with
  | nil =>
    intro ps' z z' cs r h e
    cases r
    simp only [Instr.fill, Option.some.injEq] at e ⊢
    subst e
    exact ⟨_, rfl, h⟩
  | cons p ps ih =>
    intro ps' z z' cs r h e
    cases r with
    | cons i v v' l l' hv t =>
      simp only [Instr.fill] at e ⊢
      cases hp : place i with
      | none => simp [hp] at e
      | some q =>
        obtain ⟨off, size⟩ := q
        simp only [hp] at e ⊢
        have hsz : v'.cells.size = v.cells.size := by have := hv.cells.length; simpa using this
        have hzz : z'.size = z.size := by have := h.length; simpa using this
        rw [hsz, hzz]
        by_cases hc : (v.cells.size ≠ size || off + v.cells.size > z.size) = true
        · rw [if_pos hc] at e; cases e
        · rw [if_neg hc] at e ⊢
          refine ih _ _ _ _ t ?_ e
          have := fold_rel (ρ := ρ) off v.cells.toList v'.cells.toList 0 z z' hv.cells h
          have key : ∀ (a z : Array Value), a.zipIdx.foldl (fun (cs : Array Value) (p : Value × Nat) => cs.setIfInBounds (off + p.2) p.1) z = a.toList.zipIdx.foldl (fun (cs : Array Value) (p : Value × Nat) => cs.setIfInBounds (off + p.2) p.1) z := by
            intro a z; rw [← Array.foldl_toList, Array.toList_zipIdx]
          rw [← key, ← key] at this
          exact this

theorem places_some {fs : Array Field} (h : (fs.all fun f => (P.info? f.type).isSome) = true) :
    fs.toList.mapM (fun f => (P.info? f.type).map fun i => (f.offset, i.size)) = some (fs.toList.map fun f => (f.offset, P.cellsOf f.type)) := by
  rw [Array.all_eq_true'] at h
  have h' : ∀ f ∈ fs.toList, (P.info? f.type).isSome = true := fun f hf => by simpa using h f (Array.mem_toList_iff.1 hf)
  revert h'
  generalize fs.toList = l
  intro h'
  induction l with
  | nil => rfl
  | cons f l ih =>
    obtain ⟨i, hi⟩ := Option.isSome_iff_exists.1 (h' f (by simp))
    rw [List.mapM_cons, ih (fun g hg => h' g (by simp [hg]))]
    simp [hi, Program.cellsOf]

theorem op_build (wr : WRel ρ h w) (t : TypeId) {ps : List (Nat × Value)} {ps' : Array (Nat × Value)} (hp : PsRel ρ ps ps'.toList) :
    Sim ρ h w id (oBuild P t ps) (valR ((Instr.build t ps').run P w)) := by
  unfold oBuild
  cases hz : aZero P t with
  | none => exact sim_fail
  | some z =>
    obtain ⟨z0, h0, rfl⟩ := aZero_some hz
    obtain ⟨hrun, hpl, _⟩ := aZeroV_some h0
    simp only
    cases hu : P.underlying t with
    | none => exact sim_fail
    | some d =>
      cases d <;> simp only <;> try exact sim_fail
      case struct fs =>
        cases hall : fs.all fun f => (P.info? f.type).isSome with
        | false => exact sim_fail
        | true =>
          simp only [cond_true]
          refine sim_retO wr fun v e => ?_
          cases hf : Instr.fill ((aPlaces P fs)[·]?) z0.cells ps with
          | none => simp [hf] at e
          | some cs =>
            simp only [hf, Option.map_some, Option.some.injEq] at e
            subst e
            obtain ⟨cs', h1, h2⟩ := fill_rel _ _ _ _ _ _ hp (plains_rel (plainV_cells hpl)) hf
            have hm := run_places (P := P) w fs.toList _ (places_some hall)
            have h1' : Instr.fill ((List.map (fun f => (f.offset, P.cellsOf f.type)) fs.toList)[·]?) z0.cells ps'.toList = some cs' := by
              rw [← h1]; congr 1; funext i; simp [aPlaces]
            exact ⟨.agg cs', by simp [Instr.build, hrun, run_underlying hu, Array.mapM_eq_mapM_toList, hm] at h1' ⊢; simp [h1'], .agg _ _ h2⟩
      case array n e =>
        cases hi : P.info? e with
        | none => exact sim_fail
        | some inf =>
          simp only
          refine sim_retO wr fun v e => ?_
          cases hf : Instr.fill (fun i => some (i * inf.size, inf.size)) z0.cells ps with
          | none => simp [hf] at e
          | some cs =>
            simp only [hf, Option.map_some, Option.some.injEq] at e
            subst e
            obtain ⟨cs', h1, h2⟩ := fill_rel _ _ _ _ _ _ hp (plains_rel (plainV_cells hpl)) hf
            exact ⟨.agg cs', by simp [Instr.build, hrun, run_underlying hu, run_sizeOfI hi, h1], .agg _ _ h2⟩
end
end Go.Ev

import Derived.Test.YtjgnjjaofaapjaaGreatEvCall
namespace Go.Ev
open Go.RowKit

theorem WRel.below {ρ : Emb} {h : AH} {w w' : World} (r : WRel ρ h w) (b : Below w.heap.size w w') : WRel ρ h w' := by
  have keep : ∀ (o : AObj) (g : Img) (i : Nat), ρ i = .img g → ObjRel ρ w o g → ObjRel ρ w' o g := by
    intro o g i hi x
    have hb := b.block g.b (r.block hi)
    cases o with
    | dead => exact x
    | amap es => obtain ⟨x1, es', clk, x2, x3⟩ := x; exact ⟨x1, es', clk, by rw [hb]; exact x2, x3⟩
    | cells c rw =>
      obtain ⟨x1, c', e, fz, x2, x3, x4, x5, x6⟩ := x
      refine ⟨x1, c', e, fz, by rw [hb]; exact x2, x3, x4, x5, fun hrw off hoff => ?_⟩
      have := x6 hrw off hoff
      unfold World.frozen? at this ⊢
      simp only at this ⊢
      rw [hb]
      exact this
  refine ⟨r.ok, fun i => ?_, r.inj⟩
  have := r.obj i
  cases hg : h.get i with
  | none => rw [hg] at this; exact this
  | some o =>
    rw [hg] at this
    cases o with
    | dead => exact this
    | amap es => obtain ⟨g, h1, h2⟩ := this; exact ⟨g, h1, keep _ g i h1 h2⟩
    | cells c rw => obtain ⟨g, h1, h2⟩ := this; exact ⟨g, h1, keep _ g i h1 h2⟩
theorem Step.of_below {ρ : Emb} {w w' : World} (b : Below w.heap.size w w') : Step ρ w ρ w' :=
  ⟨Ext.refl ρ, b.os, b.tape, b.output, b.size, fun k hk _ => b.block k hk, fun i g hg hr => .inr ⟨i, g, hg, hr, rfl⟩⟩

/-- '(*Sweep).Ids' at a map that is empty: nil. -/
def idsOf (m : Value) : AM Value :=
  match m with
  | .map (some r) => .get r fun o => match o with
    | .amap es => match es with
      | [] => .ret (.slice none 0 0)
      | _ :: _ => .fail
    | _ => .fail
  | _ => .fail
def idsA (args : List Value) : AM Value :=
  match args with
  | [x] => match addrOf x with
    | some a => .get a.block fun o => match o with
      | .cells c _ => match c[a.off]? with
        | some m => idsOf m
        | none => .fail
      | _ => .fail
    | none => .fail
  | _ => .fail

theorem ids_tab {P : Program} {f : FuncId} (hids : ∀ (a : Addr) (r clk : Nat) (w : World), a.spot = none → w.cell? a = some (.map (some r)) → w.heap[r]? = some (.map #[] clk) → Calls P f #[.pointer (some a)] w fun e w' => e = .returned (.slice none 0 0) ∧ Below w.heap.size w w')
    {ρ : Emb} {h : AH} {w : World} {args : List Value} {args' : Array Value} {v : Value} {h1 : AH} (wr : WRel ρ h w) (ra : VsRel ρ args args'.toList) (e : tabF (fun args _ => idsA args) args h = some (.returned v, h1)) :
    Calls P f args' w (CallEnd ρ w v h1) := by
  simp only [tabF] at e
  cases hb : Nat.blt h.next most with
  | false => rw [hb] at e; cases e
  | true =>
    rw [hb] at e
    have hn : h.next + 1 ≤ most := lt_of_blt hb
    have wrm := wr.more hn
    simp only [cond_true] at e
    cases hr : (idsA args).run h.next ⟨h.t, h.next + 1, h.log⟩ with
    | none => rw [hr] at e; cases e
    | some p =>
      obtain ⟨u, h2⟩ := p
      rw [hr] at e
      simp only [Option.some.injEq, Prod.mk.injEq, AEnd.returned.injEq] at e
      obtain ⟨rfl, rfl⟩ := e
      have hr : (idsA args).run h.next (h.more 1) = some (u, h2) := hr
      obtain ⟨l⟩ := args'
      simp only at ra
      unfold idsA at hr
      cases ra with
      | nil => simp [AM.run] at hr
      | cons x x' la la' hx ht =>
        cases ht with
        | cons _ _ _ _ _ _ => simp [AM.run] at hr
        | nil =>
          simp only at hr
          cases ha : addrOf x with
          | none => rw [ha] at hr; simp [AM.run] at hr
          | some a =>
            rw [ha] at hr
            obtain ⟨a', rfl, har⟩ := addrOf_rel ha hx
            simp only [AM.run] at hr
            cases hg : (h.more 1).get a.block with
            | none => rw [hg] at hr; cases hr
            | some o =>
              rw [hg] at hr
              cases o with
              | amap _ => simp [AM.run] at hr
              | dead => simp [AM.run] at hr
              | cells c rw =>
                simp only at hr
                cases hc : c[a.off]? with
                | none => rw [hc] at hr; simp [AM.run] at hr
                | some m =>
                  rw [hc] at hr
                  simp only at hr
                  obtain ⟨g, hi, _, c', et, fz, hb', hsz, hlen, hcs, _⟩ := wrm.cells hg
                  obtain ⟨hsp, hbl, hoff⟩ := har.2.2 g hi
                  obtain ⟨m', hm', rm⟩ := hcs a.off m hc
                  unfold idsOf at hr
                  cases rm <;> simp only [AM.run] at hr <;> try cases hr
                  rename_i r r' hmr
                  cases hgr : (h.more 1).get r with
                  | none => rw [hgr] at hr; cases hr
                  | some o =>
                    rw [hgr] at hr
                    cases o with
                    | cells _ _ => simp [AM.run] at hr
                    | dead => simp [AM.run] at hr
                    | amap es =>
                      cases es with
                      | cons _ _ => simp [AM.run] at hr
                      | nil =>
                        simp only [AM.run, Option.some.injEq, Prod.mk.injEq] at hr
                        obtain ⟨rfl, rfl⟩ := hr
                        obtain ⟨g2, hi2, _, es', clk, hb2, her⟩ := wrm.amap hgr
                        have hes : es' = #[] := by
                          obtain ⟨l⟩ := es'
                          cases her
                          rfl
                        subst hes
                        have hr' : r' = g2.b := hmr.2 g2 hi2
                        subst hr'
                        have hcell : w.cell? a' = some (.map (some g2.b)) := by
                          obtain ⟨b', o', sp'⟩ := a'
                          simp only at hsp hbl hoff
                          subst hsp hbl hoff
                          rw [cell_of hb']
                          exact hm'
                        refine Calls.mono (hids a' g2.b clk w hsp hcell hb2) ?_
                        rintro e w' ⟨rfl, hbelow⟩
                        exact ⟨_, ρ, rfl, .slNil, wrm.below hbelow, Step.of_below hbelow⟩
end Go.Ev

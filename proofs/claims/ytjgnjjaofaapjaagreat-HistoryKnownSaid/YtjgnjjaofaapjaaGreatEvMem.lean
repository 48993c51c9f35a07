import Derived.Test.YtjgnjjaofaapjaaGreatEvRel
import Derived.Laws.IdiomCopy
import Derived.Laws.Append
import Derived.Laws.Cells
import Derived.Laws.World
namespace Go.Ev

theorem ble_true {i n : Nat} (h : Nat.ble i n = true) : i ≤ n := Nat.le_of_ble_eq_true h

theorem add_none (b o n : Nat) : (⟨b, o, none⟩ : Addr).add n = ⟨b, o + n, none⟩ := by
  unfold Addr.add; split <;> simp_all

theorem cell_of {w : World} {b : Nat} {c : Array Value} {e : TypeId} {fz : Nat × Nat} (hb : w.heap[b]? = some (.cells c e fz)) (off : Nat) :
    w.cell? ⟨b, off, none⟩ = c[off]? := by simp [World.cell?, hb]

theorem takeCells_some {c : List Value} {off n : Nat} {l : List Value} (h : takeCells c off n = some l) : off + n ≤ c.length ∧ l = (c.drop off).take n ∧ l.length = n := by
  unfold takeCells at h
  cases hb : Nat.ble (Nat.add off n) c.length with
  | false => rw [hb] at h; simp at h
  | true =>
    rw [hb] at h
    have h1 : off + n ≤ c.length := ble_true hb
    simp only [cond_true, Option.some.injEq] at h
    refine ⟨h1, h.symm, ?_⟩
    rw [← h]; simp; omega

theorem AddrRel.add {ρ : Emb} {a a' : Addr} (h : AddrRel ρ a a') (n : Nat) : AddrRel ρ ⟨a.block, a.off + n, none⟩ (a'.add n) := by
  refine ⟨h.1, rfl, fun g hg => ?_⟩
  obtain ⟨h1, h2, h3⟩ := h.2.2 g hg
  obtain ⟨b, o, sp⟩ := a'
  simp only at h1 h2 h3
  subst h1
  rw [add_none]
  exact ⟨rfl, h2, by simp only; omega⟩

/-- The object's cells, as the world has them. -/
theorem cells_rel {ρ : Emb} {h : AH} {w : World} (r : WRel ρ h w) {i : Nat} {c : List Value} {rw : Bool} (hg : h.get i = some (.cells c rw))
    {off n : Nat} {l : List Value} (ht : takeCells c off n = some l) :
    ∃ g l', ρ i = .img g ∧ VsRel ρ l l' ∧ l'.length = n ∧ ∀ j v, l'[j]? = some v → w.cell? ⟨g.b, g.base + off + j, none⟩ = some v := by
  obtain ⟨g, hi, hrw, c', e, fz, hb, hn, hle, hc, hf⟩ := r.cells hg
  obtain ⟨h1, h2, h3⟩ := takeCells_some ht
  refine ⟨g, (c'.toList.drop (g.base + off)).take n, hi, ?_, ?_, ?_⟩
  · refine VsRel.of_get ?_ fun j v hj => ?_
    · rw [h3]; simp; omega
    · have hjn : j < n := by
        rcases Nat.lt_or_ge j n with h | h
        · exact h
        · rw [List.getElem?_eq_none (by omega)] at hj; cases hj
      rw [h2, List.getElem?_take_of_lt hjn, List.getElem?_drop] at hj
      obtain ⟨v', hv', hr⟩ := hc _ _ hj
      refine ⟨v', ?_, hr⟩
      rw [List.getElem?_take_of_lt hjn, List.getElem?_drop, Array.getElem?_toList, ← hv']
      congr 1; omega
  · simp; omega
  · intro j v hj
    have hjn : j < n := by
      rcases Nat.lt_or_ge j n with h | h
      · exact h
      · rw [List.getElem?_eq_none (by simp; omega)] at hj; cases hj
    rw [List.getElem?_take_of_lt hjn, List.getElem?_drop, Array.getElem?_toList] at hj
    rw [cell_of hb]; exact hj

/-- ... and as they are loaded. -/
theorem loadCells_rel {P : Program} {ρ : Emb} {h : AH} {w : World} (r : WRel ρ h w) {a a' : Addr} (ha : AddrRel ρ a a') {c : List Value} {rw : Bool}
    (hg : h.get a.block = some (.cells c rw)) {n : Nat} {l : List Value} (ht : takeCells c a.off n = some l) :
    ∃ l', VsRel ρ l l' ∧ (loadCells a' n).run P w = .ok l'.toArray w ∧ ∀ j v, l'[j]? = some v → w.cell? (a'.add j) = some v := by
  obtain ⟨g, l', hi, hr, hn, hc⟩ := cells_rel r hg ht
  obtain ⟨hsp, hb, ho⟩ := ha.2.2 g hi
  have hcell : ∀ j v, l'[j]? = some v → w.cell? (a'.add j) = some v := by
    intro j v hj
    obtain ⟨b', o', sp'⟩ := a'
    simp only at hb ho hsp
    subst hb ho hsp
    rw [add_none]
    exact hc j v hj
  refine ⟨l', hr, ?_, hcell⟩
  rw [← hn]
  exact run_loadCells_list w a' l' hcell

/-! A new object. -/
def put1 (ρ : Emb) (i : Nat) (s : Slot) : Emb := fun j => if j = i then s else ρ j

theorem put1_same (ρ : Emb) (i : Nat) (s : Slot) : put1 ρ i s i = s := by simp [put1]
theorem put1_ne (ρ : Emb) {i j : Nat} (s : Slot) (h : j ≠ i) : put1 ρ i s j = ρ j := by simp [put1, h]
theorem ext_put1 {ρ : Emb} {i : Nat} (h : ρ i = .free) (s : Slot) : Ext ρ (put1 ρ i s) := by
  intro j hj
  have : j ≠ i := fun e => hj (e ▸ h)
  exact .inl (put1_ne ρ s this)
theorem ext_dead (ρ : Emb) (i : Nat) : Ext ρ (put1 ρ i .dead) := by
  intro j hj
  by_cases e : j = i
  · subst e; exact .inr (put1_same ρ j .dead)
  · exact .inl (put1_ne ρ .dead e)

theorem ObjRel.mono {ρ ρ' : Emb} (x : Ext ρ ρ') {w : World} {o : AObj} {g : Img} (h : ObjRel ρ w o g) : ObjRel ρ' w o g := by
  cases o with
  | dead => exact h.elim
  | cells c rw =>
    obtain ⟨h2, c', e, fz, h3, h4, h5, h6, h7⟩ := h
    exact ⟨h2, c', e, fz, h3, h4, h5, fun j v hj => let ⟨v', a, b⟩ := h6 j v hj; ⟨v', a, b.mono x⟩, h7⟩
  | amap es =>
    obtain ⟨h1, es', clk, h2, h3⟩ := h
    exact ⟨h1, es', clk, h2, h3.mono x⟩

theorem frozen_of_block {w w' : World} {a : Addr} (h : w'.heap[a.block]? = w.heap[a.block]?) : w'.frozen? a = w.frozen? a := by
  simp only [World.frozen?, h]

/-- An object reads the same in a world in which its block is the same. -/
theorem ObjRel.world {ρ : Emb} {w w' : World} {o : AObj} {g : Img} (h : ObjRel ρ w o g) (hb : w'.heap[g.b]? = w.heap[g.b]?) : ObjRel ρ w' o g := by
  cases o with
  | dead => exact h.elim
  | cells c rw =>
    obtain ⟨h2, c', e, fz, h3, h4, h5, h6, h7⟩ := h
    exact ⟨h2, c', e, fz, hb.trans h3, h4, h5, h6, fun hr off ho => (frozen_of_block (a := ⟨g.b, off, none⟩) hb).trans (h7 hr off ho)⟩
  | amap es =>
    obtain ⟨h1, es', clk, h2, h3⟩ := h
    exact ⟨h1, es', clk, hb.trans h2, h3⟩

/-- A world with one block more, and further on in its tape. -/
structure Grow1 (w w' : World) (o : Obj) : Prop where
  os : w'.os = w.os
  tape : w'.tape = w.tape
  output : w'.output = w.output
  size : w'.heap.size = w.heap.size + 1
  here : w'.heap[w.heap.size]? = some o
  old : ∀ {b : Nat}, b < w.heap.size → w'.heap[b]? = w.heap[b]?

theorem Grow1.push {w w' : World} {o : Obj} (h1 : w'.os = w.os) (h2 : w'.tape = w.tape) (h3 : w'.output = w.output) (h4 : w'.heap = w.heap.push o) : Grow1 w w' o :=
  ⟨h1, h2, h3, by rw [h4]; simp, by rw [h4]; simp, fun {b} h => by rw [h4, Array.getElem?_push, if_neg (by omega)]⟩

theorem WRel.new {ρ : Emb} {h : AH} {w w' : World} (r : WRel ρ h w) {id : Nat} {o : AObj} {ob : Obj} {g : Img} (hd : o ≠ .dead) (hg : h.get id = none) (hlt : id < h.next)
    (gr : Grow1 w w' ob) (hb : g.b = w.heap.size) (ho : ObjRel (put1 ρ id (.img g)) w' o g) :
    WRel (put1 ρ id (.img g)) (h.put id o) w' ∧ Step ρ w (put1 ρ id (.img g)) w' := by
  have hfree := r.free hg
  have ext := ext_put1 hfree (.img g)
  refine ⟨⟨AH.ok_put r.ok hlt _, fun i => ?_, fun i j gi gj hne hi hj hrw => ?_⟩, ⟨ext, gr.os, gr.tape, gr.output, by rw [gr.size]; omega, fun b hb' _ => gr.old hb', fun i g' hi hr => ?_⟩⟩
  · by_cases e : i = id
    · subst e
      rw [AH.get_put_same h i o hlt, put1_same]
      cases o with
      | dead => exact absurd rfl hd
      | cells c rw => exact ⟨g, rfl, ho⟩
      | amap es => exact ⟨g, rfl, ho⟩
    · rw [AH.get_put_ne h r.ok id i o hlt (Ne.symm e), put1_ne ρ _ e]
      have := r.obj i
      cases hgi : h.get i with
      | none => rw [hgi] at this; exact this
      | some x =>
        rw [hgi] at this
        cases x with
        | dead => exact this
        | cells c rw => obtain ⟨g', h1, h2⟩ := this; exact ⟨g', h1, (h2.mono ext).world (gr.old (r.block h1))⟩
        | amap es => obtain ⟨g', h1, h2⟩ := this; exact ⟨g', h1, (h2.mono ext).world (gr.old (r.block h1))⟩
  · by_cases ei : i = id
    · subst ei
      rw [put1_same] at hi
      rw [put1_ne ρ _ (Ne.symm hne)] at hj
      cases hi
      have := r.block hj
      omega
    · rw [put1_ne ρ _ ei] at hi
      by_cases ej : j = id
      · subst ej
        rw [put1_same] at hj
        cases hj
        have := r.block hi
        omega
      · rw [put1_ne ρ _ ej] at hj
        exact r.inj i j gi gj hne hi hj hrw
  · by_cases ei : i = id
    · subst ei
      rw [put1_same] at hi
      cases hi
      exact .inl (by omega)
    · rw [put1_ne ρ _ ei] at hi
      exact .inr ⟨i, g', hi, hr, rfl⟩

/-- A new block of cells, with more cells behind, none of them frozen. -/
theorem WRel.newCells {ρ : Emb} {h : AH} {w w' : World} (r : WRel ρ h w) {id : Nat} (hg : h.get id = none) (hlt : id < h.next) {cs cs' : List Value} (e : TypeId)
    {arr : Array Value} {fz : Nat × Nat} (rest : List Value) (ha : arr.toList = cs' ++ rest) (hr : VsRel ρ cs cs') (hfz : fz.1 = fz.2 ∨ arr.size ≤ fz.1) (gr : Grow1 w w' (.cells arr e fz)) :
    ∃ ρ', ρ' = put1 ρ id (.img ⟨w.heap.size, 0, arr.size, true⟩) ∧ WRel ρ' (h.put id (.cells cs true)) w' ∧ Step ρ w ρ' w' := by
  have hfree := r.free hg
  have ext := ext_put1 hfree (.img ⟨w.heap.size, 0, arr.size, true⟩)
  refine ⟨_, rfl, r.new (by simp) hg hlt gr rfl ⟨rfl, arr, e, fz, gr.here, rfl, ?_, ?_, ?_⟩⟩
  · have h1 : arr.size = (cs' ++ rest).length := by rw [← ha]; simp
    simp only [h1, List.length_append, hr.length]; omega
  · intro j v hj
    obtain ⟨v', h1, h2⟩ := hr.get j v hj
    refine ⟨v', ?_, h2.mono ext⟩
    have hlt' : j < cs'.length := by
      rcases Nat.lt_or_ge j cs'.length with h | h
      · exact h
      · rw [List.getElem?_eq_none h] at h1; cases h1
    rw [← Array.getElem?_toList, ha, Nat.zero_add, List.getElem?_append_left hlt']; exact h1
  · intro _ off ho
    have hw := gr.here
    simp only [World.frozen?, hw]
    simp only at ho
    rcases hfz with h | h
    · simp; omega
    · simp; omega

theorem addr_new {ρ : Emb} {id : Nat} {g : Img} (hb : g.base = 0) : AddrRel (put1 ρ id (.img g)) ⟨id, 0, none⟩ ⟨g.b, 0, none⟩ := by
  refine ⟨by simp [put1], rfl, fun g' hg => ?_⟩
  simp only [put1_same] at hg
  cases hg
  exact ⟨rfl, rfl, by simp [hb]⟩

theorem slice_new {ρ : Emb} {id : Nat} {g : Img} {n cap s : Nat} (hb : g.base = 0) (hn : n ≤ cap) (hc : cap * s ≤ g.n) :
    VRel (put1 ρ id (.img g)) (sl id n s) (.slice (some ⟨g.b, 0, none⟩) n cap) := by
  refine .sl _ _ _ _ _ ⟨by simp [put1], rfl, hn, fun g' hg => ?_⟩
  simp only [put1_same] at hg
  cases hg
  exact .inr ⟨rfl, rfl, by simp [hb], by simpa using hc⟩

/-! A store. -/
theorem heap_setCells_ne (b : Nat) : ∀ (vs : List Value) (o : Nat) (w : World) (k : Nat), k ≠ b → (w.setCells b o vs).heap[k]? = w.heap[k]?
  | [], _, _, _, _ => rfl
  | v :: r, o, w, k, h => by
    rw [World.setCells, heap_setCells_ne b r (o + 1) _ k h]
    simp only [World.setCell, Array.getElem?_modify]
    rw [if_neg (Ne.symm h)]
theorem size_setCells (b : Nat) : ∀ (vs : List Value) (o : Nat) (w : World), (w.setCells b o vs).heap.size = w.heap.size
  | [], _, _ => rfl
  | v :: r, o, w => by rw [World.setCells, size_setCells b r (o + 1)]; simp [World.setCell]
theorem os_setCells (b : Nat) : ∀ (vs : List Value) (o : Nat) (w : World), (w.setCells b o vs).os = w.os ∧ (w.setCells b o vs).tape = w.tape ∧ (w.setCells b o vs).output = w.output
  | [], _, _ => ⟨rfl, rfl, rfl⟩
  | v :: r, o, w => by rw [World.setCells]; exact os_setCells b r (o + 1) _
theorem block_setCells (b : Nat) : ∀ (vs : List Value) (o : Nat) (w : World) (c : Array Value) (e : TypeId) (fz : Nat × Nat), w.heap[b]? = some (.cells c e fz) →
    ∃ c', (w.setCells b o vs).heap[b]? = some (.cells c' e fz) ∧ c'.size = c.size
  | [], _, _, c, _, _, h => ⟨c, h, rfl⟩
  | v :: r, o, w, c, e, fz, h => by
    have h1 : (w.setCell ⟨b, o, none⟩ v).heap[b]? = some (.cells (c.setIfInBounds o v) e fz) := by
      simp [World.setCell, Array.getElem?_modify, h]
    obtain ⟨c', h2, h3⟩ := block_setCells b r (o + 1) _ _ _ _ h1
    exact ⟨c', by rw [World.setCells]; exact h2, by rw [h3]; simp⟩

theorem notAgg_one {v : Value} (h : notAgg v = true) : v.oneCell' = true := by cases v <;> simp_all [notAgg, Value.oneCell']

/-- A store of some cells into an object that may be written. -/
theorem store_rel {P : Program} {ρ : Emb} {h : AH} {w : World} (r : WRel ρ h w) {a a' : Addr} (ha : AddrRel ρ a a') {c : List Value}
    (hg : h.get a.block = some (.cells c true)) {vs vs' : List Value} (hv : VsRel ρ vs vs') (hn : vs.all notAgg = true) (hle : a.off + vs.length ≤ c.length) :
    ∃ w', (storeCells a' vs').run P w = .ok () w' ∧ WRel ρ (h.set a.block (.cells (putCells c a.off vs) true)) w' ∧ Step ρ w ρ w' := by
  obtain ⟨g, hi, hrw, c', e, fz, hb, hsz, hle', hc, hf⟩ := r.cells hg
  obtain ⟨hsp, hb', ho⟩ := ha.2.2 g hi
  obtain ⟨b0, o0, sp0⟩ := a'
  simp only at hb' ho hsp
  subst hb' ho hsp
  have hl := hv.length
  have hcell : ∀ j, j < vs'.length → (w.cell? ⟨g.b, g.base + a.off + j, none⟩).isSome = true := by
    intro j hj
    rw [cell_of hb]
    simp; omega
  have hfr : ∀ j, j < vs'.length → w.frozen? ⟨g.b, g.base + a.off + j, none⟩ = false := fun j hj => hf rfl _ (by omega)
  have hone : ∀ v ∈ vs', v.oneCell' = true := by
    intro v hm
    have := notAggs_rel hv
    rw [hn] at this
    exact notAgg_one (List.all_eq_true.1 this v hm)
  have hrun := run_storeCells_cells (P := P) g.b (g.base + a.off) vs' 0 w (by simpa using hcell) (by simpa using hfr) hone
  refine ⟨_, hrun, ?_, ?_⟩
  · rw [Nat.add_zero]
    have hlt : a.block < h.next := AH.get_lt hg
    refine ⟨AH.ok_set r.ok hlt _, fun i => ?_, r.inj⟩
    by_cases ei : i = a.block
    · subst ei
      rw [AH.get_set_same h _ _ hlt]
      obtain ⟨c2, h2, h3⟩ := block_setCells g.b vs' (g.base + a.off) w c' e fz hb
      refine ⟨g, hi, hrw, c2, e, fz, h2, h3.trans hsz, ?_, ?_, ?_⟩
      · simp only [putCells, List.length_append, List.length_take, List.length_drop]; omega
      · intro j v hj
        by_cases hin : a.off ≤ j ∧ j < a.off + vs.length
        · have hj' : vs[j - a.off]? = some v := by
            unfold putCells at hj
            rw [List.getElem?_append_right (by simp; omega), List.length_take, Nat.min_eq_left (by omega), List.getElem?_append_left (by omega)] at hj
            exact hj
          obtain ⟨v', hv', hr'⟩ := hv.get _ _ hj'
          refine ⟨v', ?_, hr'⟩
          have hlt' : j - a.off < vs'.length := by omega
          have := World.cell?_setCells_in g.b vs' (g.base + a.off) w hcell (j - a.off) hlt'
          rw [cell_of h2] at this
          rw [show g.base + j = g.base + a.off + (j - a.off) by omega, this, ← hv', List.getElem?_eq_getElem hlt']
        · have hj' : c[j]? = some v := by
            unfold putCells at hj
            by_cases hlt1 : j < a.off
            · rw [List.getElem?_append_left (by simp; omega), List.getElem?_take_of_lt hlt1] at hj; exact hj
            · rw [List.getElem?_append_right (by simp; omega), List.length_take, Nat.min_eq_left (by omega), List.getElem?_append_right (by omega), List.getElem?_drop] at hj
              rw [← hj]; congr 1; omega
          obtain ⟨v', hv', hr'⟩ := hc _ _ hj'
          refine ⟨v', ?_, hr'⟩
          have := World.cell?_setCells_out g.b vs' (g.base + a.off) w ⟨g.b, g.base + j, none⟩ (fun _ _ => by simp only; omega)
          rw [cell_of h2, cell_of hb] at this
          rw [this, hv']
      · intro _ off hoff
        rw [World.frozen?_setCells]
        exact hf rfl off hoff
    · rw [AH.get_set_ne h r.ok _ i _ hlt (Ne.symm ei)]
      have := r.obj i
      cases hgi : h.get i with
      | none => rw [hgi] at this; exact this
      | some x =>
        rw [hgi] at this
        have key : ∀ g', ρ i = .img g' → (w.setCells g.b (g.base + a.off) vs').heap[g'.b]? = w.heap[g'.b]? := fun g' h1 =>
          heap_setCells_ne _ _ _ _ _ (fun e' => r.inj a.block i g g' (Ne.symm ei) hi h1 hrw e'.symm)
        cases x with
        | dead => exact this
        | cells c3 rw3 => obtain ⟨g', h1, h2⟩ := this; exact ⟨g', h1, h2.world (key g' h1)⟩
        | amap es => obtain ⟨g', h1, h2⟩ := this; exact ⟨g', h1, h2.world (key g' h1)⟩
  · obtain ⟨h1, h2, h3⟩ := os_setCells g.b vs' (g.base + a.off + 0) w
    refine ⟨Ext.refl ρ, h1, h2, h3, by rw [size_setCells]; exact Nat.le_refl _, fun b _ hno => heap_setCells_ne _ _ _ _ _ (fun e' => hno a.block g hi hrw e'.symm), fun i g' hi' hr' => .inr ⟨i, g', hi', hr', rfl⟩⟩

end Go.Ev
